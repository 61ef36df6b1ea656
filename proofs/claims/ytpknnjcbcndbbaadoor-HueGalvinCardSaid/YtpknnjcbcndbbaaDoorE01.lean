/- The document's tests of hues: walks. The document's degree and two sides: walks. Hues that the program returns, read as a list, are proper. -/
import Derived.Test.YtpknnjcbcndbbaaDoorA14
import Derived.Test.YtpknnjcbcndbbaaDoorA06
import Derived.Test.YtpknnjcbcndbbaaDoorA12
import Derived.Test.YtpknnjcbcndbbaaDoorA16
import Derived.Test.YtpknnjcbcndbbaaDoorA15
set_option linter.unusedVariables false
set_option linter.unusedSimpArgs false
namespace Go.Proofs.YtpknnjcbcndbbaaDoor
open Go.RowKit Go.Shelf

/-- a slice of integers, nil where there are none -/
def SrcI (w : World) (p : Option Addr) (m : Nat) (f : Nat → Int) : Prop := m ≠ 0 → ∃ b o, p = some ⟨b, o, none⟩ ∧ b < w.heap.size ∧ ∀ j, j < m → w.cell? ⟨b, o + j, none⟩ = some (.int .i64 (f j))
theorem SrcI.below {k : Nat} {w W : World} {p : Option Addr} {m : Nat} {f : Nat → Int} (h : SrcI w p m f) (hB : Below k w W) (hk : w.heap.size ≤ k) : SrcI W p m f := fun h0 => by
  obtain ⟨b, o, e, h1, h2⟩ := h h0
  exact ⟨b, o, e, Nat.lt_of_lt_of_le h1 hB.size, fun j hj => (hB.cell (p := ⟨b, o + j, none⟩) (Nat.lt_of_lt_of_le h1 hk)).trans (h2 j hj)⟩
theorem QRow.srcI {w : World} {base : Nat} {p : Option Addr} {m c : Nat} {xs : List Value} {f : Nat → Int} (h : QRow w base 3 1 (.slice p m c) m xs) (hx : ∀ j, j < m → xs[j]? = some (.int .i64 (f j))) : SrcI w p m f := fun hm => by
  obtain ⟨b, o, cap, e, _, hb, _, _, hc, _⟩ := h.at (by omega)
  cases e
  exact ⟨b, o, rfl, hb, fun j hj => (hc j (by omega)).trans (hx j hj)⟩
/-- a Bool that says whether P -/
def BoolP (P : Prop) (e : Ending) : Prop := ∃ b, e = .returned (.bool b) ∧ (b = true ↔ P)
theorem BoolP.yes {P : Prop} (h : P) : BoolP P (.returned (.bool true)) := ⟨true, rfl, fun _ => h, fun _ => rfl⟩
theorem BoolP.no {P : Prop} (h : ¬ P) : BoolP P (.returned (.bool false)) := ⟨false, rfl, (fun h => by cases h), fun h' => absurd h' h⟩
def meetB (a b : Int × Int) : Bool := a.1 == b.1 || a.1 == b.2 || a.2 == b.1 || a.2 == b.2
set_option maxHeartbeats 1000000 in
theorem meet_any (a b : Int × Int) (w : World) :
    Calls Tryd.prog 57 #[.agg #[.int .i64 a.1, .int .i64 a.2], .agg #[.int .i64 b.1, .int .i64 b.2]] w fun e w' => e = .returned (.bool (meetB a b)) ∧ Below w.heap.size w w' := by
  obtain ⟨a1, a2⟩ := a
  obtain ⟨b1, b2⟩ := b
  have k0 : BoxN ((w.alloc (.cells #[.int .i64 a1, .int .i64 a2] 72)).alloc (.cells #[.int .i64 b1, .int .i64 b2] 72)) w.heap.size 72 #[.int .i64 a1, .int .i64 a2] := BoxN.alloc (BoxN.new rfl) _
  have k1 : BoxN ((w.alloc (.cells #[.int .i64 a1, .int .i64 a2] 72)).alloc (.cells #[.int .i64 b1, .int .i64 b2] 72)) (w.heap.size + 1) 72 #[.int .i64 b1, .int .i64 b2] := BoxN.new (by simp)
  have hB : Below w.heap.size w ((w.alloc (.cells #[.int .i64 a1, .int .i64 a2] 72)).alloc (.cells #[.int .i64 b1, .int .i64 b2] 72)) := ((Below.refl _ w).alloc (Nat.le_refl _) _).alloc (by simp) _
  have HM : Hid (meetB (a1, a2) (b1, b2) = (a1 == b1 || a1 == b2 || a2 == b1 || a2 == b2)) := rfl
  have HB := Lib.hid hB
  clear hB
  go_enter Tryd.func57, Tryd.ntmps57
  go_upto_region 1 with (fail)
  generalize ((w.alloc (.cells #[.int .i64 a1, .int .i64 a2] 72)).alloc (.cells #[.int .i64 b1, .int .i64 b2] 72)) = V at *
  have l0 : V.cell? ⟨w.heap.size, 0, none⟩ = some (.int .i64 a1) := by rw [k0.cell]; rfl
  have l1 : V.cell? ⟨w.heap.size, 1, none⟩ = some (.int .i64 a2) := by rw [k0.cell]; rfl
  have l2 : V.cell? ⟨w.heap.size + 1, 0, none⟩ = some (.int .i64 b1) := by rw [k1.cell]; rfl
  have l3 : V.cell? ⟨w.heap.size + 1, 1, none⟩ = some (.int .i64 b2) := by rw [k1.cell]; rfl
  clear k0 k1
  cases h1 : (a1 == b1) with
  | true =>
    go_wp2
    go_ret
    exact ⟨by rw [HM.out, h1]; rfl, HB.out⟩
  | false =>
    cases h2 : (a1 == b2) with
    | true =>
      go_wp2
      go_ret
      exact ⟨by rw [HM.out, h1, h2]; rfl, HB.out⟩
    | false =>
      cases h3 : (a2 == b1) with
      | true =>
        go_wp2
        go_ret
        exact ⟨by rw [HM.out, h1, h2, h3]; rfl, HB.out⟩
      | false =>
        generalize h4 : (a2 == b2) = q at *
        go_wp2
        go_ret
        exact ⟨by rw [HM.out, h1, h2, h3]; rfl, HB.out⟩
set_option maxRecDepth 100000 in
theorem rhues_any (ea p : Option Addr) (el ec m c : Nat) (f : Nat → Int) (w : World) (hm : m ≤ 1099511627776) (h : SrcI w p m f) :
    Calls Tryd.prog 17 #[.slice ea el ec, .slice p m c] w fun e w' => BoolP ((∀ j, j < m → 0 ≤ f j) ∧ m = el) e ∧ w' = w := by
  have H := Lib.hid h
  clear h
  go_enter Tryd.func17, Tryd.ntmps17
  go_upto_region 2 with (fail)
  go_loopw [5] (fun s5 wr => ∃ j : Nat, j ≤ m ∧ s5 = .int .i64 (j : Int) ∧ Hid (∀ i, i < j → 0 ≤ f i) ∧ Hid (wr = w)) (fun s5 _ => m - (intOf s5).toNat)
  case atStart => exact ⟨0, by omega, rfl, (fun i hi => by omega), rfl⟩
  case round =>
    obtain ⟨j, hj, rfl, hp, hw⟩ := hrel
    rw [hw.out]
    by_cases hjm : j < m
    · obtain ⟨b, o, rfl, hb, hc⟩ := H.out (by omega)
      have k1 := hc j hjm
      have g1 : (j : Int) < (m : Int) := by omega
      have g0 : (0 : Int) ≤ (j : Int) := by omega
      clear hc
      by_cases hf : f j < 0
      · have HF := Lib.hid hf
        obtain ⟨z, hz⟩ : ∃ z, Hid (z = f j) := ⟨_, rfl⟩
        rw [← hz.out] at k1 hf
        go_wp2
        go_ret
        exact ⟨BoolP.no fun h => absurd (h.1 j hjm) (by have := HF.out; omega), rfl⟩
      · have HN : Hid (∀ i, i < j + 1 → 0 ≤ f i) := fun i hi => by
          by_cases e : i = j
          · subst e; omega
          · exact hp.out i (by omega)
        obtain ⟨z, hz⟩ : ∃ z, Hid (z = f j) := ⟨_, rfl⟩
        rw [← hz.out] at k1 hf
        go_wp2
        exact ⟨⟨j + 1, by omega, int_eq (by omega), HN, Lib.hid trivial⟩, by simp [intOf]; omega⟩
    · have g1 : ¬ (j : Int) < (m : Int) := by omega
      have HP : Hid (∀ i, i < m → 0 ≤ f i) := fun i hi => hp.out i (by omega)
      by_cases hml : m = el
      · have e1 : ((m : Int) == (el : Int)) = true := by rw [hml]; simp
        have HML := Lib.hid hml
        clear hml
        go_wp2
        go_ret
        exact ⟨BoolP.yes ⟨HP.out, HML.out⟩, rfl⟩
      · have e1 : ((m : Int) == (el : Int)) = false := by rw [beq_eq_false_iff_ne]; omega
        have HML := Lib.hid hml
        clear hml
        go_wp2
        go_ret
        exact ⟨BoolP.no fun h => absurd h.2 HML.out, rfl⟩
set_option maxRecDepth 100000 in
theorem rbelow_any (p : Option Addr) (m c : Nat) (most : Int) (f : Nat → Int) (w : World) (hm : m ≤ 1099511627776) (h : SrcI w p m f) :
    Calls Tryd.prog 19 #[.slice p m c, .int .i64 most] w fun e w' => BoolP (∀ j, j < m → f j < most) e ∧ w' = w := by
  have H := Lib.hid h
  clear h
  go_enter Tryd.func19, Tryd.ntmps19
  go_upto_region 2 with (fail)
  go_loopw [5] (fun s5 wr => ∃ j : Nat, j ≤ m ∧ s5 = .int .i64 (j : Int) ∧ Hid (∀ i, i < j → f i < most) ∧ Hid (wr = w)) (fun s5 _ => m - (intOf s5).toNat)
  case atStart => exact ⟨0, by omega, rfl, (fun i hi => by omega), rfl⟩
  case round =>
    obtain ⟨j, hj, rfl, hp, hw⟩ := hrel
    rw [hw.out]
    by_cases hjm : j < m
    · obtain ⟨b, o, rfl, hb, hc⟩ := H.out (by omega)
      have k1 := hc j hjm
      have g1 : (j : Int) < (m : Int) := by omega
      have g0 : (0 : Int) ≤ (j : Int) := by omega
      clear hc
      by_cases hf : most ≤ f j
      · have HF := Lib.hid hf
        obtain ⟨z, hz⟩ : ∃ z, Hid (z = f j) := ⟨_, rfl⟩
        rw [← hz.out] at k1 hf
        go_wp2
        go_ret
        exact ⟨BoolP.no fun h => absurd (h j hjm) (by have := HF.out; omega), rfl⟩
      · have HN : Hid (∀ i, i < j + 1 → f i < most) := fun i hi => by
          by_cases e : i = j
          · subst e; omega
          · exact hp.out i (by omega)
        obtain ⟨z, hz⟩ : ∃ z, Hid (z = f j) := ⟨_, rfl⟩
        rw [← hz.out] at k1 hf
        go_wp2
        exact ⟨⟨j + 1, by omega, int_eq (by omega), HN, Lib.hid trivial⟩, by simp [intOf]; omega⟩
    · have g1 : ¬ (j : Int) < (m : Int) := by omega
      have HP : Hid (∀ i, i < m → f i < most) := fun i hi => hp.out i (by omega)
      go_wp2
      go_ret
      exact ⟨BoolP.yes HP.out, rfl⟩
/-- no two edges that meet have the same hue -/
def ProperI (ps : List (Int × Int)) (f : Nat → Int) : Prop := ∀ i, i < ps.length → ∀ k, k < i → ¬ (f i = f k ∧ meetB (ps[i]?.getD (0, 0)) (ps[k]?.getD (0, 0)) = true)
set_option maxRecDepth 100000 in
set_option maxHeartbeats 2000000 in
theorem rproper_any (a p : Option Addr) (cap c : Nat) (ps : List (Int × Int)) (f : Nat → Int) (w : World) (hm : ps.length ≤ 1099511627776) (hg : Pairs w a ps) (h : SrcI w p ps.length f) :
    Calls Tryd.prog 18 #[.slice a ps.length cap, .slice p ps.length c] w fun e w' => BoolP (ProperI ps f) e ∧ Below w.heap.size w w' := by
  have H := Lib.hid h
  have HG := Lib.hid hg
  obtain ⟨len, HL⟩ : ∃ len, Hid (ps.length = len) := ⟨_, rfl⟩
  rw [HL.out] at hm H ⊢
  clear h hg
  go_enter Tryd.func18, Tryd.ntmps18
  go_upto_region 2 with (fail)
  go_loopw [5] (fun s5 wr => ∃ j : Nat, j ≤ len ∧ s5 = .int .i64 (j : Int) ∧ Hid (∀ i, i < j → ∀ k, k < i → ¬ (f i = f k ∧ meetB (ps[i]?.getD (0, 0)) (ps[k]?.getD (0, 0)) = true)) ∧ Hid (Below w.heap.size w wr)) (fun s5 _ => len - (intOf s5).toNat)
  case atStart => exact ⟨0, by omega, rfl, (fun i hi => by omega), Below.refl _ _⟩
  case round =>
    obtain ⟨i, hi, rfl, hp, hB⟩ := hrel
    by_cases hil : i < len
    · have g1 : (i : Int) < (len : Int) := by omega
      have g0 : (0 : Int) ≤ (i : Int) := by omega
      go_upto_region 5 with (fail)
      go_loopw [6] (fun s6 wr2 => ∃ k : Nat, k ≤ i ∧ s6 = .int .i64 (k : Int) ∧ Hid (∀ k', k' < k → ¬ (f i = f k' ∧ meetB (ps[i]?.getD (0, 0)) (ps[k']?.getD (0, 0)) = true)) ∧ Hid (Below w.heap.size w wr2)) (fun s6 _ => i - (intOf s6).toNat)
      case atStart => exact ⟨0, by omega, rfl, (fun i hi => by omega), hB⟩
      case round =>
        obtain ⟨k, hk, rfl, hq, hB2⟩ := hrel
        by_cases hki : k < i
        · have g2 : (k : Int) < (i : Int) := by omega
          have g3 : (0 : Int) ≤ (k : Int) := by omega
          have g4 : (k : Int) < (len : Int) := by omega
          obtain ⟨b, o, rfl, hb, hc⟩ := H.out (by omega)
          obtain ⟨eb, eo, rfl, heb, hec⟩ := HG.out (fun e => by rw [e] at HL; have := HL.out; simp at this; omega)
          have e1 := hec i (by rw [HL.out]; exact hil)
          have e2 := hec k (by rw [HL.out]; omega)
          have k1 := hc i hil
          have k2 := hc k (by omega)
          have hbr : b < wr.heap.size := Nat.lt_of_lt_of_le hb hB2.out.size
          have hebr : eb < wr.heap.size := Nat.lt_of_lt_of_le heb hB2.out.size
          have r0 : ∀ d : BW wr.heap.size wr, d.w.cell? ⟨b, o + i, none⟩ = some (.int .i64 (f i)) := fun d => d.cell hbr ((hB2.out.cell (p := ⟨b, o + i, none⟩) hb).trans k1)
          have r1 : ∀ d : BW wr.heap.size wr, d.w.cell? ⟨b, o + k, none⟩ = some (.int .i64 (f k)) := fun d => d.cell hbr ((hB2.out.cell (p := ⟨b, o + k, none⟩) hb).trans k2)
          have r2 : ∀ d : BW wr.heap.size wr, d.w.cell? ⟨eb, eo + i * 2, none⟩ = some (.int .i64 (ps[i]?.getD (0, 0)).1) := fun d => d.cell hebr ((hB2.out.cell (p := ⟨eb, eo + i * 2, none⟩) heb).trans e1.1)
          have r3 : ∀ d : BW wr.heap.size wr, d.w.cell? ⟨eb, eo + i * 2 + 1, none⟩ = some (.int .i64 (ps[i]?.getD (0, 0)).2) := fun d => d.cell hebr ((hB2.out.cell (p := ⟨eb, eo + i * 2 + 1, none⟩) heb).trans e1.2)
          have r4 : ∀ d : BW wr.heap.size wr, d.w.cell? ⟨eb, eo + k * 2, none⟩ = some (.int .i64 (ps[k]?.getD (0, 0)).1) := fun d => d.cell hebr ((hB2.out.cell (p := ⟨eb, eo + k * 2, none⟩) heb).trans e2.1)
          have r5 : ∀ d : BW wr.heap.size wr, d.w.cell? ⟨eb, eo + k * 2 + 1, none⟩ = some (.int .i64 (ps[k]?.getD (0, 0)).2) := fun d => d.cell hebr ((hB2.out.cell (p := ⟨eb, eo + k * 2 + 1, none⟩) heb).trans e2.2)
          have HME : Hid (∀ d : BW wr.heap.size wr, Calls Tryd.prog 57 #[.agg #[.int .i64 (ps[i]?.getD (0, 0)).1, .int .i64 (ps[i]?.getD (0, 0)).2], .agg #[.int .i64 (ps[k]?.getD (0, 0)).1, .int .i64 (ps[k]?.getD (0, 0)).2]] d.w fun e w' => e = .returned (.bool (meetB (ps[i]?.getD (0, 0)) (ps[k]?.getD (0, 0)))) ∧ ∃ d' : BW wr.heap.size wr, w' = d'.w) := fun d => Calls.bw ((meet_any _ _ d.w).mono fun e w' ⟨h1, h2⟩ => ⟨h1, d.b.trans (h2.mono d.b.size)⟩)
          have HNX : Hid (¬ (f i = f k ∧ meetB (ps[i]?.getD (0, 0)) (ps[k]?.getD (0, 0)) = true) → ∀ k', k' < k + 1 → ¬ (f i = f k' ∧ meetB (ps[i]?.getD (0, 0)) (ps[k']?.getD (0, 0)) = true)) := fun h k' hk' => by
            by_cases e : k' = k
            · subst e; exact h
            · exact hq.out k' (by omega)
          have HBAD : Hid (f i = f k → meetB (ps[i]?.getD (0, 0)) (ps[k]?.getD (0, 0)) = true → ¬ ProperI ps f) := fun h1 h2 h => h i (by rw [HL.out]; exact hil) k hki ⟨h1, h2⟩
          clear hc hec e1 e2 k1 k2 hbr hebr
          obtain ⟨mb, hmb⟩ : ∃ mb, Hid (mb = meetB (ps[i]?.getD (0, 0)) (ps[k]?.getD (0, 0))) := ⟨_, rfl⟩
          rw [← hmb.out] at HME HNX HBAD
          generalize (ps[i]?.getD (0, 0)).1 = x1 at *
          generalize (ps[i]?.getD (0, 0)).2 = x2 at *
          generalize (ps[k]?.getD (0, 0)).1 = y1 at *
          generalize (ps[k]?.getD (0, 0)).2 = y2 at *
          by_cases hff : f i = f k
          · have e3 : (f i == f k) = true := by rw [hff]; simp
            have HFF := Lib.hid hff
            clear hff
            generalize f i = fi at *
            generalize f k = fk at *
            go_upto_region 7 with (fail)
            refine wp_region_bw (by kernel_rfl) (by kernel_rfl) ?_
            repeat (go_big_quiet_step ((first
              | rfl
              | (go_at_call 57; exact HME.out _))))
            refine wpQuiet_nil ?_
            rintro _ ⟨d, rfl⟩
            have HBD := Lib.hid (hB2.out.trans (d.b.mono hB2.out.size))
            clear r0 r1 r2 r3 r4 r5 HME
            generalize d.w = Z at *
            cases mb with
            | true =>
              have HN := Lib.hid (HBAD.out HFF.out rfl)
              go_wp2
              go_ret
              exact ⟨BoolP.no HN.out, HBD.out⟩
            | false =>
              have HN := Lib.hid (HNX.out (fun h => by cases h.2))
              go_wp2
              exact ⟨⟨k + 1, by omega, int_eq (by omega), HN, HBD⟩, by simp [intOf]; omega⟩
          · have e3 : (f i == f k) = false := by rw [beq_eq_false_iff_ne]; exact hff
            have HN := Lib.hid (HNX.out (fun h => hff h.1))
            clear hff HBAD HNX
            generalize f i = fi at *
            generalize f k = fk at *
            go_upto_region 7 with (fail)
            refine wp_region_bw (by kernel_rfl) (by kernel_rfl) ?_
            repeat (go_big_quiet_step (rfl))
            refine wpQuiet_nil ?_
            rintro _ ⟨d, rfl⟩
            have HBD := Lib.hid (hB2.out.trans (d.b.mono hB2.out.size))
            clear r0 r1 r2 r3 r4 r5 HME
            generalize d.w = Z at *
            go_wp2
            exact ⟨⟨k + 1, by omega, int_eq (by omega), HN, HBD⟩, by simp [intOf]; omega⟩
        · have g2 : ¬ (k : Int) < (i : Int) := by omega
          have HN : Hid (∀ i', i' < i + 1 → ∀ k, k < i' → ¬ (f i' = f k ∧ meetB (ps[i']?.getD (0, 0)) (ps[k]?.getD (0, 0)) = true)) := fun i' hi' => by
            by_cases e : i' = i
            · subst e; exact fun k' hk' => hq.out k' (by omega)
            · exact hp.out i' (by omega)
          go_wp2
          exact ⟨⟨i + 1, by omega, int_eq (by omega), HN, hB2⟩, by simp [intOf]; omega⟩
    · have g1 : ¬ (i : Int) < (len : Int) := by omega
      have HP : Hid (ProperI ps f) := fun i' hi' => hp.out i' (by rw [HL.out] at hi'; omega)
      go_wp2
      go_ret
      exact ⟨BoolP.yes HP.out, hB.out⟩
end Go.Proofs.YtpknnjcbcndbbaaDoor
namespace Go.Proofs.YtpknnjcbcndbbaaDoor
open Go.RowKit Go.Shelf

theorem dgTo_stop {g : List Nat} {n : Nat} (h : g.length = n) : ∀ d, dgTo g (n + d) = dgTo g n
  | 0 => rfl
  | d + 1 => by
    have e : g[n + d]?.getD 0 = 0 := by rw [List.getElem?_eq_none (by omega)]; rfl
    have s0 : size 0 = 0 := by decide +kernel
    show max (dgTo g (n + d)) (size (g[n + d]?.getD 0)) = _
    rw [e, s0, dgTo_stop h d, Nat.max_zero]
theorem dgTo_le64' (g : List Nat) : ∀ k, dgTo g k ≤ 64
  | 0 => by unfold dgTo; omega
  | k + 1 => by unfold dgTo; have := dgTo_le64' g k; have := size_le (g[k]?.getD 0); omega
set_option maxRecDepth 100000 in
theorem rdegree_any (n : Nat) (a : Option Addr) (cap : Nat) (g : List Nat) (w : World) (hl : g.length = n) (hn : n ≤ 16) (hsm : ∀ i : Nat, Sm (g[i]?.getD 0)) (hg : Sets w a g) :
    Calls Tryd.prog 27 #[.slice a n cap] w fun e w' => e = .returned (.int .i64 (dgTo g 16 : Nat)) ∧ w' = w := by
  obtain ⟨b, off, rfl, hb, hc⟩ := hg
  have HC := Lib.hid hc
  have HS := Lib.hid hsm
  have HLN := Lib.hid hl
  have HST : Hid (dgTo g 16 = dgTo g n) := by have := dgTo_stop hl (16 - n); rw [show n + (16 - n) = 16 by omega] at this; exact this
  clear hc hsm hl
  go_enter Tryd.func27, Tryd.ntmps27
  go_upto_region 3 with (fail)
  go_loopw [3, 4] (fun s3 s4 wr => ∃ k : Nat, k ≤ n ∧ s4 = .int .i64 (k : Int) ∧ s3 = .int .i64 (dgTo g k : Nat) ∧ Hid (wr = w)) (fun _ s4 _ => 40 - (intOf s4).toNat)
  case atStart => exact ⟨0, by omega, rfl, rfl, rfl⟩
  case round =>
    obtain ⟨k, hk, rfl, rfl, hw⟩ := hrel
    rw [hw.out]
    by_cases hkn : k < n
    · have h1 : (k : Int) < (n : Int) := by omega
      have h0 : (0 : Int) ≤ (k : Int) := by omega
      have hck := HC.out k (by rw [HLN.out]; exact hkn)
      have hgk := HS.out k
      have HN : Hid (dgTo g (k + 1) = max (dgTo g k) (size (g[k]?.getD 0))) := rfl
      obtain ⟨x, hx⟩ : ∃ x, Hid (x = g[k]?.getD 0) := ⟨_, rfl⟩
      rw [← hx.out] at hck hgk HN
      have HSZ := Lib.hid (size_any x w hgk)
      have hd := dgTo_le64' g k
      have hs := size_le x
      generalize dgTo g k = d at *
      generalize size x = sx at *
      have hmax : max ((d : Nat) : Int) ((sx : Nat) : Int) = ((max d sx : Nat) : Int) := by omega
      go_wp2_with (go_at_call 59; refine Calls.mono HSZ.out ?_; rintro e wz ⟨rfl, hwz⟩; subst hwz; try dsimp only)
      exact ⟨⟨k + 1, by omega, int_eq (by omega), int_eq (by rw [HN.out]), Lib.hid trivial⟩, by simp [intOf]; omega⟩
    · have h1 : ¬ (k : Int) < (n : Int) := by omega
      have hke : k = n := by omega
      rw [hke, ← HST.out]
      clear hke
      go_wp2
      go_ret
      exact ⟨rfl, rfl⟩
def boolN2 : Value → Nat
  | .bool true => 1
  | _ => 0
/-- within the inner loop of Sides, from (l0, r0), k vertices on; h: the first half of the round is behind -/
structure SdI (g : List Nat) (n l0 r0 k l r : Nat) (again : Bool) : Prop where
  st : RSt g n l r
  subL : ∀ x, l0.testBit x = true → l.testBit x = true
  subR : ∀ x, r0.testBit x = true → r.testBit x = true
  up : again = true → l0 + r0 < l + r
  same : again = false → l = l0 ∧ r = r0 ∧ ∀ k', k' < k → Shut g l r k'
/-- behind the first half of a round -/
structure SdH (g : List Nat) (n l0 r0 k l r : Nat) (again : Bool) : Prop where
  st : RSt g n l r
  subL : ∀ x, l0.testBit x = true → l.testBit x = true
  subR : ∀ x, r0.testBit x = true → r.testBit x = true
  up : again = true → l0 + r0 < l + r
  same : again = false → l = l0 ∧ r = r0 ∧ (∀ k', k' < k → Shut g l r k') ∧ (l.testBit k = true → ldiff (g[k]?.getD 0) r = 0)
section
variable {g : List Nat} {n l0 r0 k l r : Nat} {again : Bool}
theorem or_lt3 {a b : Nat} (h : ldiff b a ≠ 0) : a < a ||| b := by
  refine Nat.lt_of_le_of_ne Nat.left_le_or fun e => h (Nat.eq_of_testBit_eq fun i => ?_)
  rw [Nat.zero_testBit, testBit_ldiff]
  have := congrArg (fun z => z.testBit i) e
  simp only [Nat.testBit_or] at this
  cases hb : b.testBit i with
  | false => rfl
  | true => rw [hb, Bool.or_true] at this; rw [this]; rfl
theorem SdI.addR (U : Und g n) (h : SdI g n l0 r0 k l r again) (hb : l.testBit k = true) (hd : ldiff (g[k]?.getD 0) r ≠ 0) : SdH g n l0 r0 k l (r ||| (g[k]?.getD 0)) true := by
  have hlt := or_lt3 hd
  refine ⟨h.st.addR U hb, h.subL, fun x hx => ?_, fun _ => ?_, fun h => by cases h⟩
  · rw [Nat.testBit_or, h.subR x hx]; rfl
  · cases again with
    | true => have := h.up rfl; omega
    | false => obtain ⟨e1, e2, _⟩ := h.same rfl; omega
theorem SdI.skipR (h : SdI g n l0 r0 k l r again) (hn : ¬ (l.testBit k = true ∧ ldiff (g[k]?.getD 0) r ≠ 0)) : SdH g n l0 r0 k l r again :=
  ⟨h.st, h.subL, h.subR, h.up, fun e => by
    obtain ⟨h1, h2, h3⟩ := h.same e
    exact ⟨h1, h2, h3, fun hb => Classical.byContradiction fun hc => hn ⟨hb, hc⟩⟩⟩
theorem SdH.addL (U : Und g n) (h : SdH g n l0 r0 k l r again) (hb : r.testBit k = true) (hd : ldiff (g[k]?.getD 0) l ≠ 0) : SdI g n l0 r0 (k + 1) (l ||| (g[k]?.getD 0)) r true := by
  have hlt := or_lt3 hd
  refine ⟨h.st.addL U hb, fun x hx => ?_, h.subR, fun _ => ?_, fun h => by cases h⟩
  · rw [Nat.testBit_or, h.subL x hx]; rfl
  · cases again with
    | true => have := h.up rfl; omega
    | false => obtain ⟨e1, e2, _⟩ := h.same rfl; omega
theorem SdH.next2 (h : SdH g n l0 r0 k l r again) (hn : ¬ (r.testBit k = true ∧ ldiff (g[k]?.getD 0) l ≠ 0)) : SdI g n l0 r0 (k + 1) l r again :=
  ⟨h.st, h.subL, h.subR, h.up, fun e => by
    obtain ⟨h1, h2, h3, h4⟩ := h.same e
    refine ⟨h1, h2, fun k' hk' => ?_⟩
    by_cases e' : k' = k
    · subst e'; exact ⟨h4, fun hb => Classical.byContradiction fun hc => hn ⟨hb, hc⟩⟩
    · exact h3 k' (by omega)⟩
theorem RSt.bound (h : RSt g n l r) : l ≤ full n ∧ r ≤ full n := by
  have key : ∀ s : Nat, (∀ x, s.testBit x = true → x < n) → s ≤ full n := fun s hs => by
    have : s < 2 ^ n := Nat.lt_pow_two_of_testBit s fun i hi => by
      cases hb : s.testBit i with
      | false => rfl
      | true => have := hs i hb; omega
    unfold full; omega
  exact ⟨key l fun x hx => (h.left x hx).1, key r fun x hx => (h.right x hx).1⟩
end
/-- between rounds of the outer loop: the first i vertices have a side -/
def SdO (g : List Nat) (n i l r : Nat) : Prop := RSt g n l r ∧ (∀ k, k < n → Shut g l r k) ∧ ∀ y, y < i → (l ||| r).testBit y = true
/-- between passes -/
def SdM (g : List Nat) (n i l r : Nat) (again : Bool) : Prop := RSt g n l r ∧ (∀ y, y < i + 1 → (l ||| r).testBit y = true) ∧ (again = true ∨ ∀ k, k < n → Shut g l r k)
theorem shut_zero (g : List Nat) (k : Nat) : Shut g 0 0 k := ⟨fun h => by simp at h, fun h => by simp at h⟩
/-- what the document's Sides answers -/
def SidesA (g : List Nat) (n : Nat) (e : Ending) : Prop := ∃ (s : Nat) (two : Bool), e = .returned (.tuple #[.int .i64 (s : Int), .bool two]) ∧ SidesR g n s two
set_option maxRecDepth 100000 in
set_option maxHeartbeats 8000000 in
theorem rsides_any (n : Nat) (a : Option Addr) (cap : Nat) (g : List Nat) (w : World) (hl : g.length = n) (hn : n ≤ 16) (U : Und g n) (hsm : ∀ i : Nat, Sm (g[i]?.getD 0)) (hg : Sets w a g) :
    Calls Tryd.prog 30 #[.slice a n cap] w fun e w' => SidesA g n e ∧ w' = w := by
  obtain ⟨b, off, rfl, hb, hc⟩ := hg
  have HC := Lib.hid hc
  have HS := Lib.hid hsm
  have HLN := Lib.hid hl
  have HU := Lib.hid U
  have hfs := sm_full (n := n) (by omega)
  clear hc hsm hl U
  go_enter Tryd.func30, Tryd.ntmps30
  go_upto_region 3 with (fail)
  go_loopw [4, 5, 6] (fun s4 s5 s6 wr => ∃ l r i : Nat, i ≤ n ∧ s6 = .int .i64 (i : Int) ∧ s4 = .int .i64 (l : Int) ∧ s5 = .int .i64 (r : Int) ∧ Hid (SdO g n i l r) ∧ Hid (wr = w)) (fun _ _ s6 _ => 40 - (intOf s6).toNat)
  case atStart => exact ⟨0, 0, 0, by omega, rfl, rfl, rfl, ⟨RSt.zero g n, fun k _ => shut_zero g k, fun y hy => by omega⟩, rfl⟩
  case round =>
    obtain ⟨l, r, i, hi, rfl, rfl, rfl, hO, hw⟩ := hrel
    rw [hw.out]
    obtain ⟨bl, br⟩ := hO.out.1.bound
    have hsl : Sm l := Nat.lt_of_le_of_lt bl hfs
    have hsr : Sm r := Nat.lt_of_le_of_lt br hfs
    by_cases hin : i < n
    · have h1 : (i : Int) < (n : Int) := by omega
      have h0 : (0 : Int) ≤ (i : Int) := by omega
      have hi20 : i < 20 := by omega
      cases hbit : (l ||| r).testBit i with
      | true =>
        have HN : Hid (SdO g n (i + 1) l r) := ⟨hO.out.1, hO.out.2.1, fun y hy => by
          by_cases e : y = i
          · subst e; exact hbit
          · exact hO.out.2.2 y (by omega)⟩
        have hsor := sm_or hsl hsr
        go_wp2
        exact ⟨⟨l, r, i + 1, by omega, int_eq (by omega), rfl, rfl, HN, Lib.hid trivial⟩, by simp [intOf]; omega⟩
      | false =>
        have HR : Hid (RSt g n (l ||| pw i) r) := hO.out.1.root HU.out hO.out.2.1 hin hbit hO.out.2.2
        have HCV : Hid (∀ y, y < i + 1 → ((l ||| pw i) ||| r).testBit y = true) := fun y hy => by
          rw [Nat.testBit_or, Nat.testBit_or, pw, Nat.testBit_two_pow]
          by_cases e : y = i
          · subst e; simp
          · have := hO.out.2.2 y (by omega)
            rw [Nat.testBit_or] at this
            cases hl' : l.testBit y <;> simp_all
        have hpi : wrap64 (2 ^ i) = ((pw i : Nat) : Int) := pw_cast _ (by omega)
        have hspi : Sm (pw i) := sm_pw (by omega)
        have hsor := sm_or hsl hsr
        have hsor2 := sm_or hsl hspi
        go_upto_region 8 with (fail)
        clear hpi
        obtain ⟨l1, hl1⟩ : ∃ l1, Hid (l1 = l ||| pw i) := ⟨_, rfl⟩
        rw [← hl1.out] at HR HCV
        rw [← hl1.out]
        clear hsor hsor2 hsl hsr bl br hO hspi hbit
        go_loopw [4, 5, 7] (fun s4 s5 s7 wr2 => ∃ (l r : Nat) (again : Bool), s4 = .int .i64 (l : Int) ∧ s5 = .int .i64 (r : Int) ∧ s7 = .bool again ∧ Hid (SdM g n i l r again) ∧ Hid (wr2 = w)) (fun s4 s5 s7 _ => 2 * (4194304 - (intOf s4).toNat - (intOf s5).toNat) + boolN2 s7)
        case atStart => exact ⟨l1, r, true, rfl, rfl, rfl, ⟨HR.out, HCV.out, .inl rfl⟩, rfl⟩
        case round =>
          clear HR HCV
          obtain ⟨l0, r0, again, rfl, rfl, rfl, hM, hw2⟩ := hrel
          have hR := Lib.hid hM.out.1
          have hCV := Lib.hid hM.out.2.1
          have hag := Lib.hid hM.out.2.2
          clear hM
          rw [hw2.out]
          obtain ⟨bl, br⟩ := hR.out.bound
          have hsl0 : Sm l0 := Nat.lt_of_le_of_lt bl hfs
          have hsr0 : Sm r0 := Nat.lt_of_le_of_lt br hfs
          cases again with
          | false =>
            have HN : Hid (SdO g n (i + 1) l0 r0) := ⟨hR.out, hag.out.elim (fun h => by cases h) id, hCV.out⟩
            go_wp2
            exact ⟨⟨l0, r0, i + 1, by omega, int_eq (by omega), rfl, rfl, HN, Lib.hid trivial⟩, by simp [intOf]; omega⟩
          | true =>
            go_upto_region 11 with (fail)
            go_loopw [4, 5, 7, 8] (fun s4 s5 s7 s8 wr3 => ∃ (l r : Nat) (again : Bool) (k : Nat), k ≤ n ∧ s8 = .int .i64 (k : Int) ∧ s4 = .int .i64 (l : Int) ∧ s5 = .int .i64 (r : Int) ∧ s7 = .bool again ∧ Hid (SdI g n l0 r0 k l r again) ∧ Hid (wr3 = w)) (fun _ _ _ s8 _ => 40 - (intOf s8).toNat)
            case atStart => exact ⟨l0, r0, false, 0, by omega, rfl, rfl, rfl, rfl, ⟨hR.out, fun _ h => h, fun _ h => h, (fun h => by cases h), fun _ => ⟨rfl, rfl, fun k hk => by omega⟩⟩, rfl⟩
            case round =>
              obtain ⟨l, r, again, k, hk, rfl, rfl, rfl, rfl, hI, hw3⟩ := hrel
              rw [hw3.out]
              obtain ⟨bl, br⟩ := hI.out.st.bound
              have hsl : Sm l := Nat.lt_of_le_of_lt bl hfs
              have hsr : Sm r := Nat.lt_of_le_of_lt br hfs
              by_cases hkn : k < n
              · have h1 : (k : Int) < (n : Int) := by omega
                have h0 : (0 : Int) ≤ (k : Int) := by omega
                have hk20 : k < 20 := by omega
                have hck := HC.out k (by rw [HLN.out]; exact hkn)
                have hgk := HS.out k
                obtain ⟨x, hx⟩ : ∃ x, Hid (x = g[k]?.getD 0) := ⟨_, rfl⟩
                rw [← hx.out] at hck hgk
                have hs1 := sm_ldiff r hgk
                have hs2 := sm_ldiff l hgk
                have hs4 := sm_or hsl hgk
                by_cases hc1 : l.testBit k = true ∧ ldiff x r ≠ 0
                · have hb1 := hc1.1
                  have hd1 : (((ldiff x r : Nat) : Int) != 0) = true := by rw [bne_iff_ne]; have := hc1.2; omega
                  have HST1 : Hid (SdH g n l0 r0 k l (r ||| x) true) := by
                    rw [hx.out]; exact hI.out.addR HU.out hc1.1 (by rw [← hx.out]; exact hc1.2)
                  have hsr1 := sm_or hsr hgk
                  clear hc1
                  go_upto_region 16 with (fail)
                  clear hd1 hb1
                  obtain ⟨r1, hr1⟩ : ∃ r1, Hid (r1 = r ||| x) := ⟨_, rfl⟩
                  rw [← hr1.out] at HST1 hsr1
                  rw [← hr1.out]
                  -- the second half
                  by_cases h2 : r1.testBit k = true ∧ ldiff x l ≠ 0
                  · have hb2 := h2.1
                    have hd2 : (((ldiff x l : Nat) : Int) != 0) = true := by rw [bne_iff_ne]; have := h2.2; omega
                    have HN : Hid (SdI g n l0 r0 (k + 1) (l ||| x) r1 true) := by
                      rw [hx.out]; exact HST1.out.addL HU.out (by exact h2.1) (by rw [← hx.out]; exact h2.2)
                    clear h2
                    go_wp2
                    exact ⟨⟨_, _, true, k + 1, by omega, int_eq (by omega), rfl, rfl, rfl, HN, Lib.hid trivial⟩, by simp [intOf]; omega⟩
                  · have HN : Hid (SdI g n l0 r0 (k + 1) l r1 true) := HST1.out.next2 (by rw [← hx.out]; exact h2)
                    cases hb2 : r1.testBit k with
                    | false =>
                      clear h2
                      go_wp2
                      exact ⟨⟨_, _, true, k + 1, by omega, int_eq (by omega), rfl, rfl, rfl, HN, Lib.hid trivial⟩, by simp [intOf]; omega⟩
                    | true =>
                      have hz2 : ldiff x l = 0 := Classical.byContradiction fun h => h2 ⟨hb2, h⟩
                      have hd2 : (((ldiff x l : Nat) : Int) != 0) = false := by rw [hz2]; rfl
                      clear h2 hz2
                      go_wp2
                      exact ⟨⟨_, _, true, k + 1, by omega, int_eq (by omega), rfl, rfl, rfl, HN, Lib.hid trivial⟩, by simp [intOf]; omega⟩
                · have HST1 : Hid (SdH g n l0 r0 k l r again) := hI.out.skipR (by rw [← hx.out]; exact hc1)
                  cases hb1 : l.testBit k with
                  | false =>
                    clear hc1
                    go_upto_region 16 with (fail)
                    -- the second half
                    by_cases h2 : r.testBit k = true ∧ ldiff x l ≠ 0
                    · have hb2 := h2.1
                      have hd2 : (((ldiff x l : Nat) : Int) != 0) = true := by rw [bne_iff_ne]; have := h2.2; omega
                      have HN : Hid (SdI g n l0 r0 (k + 1) (l ||| x) r true) := by
                        rw [hx.out]; exact HST1.out.addL HU.out (by exact h2.1) (by rw [← hx.out]; exact h2.2)
                      clear h2
                      go_wp2
                      exact ⟨⟨_, _, true, k + 1, by omega, int_eq (by omega), rfl, rfl, rfl, HN, Lib.hid trivial⟩, by simp [intOf]; omega⟩
                    · have HN : Hid (SdI g n l0 r0 (k + 1) l r again) := HST1.out.next2 (by rw [← hx.out]; exact h2)
                      cases hb2 : r.testBit k with
                      | false =>
                        clear h2
                        go_wp2
                        exact ⟨⟨_, _, again, k + 1, by omega, int_eq (by omega), rfl, rfl, rfl, HN, Lib.hid trivial⟩, by simp [intOf]; omega⟩
                      | true =>
                        have hz2 : ldiff x l = 0 := Classical.byContradiction fun h => h2 ⟨hb2, h⟩
                        have hd2 : (((ldiff x l : Nat) : Int) != 0) = false := by rw [hz2]; rfl
                        clear h2 hz2
                        go_wp2
                        exact ⟨⟨_, _, again, k + 1, by omega, int_eq (by omega), rfl, rfl, rfl, HN, Lib.hid trivial⟩, by simp [intOf]; omega⟩
                  | true =>
                    have hz1 : ldiff x r = 0 := Classical.byContradiction fun h => hc1 ⟨hb1, h⟩
                    have hd1 : (((ldiff x r : Nat) : Int) != 0) = false := by rw [hz1]; rfl
                    clear hc1 hz1
                    go_upto_region 16 with (fail)
                    clear hd1
                    -- the second half
                    by_cases h2 : r.testBit k = true ∧ ldiff x l ≠ 0
                    · have hb2 := h2.1
                      have hd2 : (((ldiff x l : Nat) : Int) != 0) = true := by rw [bne_iff_ne]; have := h2.2; omega
                      have HN : Hid (SdI g n l0 r0 (k + 1) (l ||| x) r true) := by
                        rw [hx.out]; exact HST1.out.addL HU.out (by exact h2.1) (by rw [← hx.out]; exact h2.2)
                      clear h2
                      go_wp2
                      exact ⟨⟨_, _, true, k + 1, by omega, int_eq (by omega), rfl, rfl, rfl, HN, Lib.hid trivial⟩, by simp [intOf]; omega⟩
                    · have HN : Hid (SdI g n l0 r0 (k + 1) l r again) := HST1.out.next2 (by rw [← hx.out]; exact h2)
                      cases hb2 : r.testBit k with
                      | false =>
                        clear h2
                        go_wp2
                        exact ⟨⟨_, _, again, k + 1, by omega, int_eq (by omega), rfl, rfl, rfl, HN, Lib.hid trivial⟩, by simp [intOf]; omega⟩
                      | true =>
                        have hz2 : ldiff x l = 0 := Classical.byContradiction fun h => h2 ⟨hb2, h⟩
                        have hd2 : (((ldiff x l : Nat) : Int) != 0) = false := by rw [hz2]; rfl
                        clear h2 hz2
                        go_wp2
                        exact ⟨⟨_, _, again, k + 1, by omega, int_eq (by omega), rfl, rfl, rfl, HN, Lib.hid trivial⟩, by simp [intOf]; omega⟩
              · have h1 : ¬ (k : Int) < (n : Int) := by omega
                have hke : k = n := by omega
                have HF : Hid (again = true ∨ ∀ k, k < n → Shut g l r k) := by
                  cases again with
                  | true => exact .inl rfl
                  | false => exact .inr fun k' hk' => (hI.out.same rfl).2.2 k' (by omega)
                have HCV : Hid (∀ y, y < i + 1 → (l ||| r).testBit y = true) := fun y hy => by
                  have := hCV.out y hy
                  rw [Nat.testBit_or, Bool.or_eq_true] at this ⊢
                  exact this.imp (hI.out.subL y) (hI.out.subR y)
                have HME : Hid (2 * (4194304 - l - r) + again.toNat < 2 * (4194304 - l0 - r0) + 1) := by
                  have hl := hsl.lt
                  have hr := hsr.lt
                  cases again with
                  | true => have := hI.out.up rfl; show 2 * _ + 1 < _; omega
                  | false => obtain ⟨e1, e2, _⟩ := hI.out.same rfl; rw [e1, e2]; show 2 * _ + 0 < _; omega
                have HRS : Hid (RSt g n l r) := hI.out.st
                have HMM : Hid (SdM g n i l r again) := ⟨HRS.out, HCV.out, HF.out⟩
                clear hke HF HCV HRS
                go_wp2
                cases again with
                | false => exact ⟨⟨_, _, _, ⟨l, rfl, r, rfl, .inl ⟨rfl, HMM, Lib.hid trivial⟩⟩, rfl, rfl, rfl⟩, by have := HME.out; simp [intOf, boolN2] at this ⊢; omega⟩
                | true => exact ⟨⟨_, _, _, ⟨l, rfl, r, rfl, .inr ⟨rfl, HMM, Lib.hid trivial⟩⟩, rfl, rfl, rfl⟩, by have := HME.out; simp [intOf, boolN2] at this ⊢; omega⟩
    · have h1 : ¬ (i : Int) < (n : Int) := by omega
      have hcov : ∀ y, y < n → (l ||| r).testBit y = true := fun y hy => hO.out.2.2 y (by omega)
      have hsan := sm_and_l r hsl
      by_cases hz : l &&& r = 0
      · have hd : (((l &&& r : Nat) : Int) != 0) = false := by rw [hz]; rfl
        have HG : Hid (SidesR g n l true) := .inl ⟨rfl, hO.out.1.good HU.out hO.out.2.1 hcov hz⟩
        clear hz hcov
        go_wp2
        refine bodyPost_ret (v := .tuple #[.int .i64 (l : Int), .bool true]) (by simp [results, Tryd.f30, go_sem]) rfl ?_
        exact ⟨⟨l, true, rfl, HG.out⟩, rfl⟩
      · have hd : (((l &&& r : Nat) : Int) != 0) = true := by rw [bne_iff_ne]; omega
        have HG : Hid (SidesR g n 0 false) := .inr ⟨rfl, rfl, hO.out.1.bad HU.out hz⟩
        clear hz hcov
        go_wp2
        refine bodyPost_ret (v := .tuple #[.int .i64 0, .bool false]) (by simp [results, Tryd.f30, go_sem]) rfl ?_
        exact ⟨⟨0, false, rfl, HG.out⟩, rfl⟩
end Go.Proofs.YtpknnjcbcndbbaaDoor
namespace Go.Proofs.YtpknnjcbcndbbaaDoor
open Go.RowKit

/-- the hue of the j-th edge -/
def hf (col : Nat × Nat → Option Nat) (ps : List (Int × Int)) (j : Nat) : Int := (((col (pr (qa ps j))).getD 0 : Nat) : Int)
theorem hl_get (col : Nat × Nat → Option Nat) (ps : List (Int × Int)) : ∀ j, j < ps.length → (hl col ps)[j]? = some (.int .i64 (hf col ps j)) := fun j hj => by
  unfold hl hf qa
  rw [List.getElem?_map, List.getElem?_eq_getElem hj]; rfl
theorem meet_ends {g : List Nat} {ps : List (Int × Int)} (E : EdgesOK g ps) {i k : Nat} (hi : i < ps.length) (hk : k < ps.length) (h : meetB (ps[i]?.getD (0, 0)) (ps[k]?.getD (0, 0)) = true) : ∃ v x y, pr (qa ps i) = ed v x ∧ pr (qa ps k) = ed v y := by
  obtain ⟨x, y, e1, p1, -⟩ := E.at hi
  obtain ⟨x', y', e2, p2, -⟩ := E.at hk
  rw [show ps[i]?.getD (0, 0) = ((x : Int), (y : Int)) from e1, show ps[k]?.getD (0, 0) = ((x' : Int), (y' : Int)) from e2] at h
  unfold meetB at h
  simp only [Bool.or_eq_true, beq_iff_eq] at h
  rcases h with ((h | h) | h) | h
  · have : x = x' := by omega
    subst this
    exact ⟨x, y, y', p1, p2⟩
  · have : x = y' := by omega
    subst this
    exact ⟨x, y, x', p1, by rw [p2, ed_comm]⟩
  · have : y = x' := by omega
    subst this
    exact ⟨y, x, y', by rw [p1, ed_comm], p2⟩
  · have : y = y' := by omega
    subst this
    exact ⟨y, x, x', by rw [p1, ed_comm], by rw [p2, ed_comm]⟩
theorem proper_of {g : List Nat} {ps : List (Int × Int)} {us : Nat → Nat} {col : Nat × Nat → Option Nat} (E : EdgesOK g ps) (H : HInv g us col) (hall : ∀ q ∈ ps, col (pr q) ≠ none) : ProperI ps (hf col ps) := fun i hi k hk hc => by
  obtain ⟨v, x, y, p1, p2⟩ := meet_ends E hi (by omega) hc.2
  have hm : ∀ j, j < ps.length → qa ps j ∈ ps := fun j hj => by
    unfold qa; rw [List.getElem?_eq_getElem hj]; exact List.getElem_mem hj
  obtain ⟨a, ha⟩ := Option.ne_none_iff_exists'.1 (hall _ (hm i hi))
  obtain ⟨b, hb⟩ := Option.ne_none_iff_exists'.1 (hall _ (hm k (by omega)))
  have e := hc.1
  unfold hf at e
  rw [ha, hb] at e
  simp only [Option.getD_some] at e
  have : a = b := by omega
  subst this
  rw [p1] at ha
  rw [p2] at hb
  have := H.inj v x y a ha hb
  subst this
  exact E.pr_ne hi (by omega) (by omega) (p1.trans p2.symm)
theorem hf_nonneg (col : Nat × Nat → Option Nat) (ps : List (Int × Int)) (j : Nat) : 0 ≤ hf col ps j := by unfold hf; omega
theorem hf_below {col : Nat × Nat → Option Nat} {ps : List (Int × Int)} {d : Nat} (hall : ∀ q ∈ ps, col (pr q) ≠ none) (h : ∀ q ∈ ps, ∀ x, col (pr q) = some x → x < d) : ∀ j, j < ps.length → hf col ps j < (d : Int) := fun j hj => by
  have hm : qa ps j ∈ ps := by unfold qa; rw [List.getElem?_eq_getElem hj]; exact List.getElem_mem hj
  obtain ⟨a, ha⟩ := Option.ne_none_iff_exists'.1 (hall _ hm)
  have := h _ hm a ha
  unfold hf; rw [ha]; simp only [Option.getD_some]; omega
end Go.Proofs.YtpknnjcbcndbbaaDoor
