/- Ascent lists: the law's copy of a list, the program's and the document's tests: walks. The program's test of an ascent list: a walk. The document's count of ascent lists: plain words, rows of int64. The document's count of ascent lists: a walk. A law's walk: ShiftAscents. -/
import Derived.Test.YtgpijajgaclhfaaDoorG601
set_option linter.unusedVariables false
set_option linter.unusedSimpArgs false
namespace Go.Proofs.YtgpijajgaclhfaaDoor
open Go.ChangeShapes Go.WideShapes Go.ChangeAt Go.RowKit Go.Shelf

/-- a slice of integers as it comes in -/
structure IntsIn (w : World) (a : Option Addr) (cap : Nat) (xs : List Int) : Prop where
  g : SrcI w a xs.length (fun j => xs[j]?.getD 0)
  fits : xs.length ≤ cap
  capm : cap ≤ maxLen
  nil : a = none → cap = 0
theorem open_ints_in {H : Type} {enc : TypeId × Value → H} {W : World} {a : Option Addr} {len cap : Nat} {d : DataW H} {p : List MemPlace}
    (h : ∃ fuel, DataW.trod enc Tryd.prog W 0 (fun _ => true) true fuel 28 (Value.slice a len cap).cells.toList = some (d, p)) : ∃ xs : List Int, IntsIn W a cap xs ∧ len = xs.length := by
  obtain ⟨fuel, hf⟩ := h
  rcases Go.ChangeShapes.open_ints Tryd.underlying28 Tryd.underlying3 cells3 hf with ⟨hcs, _⟩ | ⟨x, l, c, zs, hcs, _, hl, hm, hz, _, hcell, hwz⟩
  · simp [Value.cells] at hcs
    obtain ⟨rfl, rfl, rfl⟩ := hcs
    exact ⟨[], ⟨fun e => absurd rfl e, Nat.le_refl _, by decide, fun _ => rfl⟩, rfl⟩
  · simp [Value.cells] at hcs
    obtain ⟨rfl, rfl, rfl⟩ := hcs
    have hzl : zs.length = cap := by simpa using hz
    have hlen : (zs.take len).length = len := by rw [List.length_take]; omega
    refine ⟨zs.take len, ⟨fun hne => ?_, by rw [hlen]; exact hl, hm, fun e => (by cases e)⟩, hlen.symm⟩
    have hc0 := hcell 0 (by omega)
    have hx := addr_flat (spot_none hc0)
    generalize x.block = b at *
    generalize x.off = off at *
    subst hx
    refine ⟨b, off, rfl, ?_, fun j hj => ?_⟩
    · obtain ⟨o, ho, _⟩ := cells_of_cell hc0
      exact (Array.getElem?_eq_some_iff.1 ho).1
    · rw [hlen] at hj
      have := hcell j (by omega)
      rw [Addr.add_lit] at this
      rw [this]; simp [List.getElem?_take, hj, List.getD_eq_getElem?_getD]
set_option maxRecDepth 100000 in
set_option maxHeartbeats 2000000 in
theorem list_any (a : Option Addr) (cap : Nat) (xs : List Int) (w : World) (h : IntsIn w a cap xs) :
    Calls Tryd.prog 36 #[.slice a xs.length cap] w fun e w' => ∃ v, e = .returned v ∧ QRow w' w.heap.size 3 1 v (min xs.length 20) (ivI (fun j => xs[j]?.getD 0) (min xs.length 20)) ∧ Below w.heap.size w w' := by
  obtain ⟨i0, hi, hz0, hz1, hz2⟩ := info_parts info3
  have HS := Lib.hid ((h.g.take (Nat.min_le_left xs.length 20)).src)
  have HONE := Lib.hid (ivI_one (fun j => xs[j]?.getD 0) (min xs.length 20))
  have hf := h.fits
  have hcm := h.capm
  have hnil := h.nil
  unfold maxLen at hcm
  obtain ⟨k, hk⟩ : ∃ k, Hid (k = min xs.length 20) := ⟨_, rfl⟩
  rw [← hk.out] at HS HONE ⊢
  have hkl : k ≤ xs.length := by rw [hk.out]; exact Nat.min_le_left _ _
  have hkm : k ≤ 20 := by rw [hk.out]; exact Nat.min_le_right _ _
  have hmin : min (xs.length : Int) 20 = (k : Int) := by rw [hk.out]; omega
  generalize xs.length = len at *
  clear h
  cases a with
  | none =>
    have hc0 : cap = 0 := hnil rfl
    have hk0 : k = 0 := by omega
    clear hnil
    go_enter Tryd.func36, Tryd.ntmps36
    go_wp2
    go_ret
    refine ⟨_, rfl, ?_, Below.refl _ _⟩
    rw [hk0]
    exact QRow.nil _ _ _ _
  | some ad =>
    clear hnil
    go_enter Tryd.func36, Tryd.ntmps36
    go_wp2_with (at_builtin; go_must (refine wpList_append_qq _ rfl (.tmp 4) (.tmp 9) 28 rfl w.heap.size 3 i0 (.int .i64 0) 1 8 Tryd.underlying28 hi hz0 hz1 hz2 rfl (by decide) _ 0 [] rfl (QRow.nil _ _ _ _) (some ad) k cap (ivI (fun j => xs[j]?.getD 0) k) rfl HS.out HONE.out (by unfold maxLen; omega) (by omega) (Nat.le_refl _) ?_); intro v6 w6 hq6 hg6 ho6; have HB6 : Hid (Below w.heap.size w w6) := Below.grown (Below.refl _ w) hg6 (Nat.le_refl _) (fun kk e => by cases e); have HQ6 : Hid (QRow w6 w.heap.size 3 1 v6 k (ivI (fun j => xs[j]?.getD 0) k)) := (by rw [Nat.zero_add, List.nil_append] at hq6; exact hq6); clear hq6 hg6 ho6)
    go_ret
    exact ⟨v6, rfl, HQ6.out, HB6.out⟩
/-- how often a list rises in its first steps -/
def rs (f : Nat → Int) : Nat → Nat
  | 0 => 0
  | j + 1 => rs f j + if f j < f (j + 1) then 1 else 0
theorem rs_le (f : Nat → Int) : ∀ j, rs f j ≤ j
  | 0 => Nat.le_refl _
  | j + 1 => by have := rs_le f j; unfold rs; split <;> omega
/-- an ascent list -/
def AscP (f : Nat → Int) (m : Nat) : Prop := 1 ≤ m ∧ f 0 = 0 ∧ ∀ j, j + 1 < m → 0 ≤ f (j + 1) ∧ f (j + 1) ≤ (rs f j : Int) + 1
set_option maxRecDepth 100000 in
set_option maxHeartbeats 4000000 in
theorem rAsc_any (p : Option Addr) (m c : Nat) (f : Nat → Int) (w : World) (hm : m ≤ 20) (hS : SrcI w p m f) :
    Calls Tryd.prog 38 #[.slice p m c] w fun e w' => BoolP (AscP f m) e ∧ ∃ z, w' = w.drewN z := by
  by_cases h0 : m = 0
  · have HNO : Hid (¬ AscP f m) := fun h => by have := h.1; omega
    subst h0
    clear hS
    go_enter Tryd.func38, Tryd.ntmps38
    go_wp2
    go_ret
    exact ⟨BoolP.no HNO.out, 0, rfl⟩
  · obtain ⟨b, o, rfl, hb, hc⟩ := hS h0
    have HC := Lib.hid hc
    have c0 := hc 0 (by omega)
    rw [Nat.add_zero] at c0
    have q0 : ((m : Int) == 0) = false := by rw [beq_eq_false_iff_ne]; omega
    have q00 : (0 : Int) < (m : Int) := by omega
    obtain ⟨f0, hf0⟩ : ∃ f0, Hid (f0 = f 0) := ⟨_, rfl⟩
    rw [← hf0.out] at c0
    clear hc hS
    by_cases h1 : f0 = 0
    · rw [h1] at c0
      have HF0 : Hid (f 0 = 0) := by rw [← hf0.out]; exact h1
      clear h1
      go_enter Tryd.func38, Tryd.ntmps38
      go_upto_region 5 with (fail)
      go_loopw [3, 4] (fun s3 s4 wr => ∃ i : Nat, i + 1 ≤ m ∧ s4 = .int .i64 ((i + 1 : Nat) : Int) ∧ s3 = .int .i64 ((rs f i : Nat) : Int) ∧ Hid (∀ j, j < i → 0 ≤ f (j + 1) ∧ f (j + 1) ≤ (rs f j : Int) + 1) ∧ ∃ z, Hid (wr = w.drewN z)) (fun _ s4 _ => m - (intOf s4).toNat)
      case atStart => exact ⟨0, by omega, rfl, rfl, (fun j hj => by omega), 0, rfl⟩
      case round =>
        obtain ⟨i, hi, rfl, rfl, hp, z, hw⟩ := hrel
        rw [hw.out]
        clear hw c0
        have hri := rs_le f i
        by_cases him : i + 1 < m
        · have g1 : ((i + 1 : Nat) : Int) < (m : Int) := by omega
          have g2 : (0 : Int) ≤ ((i + 1 : Nat) : Int) := by omega
          have c1 := HC.out (i + 1) him
          have c2 := HC.out i (by omega)
          have hsub : ((i + 1 : Nat) : Int) - 1 = (i : Int) := by omega
          have g3 : (i : Int) < (m : Int) := by omega
          have g4 : (0 : Int) ≤ (i : Int) := by omega
          have HRS : Hid (rs f (i + 1) = rs f i + if f i < f (i + 1) then 1 else 0) := rfl
          have HN : Hid ((0 ≤ f (i + 1) ∧ f (i + 1) ≤ (rs f i : Int) + 1) → ∀ j, j < i + 1 → 0 ≤ f (j + 1) ∧ f (j + 1) ≤ (rs f j : Int) + 1) := fun h j hj => by
            by_cases e : j = i
            · subst e; exact h
            · exact hp.out j (by omega)
          have HX : Hid (¬ (0 ≤ f (i + 1) ∧ f (i + 1) ≤ (rs f i : Int) + 1) → ¬ AscP f m) := fun h h2 => h (h2.2.2 i him)
          generalize f (i + 1) = x at *
          generalize f i = y at *
          obtain ⟨i1, hi1⟩ : ∃ i1 : Nat, i + 1 = i1 := ⟨_, rfl⟩
          rw [hi1] at g1 g2 hsub c1 HRS him ⊢
          by_cases h2 : x < 0
          · have HXX := Lib.hid (HX.out (fun h => by omega))
            clear HN HX HRS
            go_wp2
            go_ret
            exact ⟨BoolP.no HXX.out, z, rfl⟩
          · have q2 : decide (x < 0) = false := by simpa using h2
            by_cases h3 : (rs f i : Int) + 1 < x
            · have HXX := Lib.hid (HX.out (fun h => by omega))
              clear HN HX HRS
              generalize rs f i = ri at *
              go_wp2
              go_ret
              exact ⟨BoolP.no HXX.out, z, rfl⟩
            · have HNN := Lib.hid (HN.out (by omega))
              clear HN HX
              rw [hi1] at HNN
              generalize hgi : rs f i = ri at *
              by_cases h4 : y < x
              · have HR2 : Hid (rs f i1 = ri + 1) := by rw [HRS.out, if_pos h4]; rfl
                clear HRS
                go_wp2
                go_quiet (fail)
                go_wp2
                exact ⟨⟨i1, by omega, int_eq (by omega), by rw [HR2.out]; exact int_eq (by omega), HNN, _, rfl⟩, by simp [intOf]; omega⟩
              · have HR2 : Hid (rs f i1 = ri) := by rw [HRS.out, if_neg h4]; rfl
                clear HRS
                go_wp2
                go_quiet (fail)
                go_wp2
                exact ⟨⟨i1, by omega, int_eq (by omega), by rw [HR2.out], HNN, _, rfl⟩, by simp [intOf]; omega⟩
        · have g1 : ¬ ((i + 1 : Nat) : Int) < (m : Int) := by omega
          have HY : Hid (AscP f m) := ⟨by omega, HF0.out, fun j hj => hp.out j (by omega)⟩
          obtain ⟨i1, hi1⟩ : ∃ i1 : Nat, i + 1 = i1 := ⟨_, rfl⟩
          rw [hi1] at g1 ⊢
          go_wp2
          go_ret
          exact ⟨BoolP.yes HY.out, z, rfl⟩
    · have q1 : (f0 != 0) = true := by rw [bne_iff_ne]; exact h1
      have HNO : Hid (¬ AscP f m) := fun h => by have := h.2.1; rw [← hf0.out] at this; exact h1 this
      clear h1
      go_enter Tryd.func38, Tryd.ntmps38
      go_wp2
      go_ret
      exact ⟨BoolP.no HNO.out, 0, rfl⟩
end Go.Proofs.YtgpijajgaclhfaaDoor
namespace Go.Proofs.YtgpijajgaclhfaaDoor
open Go.RowKit Go.Shelf

set_option maxRecDepth 100000 in
set_option maxHeartbeats 4000000 in
theorem pAsc_any (p : Option Addr) (m c : Nat) (f : Nat → Int) (w : World) (hm : m ≤ 20) (hmc : m ≤ c) (hcm : c ≤ maxLen) (hS : SrcI w p m f) :
    Calls Tryd.prog 37 #[.slice p m c] w fun e w' => BoolP (AscP f m) e ∧ w' = w := by
  by_cases h0 : m = 0
  · have HNO : Hid (¬ AscP f m) := fun h => by have := h.1; omega
    subst h0
    clear hS
    go_enter Tryd.func37, Tryd.ntmps37
    go_wp2
    go_ret
    exact ⟨BoolP.no HNO.out, rfl⟩
  · obtain ⟨b, o, rfl, hb, hc⟩ := hS h0
    have HC := Lib.hid hc
    have c0 := hc 0 (by omega)
    rw [Nat.add_zero] at c0
    have q0 : ((m : Int) == 0) = false := by rw [beq_eq_false_iff_ne]; omega
    have q00 : (0 : Int) < (m : Int) := by omega
    obtain ⟨f0, hf0⟩ : ∃ f0, Hid (f0 = f 0) := ⟨_, rfl⟩
    rw [← hf0.out] at c0
    clear hc hS
    by_cases h1 : f0 = 0
    · rw [h1] at c0
      have HF0 : Hid (f 0 = 0) := by rw [← hf0.out]; exact h1
      clear h1
      go_enter Tryd.func37, Tryd.ntmps37
      by_cases hm1 : m = 1
      · have HY : Hid (AscP f m) := ⟨by omega, HF0.out, fun j hj => by omega⟩
        subst hm1
        by_cases hc1 : c = 1
        · subst hc1
          go_upto_region 5 with (fail)
          go_loopw [18] (fun s18 wr => s18 = .int .i64 0 ∧ Hid (wr = w)) (fun s18 _ => 0)
          case atStart => exact ⟨rfl, rfl⟩
          case round =>
            obtain ⟨rfl, hw⟩ := hrel
            rw [hw.out]
            go_wp2
            go_ret
            exact ⟨BoolP.yes HY.out, rfl⟩
        · have g9 : ¬ (1 = c) := fun h => hc1 h.symm
          go_upto_region 5 with (fail)
          go_loopw [18] (fun s18 wr => s18 = .int .i64 0 ∧ Hid (wr = w)) (fun s18 _ => 0)
          case atStart => exact ⟨rfl, rfl⟩
          case round =>
            obtain ⟨rfl, hw⟩ := hrel
            rw [hw.out]
            go_wp2
            go_ret
            exact ⟨BoolP.yes HY.out, rfl⟩
      · have g9 : ¬ (1 = c) := by omega
        have g10 : (1 : Int) ≤ (m : Int) := by omega
        have HC2 : Hid (∀ j, j + 1 < m → w.cell? ⟨b, o + 1 + j, none⟩ = some (.int .i64 (f (j + 1)))) := fun j hj => by
          have := HC.out (j + 1) hj
          rw [show o + (j + 1) = o + 1 + j by omega] at this
          exact this
        go_upto_region 5 with (fail)
        obtain ⟨m1, hm1e⟩ : ∃ m1, m - 1 = m1 := ⟨_, rfl⟩
        rw [hm1e]
        have HMM : Hid (m = m1 + 1) := by unfold Hid; omega
        go_loopw [3, 18] (fun s3 s18 wr => ∃ i : Nat, i ≤ m1 ∧ s18 = .int .i64 (i : Int) ∧ s3 = .int .i64 ((rs f i : Nat) : Int) ∧ Hid (∀ j, j < i → 0 ≤ f (j + 1) ∧ f (j + 1) ≤ (rs f j : Int) + 1) ∧ Hid (wr = w)) (fun _ s18 _ => m1 - (intOf s18).toNat)
        case atStart => exact ⟨0, by omega, rfl, rfl, (fun j hj => by omega), rfl⟩
        case round =>
          obtain ⟨i, hi, rfl, rfl, hp, hw⟩ := hrel
          rw [hw.out]
          clear hw c0
          have hri := rs_le f i
          by_cases him : i < m1
          · have g1 : (i : Int) < (m1 : Int) := by omega
            have g2 : (0 : Int) ≤ (i : Int) := by omega
            have c1 := HC2.out i (by omega)
            have c2 := HC.out i (by omega)
            have g3 : (i : Int) < (m : Int) := by omega
            have HRS : Hid (rs f (i + 1) = rs f i + if f i < f (i + 1) then 1 else 0) := rfl
            have HN : Hid ((0 ≤ f (i + 1) ∧ f (i + 1) ≤ (rs f i : Int) + 1) → ∀ j, j < i + 1 → 0 ≤ f (j + 1) ∧ f (j + 1) ≤ (rs f j : Int) + 1) := fun h j hj => by
              by_cases e : j = i
              · subst e; exact h
              · exact hp.out j (by omega)
            have HX : Hid (¬ (0 ≤ f (i + 1) ∧ f (i + 1) ≤ (rs f i : Int) + 1) → ¬ AscP f m) := fun h h2 => h (h2.2.2 i (by omega))
            generalize f (i + 1) = x at *
            generalize f i = y at *
            by_cases h2 : x < 0
            · have HXX := Lib.hid (HX.out (fun h => by omega))
              clear HN HX HRS
              go_wp2
              go_ret
              exact ⟨BoolP.no HXX.out, rfl⟩
            · have q2 : decide (x < 0) = false := by simpa using h2
              by_cases h3 : (rs f i : Int) + 1 < x
              · have HXX := Lib.hid (HX.out (fun h => by omega))
                clear HN HX HRS
                generalize rs f i = ri at *
                go_wp2
                go_ret
                exact ⟨BoolP.no HXX.out, rfl⟩
              · have HNN := Lib.hid (HN.out (by omega))
                clear HN HX
                generalize hgi : rs f i = ri at *
                by_cases h4 : y < x
                · have HR2 : Hid (rs f (i + 1) = ri + 1) := by rw [HRS.out, if_pos h4]; rfl
                  clear HRS
                  go_wp2
                  exact ⟨⟨i + 1, by omega, int_eq (by omega), by rw [HR2.out]; exact int_eq (by omega), HNN, True.intro⟩, by simp [intOf]; omega⟩
                · have HR2 : Hid (rs f (i + 1) = ri) := by rw [HRS.out, if_neg h4]; rfl
                  clear HRS
                  go_wp2
                  refine ⟨⟨i + 1, by omega, int_eq (by omega), ?_, HNN, True.intro⟩, by simp [intOf]; omega⟩
                  rw [HR2.out]
          · have g1 : ¬ (i : Int) < (m1 : Int) := by omega
            have HY : Hid (AscP f m) := ⟨by omega, HF0.out, fun j hj => hp.out j (by omega)⟩
            go_wp2
            go_ret
            exact ⟨BoolP.yes HY.out, rfl⟩
    · have q1 : (f0 != 0) = true := by rw [bne_iff_ne]; exact h1
      have HNO : Hid (¬ AscP f m) := fun h => by have := h.2.1; rw [← hf0.out] at this; exact h1 this
      clear h1
      go_enter Tryd.func37, Tryd.ntmps37
      go_wp2
      go_ret
      exact ⟨BoolP.no HNO.out, rfl⟩
end Go.Proofs.YtgpijajgaclhfaaDoor
namespace Go.Proofs.YtgpijajgaclhfaaDoor
open Go.RowKit Go.Shelf

/-- the endings in a square of n by n, with how often each is in D -/
def gl (n : Nat) (D : List (Nat × Nat)) (J : Nat) : List ((Nat × Nat) × Nat) := (List.range J).map fun j => ((j / n, j % n), D.count (j / n, j % n))
theorem gl_succ (n : Nat) (D : List (Nat × Nat)) (J : Nat) : gl n D (J + 1) = gl n D J ++ [((J / n, J % n), D.count (J / n, J % n))] := by
  unfold gl; rw [List.range_succ, List.map_append]; rfl
theorem gl_nodup {n : Nat} (hn : 1 ≤ n) (D : List (Nat × Nat)) (J : Nat) : ((gl n D J).map (·.1)).Nodup := by
  unfold gl
  rw [List.map_map]
  unfold List.Nodup
  rw [List.pairwise_map]
  refine List.pairwise_lt_range.imp fun {a b} hab e => ?_
  simp only [Function.comp, Prod.mk.injEq] at e
  have h1 := Nat.div_add_mod a n
  have h2 := Nat.div_add_mod b n
  rw [e.1, e.2] at h1
  omega
theorem gl_mem {n J : Nat} {D : List (Nat × Nat)} {p : (Nat × Nat) × Nat} : p ∈ gl n D J ↔ ∃ j, j < J ∧ p = ((j / n, j % n), D.count (j / n, j % n)) := by
  unfold gl
  rw [List.mem_map]
  exact ⟨fun ⟨j, h1, h2⟩ => ⟨j, List.mem_range.1 h1, h2.symm⟩, fun ⟨j, h1, h2⟩ => ⟨j, List.mem_range.2 h1, h2.symm⟩⟩
theorem sq_at {n a b : Nat} (hb : b < n) : (a * n + b) / n = a ∧ (a * n + b) % n = b := by
  have h1 : (a * n + b) / n = a := by rw [Nat.mul_comm, Nat.mul_add_div (by omega), Nat.div_eq_of_lt hb]; rfl
  refine ⟨h1, ?_⟩
  rw [Nat.mul_comm, Nat.mul_add_mod]
  exact Nat.mod_eq_of_lt hb
theorem sq_lt {n a b : Nat} (ha : a < n) (hb : b < n) : a * n + b < n * n := by
  have h1 : (a + 1) * n ≤ n * n := Nat.mul_le_mul_right n ha
  rw [Nat.succ_mul] at h1
  omega
theorem gl_cnt {n : Nat} (hn : 1 ≤ n) {D : List (Nat × Nat)} (hD : ∀ e ∈ D, e.1 < n ∧ e.2 < n) : CntP (fun e => asFun (gl n D (n * n)) e) D := fun e => by
  have hnd := gl_nodup hn D (n * n)
  by_cases he : e ∈ D
  · obtain ⟨h1, h2⟩ := hD e he
    obtain ⟨q1, q2⟩ := sq_at (n := n) (a := e.1) h2
    have hm : (e, D.count e) ∈ gl n D (n * n) := gl_mem.2 ⟨e.1 * n + e.2, sq_lt h1 h2, by rw [q1, q2]⟩
    show (asFun (gl n D (n * n)) e).getD 0 = _
    rw [(asFun_mem2 hnd).2 hm]; rfl
  · show (asFun (gl n D (n * n)) e).getD 0 = _
    rw [List.count_eq_zero_of_not_mem he]
    cases h : asFun (gl n D (n * n)) e with
    | none => rfl
    | some b =>
      obtain ⟨j, _, h2⟩ := gl_mem.1 ((asFun_mem2 hnd).1 h)
      cases h2
      exact List.count_eq_zero_of_not_mem he
/-- what has been put into the next table -/
def part (n : Nat) (D : List (Nat × Nat)) (J x : Nat) : List (Nat × Nat) := (gl n D J).flatMap stC ++ ((nexts (J / n, J % n)).take x).flatMap fun e => List.replicate (D.count (J / n, J % n)) e
theorem part_zero (n : Nat) (D : List (Nat × Nat)) (J : Nat) : part n D J 0 = (gl n D J).flatMap stC := by unfold part; simp
theorem part_full (n : Nat) (D : List (Nat × Nat)) (J x : Nat) (hx : J % n + 2 ≤ x) : part n D J x = part n D (J + 1) 0 := by
  rw [part_zero, gl_succ, List.flatMap_append]
  unfold part
  have hl : (nexts (J / n, J % n)).length ≤ x := by unfold nexts; rw [List.length_map, List.length_range]; exact hx
  rw [List.take_of_length_le hl]
  simp [stC]
theorem part_none (n : Nat) (D : List (Nat × Nat)) (J x y : Nat) (h : D.count (J / n, J % n) = 0) : part n D J x = part n D J y := by
  unfold part
  rw [h]
  congr 1
  have : ∀ l : List (Nat × Nat), l.flatMap (fun e => List.replicate 0 e) = [] := fun l => by simp
  rw [this, this]
theorem part_next (n : Nat) (D : List (Nat × Nat)) (J x : Nat) (hx : x < J % n + 2) : part n D J (x + 1) = part n D J x ++ List.replicate (D.count (J / n, J % n)) (x, if J / n < x then J % n + 1 else J % n) := by
  unfold part
  have hl : x < (nexts (J / n, J % n)).length := by unfold nexts; rw [List.length_map, List.length_range]; exact hx
  rw [List.take_succ_eq_append_getElem hl, List.flatMap_append, List.append_assoc]
  congr 2
  have h : (nexts (J / n, J % n))[x]? = some (x, if J / n < x then J % n + 1 else J % n) := by
    unfold nexts
    rw [List.getElem?_map, List.getElem?_range hx]
    simp only [Option.map_some, Option.some.injEq]
    split <;> rfl
  have : (nexts (J / n, J % n))[x] = (x, if J / n < x then J % n + 1 else J % n) := (List.getElem?_eq_some_iff.1 h).2
  rw [this]; simp
theorem gl_len (n : Nat) (D : List (Nat × Nat)) (J : Nat) : ∀ d, ((gl n D J).flatMap stC).length ≤ ((gl n D (J + d)).flatMap stC).length
  | 0 => Nat.le_refl _
  | d + 1 => by
    have := gl_len n D J d
    rw [show J + (d + 1) = J + d + 1 by omega, gl_succ, List.flatMap_append, List.length_append]
    omega
theorem part_len {n J x : Nat} {D : List (Nat × Nat)} (hJ : J < n * n) (hx : x ≤ J % n + 2) : (part n D J x).length ≤ ((gl n D (n * n)).flatMap stC).length := by
  have h1 : (part n D J x).length ≤ (part n D J (J % n + 2)).length := by
    unfold part
    rw [List.length_append, List.length_append]
    have h2 : (nexts (J / n, J % n)).take (J % n + 2) = (nexts (J / n, J % n)).take x ++ ((nexts (J / n, J % n)).take (J % n + 2)).drop x := by
      have := (List.take_append_drop x ((nexts (J / n, J % n)).take (J % n + 2))).symm
      rw [List.take_take, Nat.min_eq_left hx] at this
      exact this
    rw [h2, List.flatMap_append, List.length_append]
    omega
  rw [part_full n D J _ (Nat.le_refl _), part_zero] at h1
  have h3 := gl_len n D (J + 1) (n * n - (J + 1))
  rw [show J + 1 + (n * n - (J + 1)) = n * n by omega] at h3
  omega
/-- a whole step -/
theorem gl_step {n k : Nat} (hk : k + 1 ≤ n) : ((gl n (ascE k) (n * n)).flatMap stC).Perm (ascE (k + 1)) :=
  step_perm (gl_cnt (by omega) fun e he => by have := ascE_mem k e he; omega) (gl_nodup (by omega) _ _) (fun _ => rfl) (List.Perm.refl _)
/-- the sum of a table's first cells -/
def smTo (T : Nat → Nat) : Nat → Nat
  | 0 => 0
  | j + 1 => smTo T j + T j
theorem smTo_mono (T : Nat → Nat) (j : Nat) : ∀ d, smTo T j ≤ smTo T (j + d)
  | 0 => Nat.le_refl _
  | d + 1 => by have := smTo_mono T j d; rw [show j + (d + 1) = j + d + 1 by omega]; show smTo T j ≤ smTo T (j + d) + T (j + d); omega
theorem smTo_gl (n : Nat) (D : List (Nat × Nat)) : ∀ J, smTo (fun j => D.count (j / n, j % n)) J = ((gl n D J).map (·.2)).sum
  | 0 => rfl
  | J + 1 => by
    rw [gl_succ, List.map_append, List.sum_append, ← smTo_gl n D J]
    show smTo _ J + _ = _
    simp
theorem smTo_all {n k : Nat} (hk : k + 1 ≤ n) : smTo (fun j => (ascE k).count (j / n, j % n)) (n * n) = (ascE k).length := by
  rw [smTo_gl, sum_ex]
  have hc := gl_cnt (n := n) (by omega) (D := ascE k) fun e he => by have := ascE_mem k e he; omega
  exact (hc.ex (gl_nodup (by omega) _ _) (fun _ => rfl)).length_eq.symm
/-- a row of int64 -/
def Row64 (W : World) (B n : Nat) (f : Nat → Nat) : Prop := ∃ vs, BoxN W B 2 vs ∧ vs.size = n ∧ ∀ j, j < n → vs[j]? = some (.int .i64 ((f j : Nat) : Int))
theorem Row64.lt {W : World} {B n : Nat} {f : Nat → Nat} (h : Row64 W B n f) : B < W.heap.size := h.elim fun _ h => h.1.lt
theorem Row64.cell {W : World} {B n : Nat} {f : Nat → Nat} (h : Row64 W B n f) {x : Nat} (hx : x < n) : W.cell? ⟨B, x, none⟩ = some (.int .i64 ((f x : Nat) : Int)) := by
  obtain ⟨vs, h1, h2, h3⟩ := h
  rw [h1.cell]; exact h3 x hx
theorem Row64.frozen {W : World} {B n : Nat} {f : Nat → Nat} (h : Row64 W B n f) (x : Nat) : W.frozen? ⟨B, x, none⟩ = false := by
  obtain ⟨vs, h1, _⟩ := h
  exact h1.frozen x
theorem Row64.alloc {W : World} {B n : Nat} {f : Nat → Nat} (h : Row64 W B n f) (o : Obj) : Row64 (W.alloc o) B n f := by
  obtain ⟨vs, h1, h2⟩ := h
  exact ⟨vs, h1.alloc o, h2⟩
theorem Row64.set {W : World} {B n : Nat} {f : Nat → Nat} (h : Row64 W B n f) {x : Nat} (_hx : x < n) (v : Nat) : Row64 (W.setCell ⟨B, x, none⟩ (.int .i64 (v : Int))) B n (fun j => if j = x then v else f j) := by
  obtain ⟨vs, h1, h2, h3⟩ := h
  refine ⟨_, h1.set x (.int .i64 (v : Int)), by simpa using h2, fun j hj => ?_⟩
  by_cases e : j = x
  · subst e; rw [Array.getElem?_setIfInBounds_self_of_lt (by omega)]; simp
  · rw [Array.getElem?_setIfInBounds_ne (Ne.symm e)]; simp only [if_neg e]; exact h3 j hj
theorem Row64.other {W : World} {B n : Nat} {f : Nat → Nat} (h : Row64 W B n f) {a : Addr} (hne : B ≠ a.block) (x : Value) : Row64 (W.setCell a x) B n f := by
  obtain ⟨vs, h1, h2⟩ := h
  exact ⟨vs, h1.other hne x, h2⟩
theorem Row64.congr {W : World} {B n : Nat} {f g : Nat → Nat} (h : Row64 W B n f) (e : ∀ j, j < n → f j = g j) : Row64 W B n g := by
  obtain ⟨vs, h1, h2, h3⟩ := h
  exact ⟨vs, h1, h2, fun j hj => by rw [h3 j hj, e j hj]⟩
theorem under98 : Tryd.prog.underlying 98 = some (.slice 2) := by kernel_rfl
theorem make_98 (n : Nat) (hn : n ≤ 300) : ∃ vs : Array Value, vs.size = n ∧ (∀ j, j < n → vs[j]? = some (.int .i64 ((0 : Nat) : Int))) ∧
    ∀ W, Sem.run Tryd.prog (Instr.makeSlice 98 (.int .i64 (n : Int)) (.int .i64 (n : Int))) W = .ok (.slice (some ⟨W.heap.size, 0, none⟩) n n) (W.alloc (.cells vs 2)) := by
  obtain ⟨i0, hi, hz0, hz1, hz2⟩ := info_parts info2
  refine ⟨madeCells #[.int .i64 0] n, size_madeCells _ _, fun j hj => ?_, fun W => ?_⟩
  · rw [← Array.getElem?_toList, toList_madeCells_one, List.getElem?_replicate, if_pos hj]; rfl
  · have := run_make (P := Tryd.prog) W 98 2 i0 _ under98 hi hz0 .i64 .i64 (n : Int) (n : Int) (by omega) (Int.le_refl _) (by rw [hz2]; omega) (by omega)
    rw [hz1, show (Value.int .i64 0).cells = #[.int .i64 0] from rfl] at this
    simpa using this
end Go.Proofs.YtgpijajgaclhfaaDoor
namespace Go.Proofs.YtgpijajgaclhfaaDoor
open Go.RowKit Go.Shelf

/-- a table of endings -/
def cntT (N : Nat) (E : List (Nat × Nat)) (j : Nat) : Nat := E.count (j / N, j % N)
theorem cntT_add {N : Nat} (hN : 0 < N) (E : List (Nat × Nat)) {a b c : Nat} (hb : b < N) (j : Nat) : cntT N (E ++ List.replicate c (a, b)) j = if j = a * N + b then cntT N E j + c else cntT N E j := by
  unfold cntT
  rw [List.count_append, List.count_replicate]
  obtain ⟨h1, h2⟩ := sq_at (n := N) (a := a) hb
  by_cases e : j = a * N + b
  · rw [if_pos e, e, h1, h2]; simp
  · rw [if_neg e]
    have : ((a, b) == (j / N, j % N)) = false := by
      rw [beq_eq_false_iff_ne]
      intro h
      simp only [Prod.mk.injEq] at h
      have := Nat.div_add_mod j N
      rw [← h.1, ← h.2] at this
      rw [Nat.mul_comm] at this
      exact e this.symm
    rw [this]; simp
set_option maxRecDepth 100000 in
set_option maxHeartbeats 8000000 in
theorem rAscents_any (n : Nat) (w : World) (hn1 : 1 ≤ n) (hn : n ≤ 14) :
    Calls Tryd.prog 39 #[.int .i64 (n : Int)] w fun e w' => e = .returned (.int .i64 ((ascE (n - 1)).length : Nat)) ∧ Below w.heap.size w w' := by
  obtain ⟨N, hN⟩ : ∃ N, Hid (N = n + 1) := ⟨_, rfl⟩
  have hNn : (n : Int) + 1 = (N : Int) := by rw [hN.out]; omega
  have hN15 : N ≤ 15 := by rw [hN.out]; omega
  have hN2 : 2 ≤ N := by rw [hN.out]; omega
  have HNN : Hid (N = n + 1) := hN
  obtain ⟨M, hM⟩ : ∃ M, Hid (M = N * N) := ⟨_, rfl⟩
  have hMi : (N : Int) * (N : Int) = (M : Int) := by rw [hM.out]; simp
  have hM300 : M ≤ 225 := by rw [hM.out]; exact Nat.mul_le_mul hN15 hN15
  have hM1 : 1 ≤ M := by rw [hM.out]; exact Nat.mul_pos (by omega) (by omega)
  obtain ⟨vs, hv1, hv2, hmk⟩ := make_98 M (by omega)
  have HVS : Hid (vs.size = M ∧ ∀ j, j < M → vs[j]? = some (.int .i64 ((0 : Nat) : Int))) := ⟨hv1, hv2⟩
  have HMK := Lib.hid hmk
  clear hv1 hv2 hN
  go_enter Tryd.func39, Tryd.ntmps39
  have HR0 : Hid (Row64 (w.alloc (.cells vs 2)) w.heap.size M (fun _ => 0)) := ⟨vs, BoxN.new rfl, HVS.out.1, HVS.out.2⟩
  have HB0 : Hid (Below w.heap.size w (w.alloc (.cells vs 2))) := (Below.refl _ _).alloc (Nat.le_refl _) _
  go_upto_region 2 with (fail)
  obtain ⟨b0, hb0⟩ : ∃ b0, Hid (b0 = w.heap.size) := ⟨_, rfl⟩
  rw [← hb0.out] at HR0
  simp only [← hb0.out]
  have hbw : w.heap.size ≤ b0 := Nat.le_of_eq hb0.out.symm
  generalize w.alloc (.cells vs 2) = X at *
  clear hmk
  have g0 : (0 : Int) < (M : Int) := by omega
  have f0 := HR0.out.frozen 0
  have c0 := HR0.out.cell (x := 0) (by omega)
  have HR1 : Hid (Row64 (X.setCell ⟨b0, 0, none⟩ (.int .i64 ((1 : Nat) : Int))) b0 M (cntT N (ascE 0))) := (HR0.out.set (x := 0) (by omega) 1).congr fun j hj => by
    unfold cntT ascE
    by_cases e : j = 0
    · subst e; simp
    · rw [if_neg e]
      have : ((0, 0) == (j / N, j % N)) = false := by
        rw [beq_eq_false_iff_ne]
        intro h
        simp only [Prod.mk.injEq] at h
        have := Nat.div_add_mod j N
        rw [← h.1, ← h.2] at this
        omega
      rw [List.count_cons, this]; simp
  have HB1 := Lib.hid (HB0.out.setCell (p := ⟨b0, 0, none⟩) hbw (.int .i64 ((1 : Nat) : Int)))
  have HR1 : Hid (Row64 (X.setCell ⟨b0, 0, none⟩ (.int .i64 1)) b0 M (cntT N (ascE 0))) := HR1
  have HB1 : Hid (Below w.heap.size w (X.setCell ⟨b0, 0, none⟩ (.int .i64 1))) := HB1
  go_upto_region 4 with (fail)
  generalize X.setCell ⟨b0, 0, none⟩ (.int .i64 1) = Y at *
  clear f0 c0 HR0 HB0
  go_loopw [3, 4] (fun s3 s4 wr => ∃ (k B : Nat), k + 1 ≤ n ∧ s4 = .int .i64 ((k + 1 : Nat) : Int) ∧ s3 = .slice (some ⟨B, 0, none⟩) M M ∧ w.heap.size ≤ B ∧ Hid (Row64 wr B M (cntT N (ascE k))) ∧ Hid (Below w.heap.size w wr)) (fun _ s4 _ => n - (intOf s4).toNat)
  case atStart => exact ⟨0, b0, by omega, rfl, rfl, hbw, HR1, HB1⟩
  case round =>
    obtain ⟨k, B, hk, rfl, rfl, hBw, hR, hB⟩ := hrel
    clear HR1 HB1
    have hsw : w.heap.size ≤ wr.heap.size := hB.out.size
    have HSM : Hid ((ascE k).length ≤ 1946195068359375) := ascE_small (by omega)
    by_cases hkn : k + 1 < n
    · have g1 : ((k + 1 : Nat) : Int) < (n : Int) := by omega
      have HSM2 : Hid ((ascE (k + 1)).length ≤ 1946195068359375) := ascE_small (by omega)
      have HST : Hid (((gl n (ascE k) (n * n)).flatMap stC).Perm (ascE (k + 1))) := gl_step (by omega)
      have hmk := HMK.out wr
      have HQ0 : Hid (Row64 (wr.alloc (.cells vs 2)) wr.heap.size M (fun _ => 0)) := ⟨vs, BoxN.new rfl, HVS.out.1, HVS.out.2⟩
      have HR2 := Lib.hid (hR.out.alloc (.cells vs 2))
      have HB2 := Lib.hid (hB.out.alloc hsw (.cells vs 2))
      have hBlt := hR.out.lt
      obtain ⟨k1, hk1⟩ : ∃ k1 : Nat, k + 1 = k1 := ⟨_, rfl⟩
      have HK1 := Lib.hid hk1
      rw [hk1] at g1 ⊢
      clear hk1
      obtain ⟨wo, hwo⟩ : ∃ wo, Hid (wo = wr) := ⟨_, rfl⟩
      rw [← hwo.out] at hB hR HQ0 HR2 HB2 hsw hBlt hmk ⊢
      clear hwo
      go_upto_region 8 with (fail)
      obtain ⟨b1, hb1⟩ : ∃ b1, Hid (b1 = wo.heap.size) := ⟨_, rfl⟩
      rw [← hb1.out] at HQ0
      simp only [← hb1.out]
      have hne : B ≠ b1 := by have := hb1.out; omega
      have hb1w : w.heap.size ≤ b1 := by have := hb1.out; omega
      generalize wo.alloc (.cells vs 2) = Z at *
      clear hmk hR hB
      obtain ⟨D, hD⟩ : ∃ D, Hid (D = ascE k) := ⟨_, rfl⟩
      rw [← hD.out] at HR2 HST HSM
      have HPL : Hid (∀ J x, J < n * n → x ≤ J % n + 2 → (part n D J x).length ≤ 1946195068359375) := fun J x hJ hx => by
        have := part_len (D := D) hJ hx
        have h2 := HST.out.length_eq
        have h3 := HSM2.out
        omega
      have HP0 : Hid (Row64 Z b1 M (cntT N (part n D 0 0))) := HQ0.out.congr fun j _ => by
        rw [part_zero]; unfold cntT gl; simp
      go_loopw [6] (fun s6 wr => ∃ a : Nat, a ≤ n ∧ s6 = .int .i64 (a : Int) ∧ Hid (Row64 wr B M (cntT N D)) ∧ Hid (Row64 wr b1 M (cntT N (part n D (a * n) 0))) ∧ Hid (Below w.heap.size w wr)) (fun s6 _ => n - (intOf s6).toNat)
      case atStart => exact ⟨0, by omega, rfl, HR2, by rw [Nat.zero_mul]; exact HP0, HB2⟩
      case round =>
        obtain ⟨a, ha, rfl, hR, hQ, hB⟩ := hrel
        clear HR2 HP0 HB2 HQ0
        by_cases han : a < n
        · have g2 : (a : Int) < (n : Int) := by omega
          have haN : a * N ≤ 210 := Nat.mul_le_mul (show a ≤ 14 by omega) hN15
          have haNi : (a : Int) * (N : Int) = ((a * N : Nat) : Int) := by simp
          obtain ⟨aN, hAN⟩ : ∃ aN, Hid (aN = a * N) := ⟨_, rfl⟩
          rw [← hAN.out] at haN haNi
          go_upto_region 11 with (fail)
          go_loopw [7] (fun s7 wr => ∃ b : Nat, b ≤ n ∧ s7 = .int .i64 (b : Int) ∧ Hid (Row64 wr B M (cntT N D)) ∧ Hid (Row64 wr b1 M (cntT N (part n D (a * n + b) 0))) ∧ Hid (Below w.heap.size w wr)) (fun s7 _ => n - (intOf s7).toNat)
          case atStart => exact ⟨0, by omega, rfl, hR, by rw [Nat.add_zero]; exact hQ, hB⟩
          case round =>
            clear hR hQ hB
            obtain ⟨b, hb, rfl, hR, hQ, hB⟩ := hrel
            by_cases hbn : b < n
            · have g3 : (b : Int) < (n : Int) := by omega
              have hidx : aN + b < M := by
                rw [hAN.out, hM.out]
                exact sq_lt (by have := HNN.out; omega) (by have := HNN.out; omega)
              have k1 := hR.out.cell hidx
              have hcv : Hid (cntT N D (aN + b) = D.count (a, b)) := by
                unfold Hid cntT
                obtain ⟨h1, h2⟩ := sq_at (n := N) (a := a) (b := b) (by have := HNN.out; omega)
                rw [hAN.out, h1, h2]
              have hJ : Hid ((a * n + b) / n = a ∧ (a * n + b) % n = b) := sq_at hbn
              have hJlt : Hid (a * n + b < n * n) := sq_lt han hbn
              obtain ⟨J, hJe⟩ : ∃ J, Hid (J = a * n + b) := ⟨_, rfl⟩
              rw [← hJe.out] at hJ hJlt hQ
              have HSX : Hid (∀ x, x < b + 2 → part n D J (x + 1) = part n D J x ++ List.replicate (D.count (a, b)) (x, if a < x then b + 1 else b)) := fun x hx => by
                have := part_next n D J x (by rw [hJ.out.2]; exact hx)
                rw [hJ.out.1, hJ.out.2] at this
                exact this
              have HFX : Hid (part n D J (b + 2) = part n D (a * n + (b + 1)) 0) := by
                have := part_full n D J (b + 2) (by rw [hJ.out.2]; exact Nat.le_refl _)
                rw [hJe.out, Nat.add_assoc] at this
                rw [hJe.out]; exact this
              have HZX : Hid (D.count (a, b) = 0 → part n D J 0 = part n D (a * n + (b + 1)) 0) := fun h => by
                rw [← HFX.out]
                exact part_none n D J 0 (b + 2) (by rw [hJ.out.1, hJ.out.2]; exact h)
              have HLX : Hid (∀ x, x ≤ b + 2 → (part n D J x).length ≤ 1946195068359375) := fun x hx => HPL.out J x hJlt.out (by rw [hJ.out.2]; exact hx)
              rw [hcv.out] at k1
              have hcs : D.count (a, b) ≤ 1946195068359375 := Nat.le_trans List.count_le_length HSM.out
              generalize D.count (a, b) = c at *
              clear hcv hJ hJlt hJe
              obtain ⟨ix, hix⟩ : ∃ ix : Nat, aN + b = ix := ⟨_, rfl⟩
              rw [hix] at k1 hidx
              have g4 : (aN : Int) + (b : Int) = (ix : Int) := by omega
              have g5 : (ix : Int) < (M : Int) := by omega
              have g6 : (0 : Int) ≤ (ix : Int) := by omega
              clear hix
              go_upto_region 15 with (fail)
              clear k1
              go_loopw [9] (fun s9 wr => ∃ x : Nat, x ≤ b + 2 ∧ (c = 0 → x = 0) ∧ s9 = .int .i64 (x : Int) ∧ Hid (Row64 wr B M (cntT N D)) ∧ Hid (Row64 wr b1 M (cntT N (part n D J x))) ∧ Hid (Below w.heap.size w wr)) (fun s9 _ => 20 - (intOf s9).toNat)
              case atStart => exact ⟨0, by omega, fun _ => rfl, rfl, hR, hQ, hB⟩
              case round =>
                clear hR hQ hB
                obtain ⟨x, hx, hcx, rfl, hR, hQ, hB⟩ := hrel
                by_cases hxb : x ≤ b + 1
                · have g7 : (x : Int) ≤ (b : Int) + 1 := by omega
                  by_cases hc0 : c = 0
                  · have hx0 := hcx hc0
                    subst hx0
                    have g8 : ¬ (0 : Int) < (c : Int) := by omega
                    have g9 : decide (0 < c) = false := by simp; omega
                    have HQN : Hid (Row64 wr b1 M (cntT N (part n D (a * n + (b + 1)) 0))) := by rw [← HZX.out hc0]; exact hQ
                    clear hcx
                    subst hc0
                    go_wp2
                    exact ⟨⟨b + 1, by omega, int_eq (by omega), hR, HQN, hB⟩, by simp [intOf]; omega⟩
                  · have g8 : (0 : Int) < (c : Int) := by omega
                    have g9 : decide (0 < c) = true := by simp; omega
                    have hxN : x * N ≤ 210 := Nat.mul_le_mul (show x ≤ 14 by omega) hN15
                    have hxNi : (x : Int) * (N : Int) = ((x * N : Nat) : Int) := by simp
                    have HXN : Hid (x * N = x * N) := rfl
                    obtain ⟨q, hq⟩ : ∃ q, Hid (q = if a < x then b + 1 else b) := ⟨_, rfl⟩
                    have hqn : q < N := by rw [hq.out]; have := HNN.out; split <;> omega
                    have hidx2 : x * N + q < M := by rw [hM.out]; exact sq_lt (by have := HNN.out; omega) hqn
                    have HNX := HSX.out x (by omega)
                    rw [← hq.out] at HNX
                    have hcell := hQ.out.cell hidx2
                    have hfro := hQ.out.frozen (x * N + q)
                    have HADD : Hid (∀ j, cntT N (part n D J (x + 1)) j = if j = x * N + q then cntT N (part n D J x) j + c else cntT N (part n D J x) j) := fun j => by rw [HNX]; exact cntT_add (by omega) _ hqn j
                    have hold : cntT N (part n D J x) (x * N + q) + c ≤ 1946195068359375 := by
                      have h1 := HADD.out (x * N + q)
                      rw [if_pos rfl] at h1
                      rw [← h1]
                      exact Nat.le_trans List.count_le_length (HLX.out (x + 1) (by omega))
                    have HSET := Lib.hid (hQ.out.set hidx2 (cntT N (part n D J x) (x * N + q) + c))
                    have HQ2 : Hid (Row64 (wr.setCell ⟨b1, x * N + q, none⟩ (.int .i64 ((cntT N (part n D J x) (x * N + q) + c : Nat) : Int))) b1 M (cntT N (part n D J (x + 1)))) := HSET.out.congr fun j _ => by
                      rw [HADD.out j]
                      by_cases e : j = x * N + q
                      · rw [if_pos e, if_pos e, e]
                      · rw [if_neg e, if_neg e]
                    have HR2 : Hid (Row64 (wr.setCell ⟨b1, x * N + q, none⟩ (.int .i64 ((cntT N (part n D J x) (x * N + q) + c : Nat) : Int))) B M (cntT N D)) := hR.out.other hne _
                    have HB2 := Lib.hid (hB.out.setCell (p := ⟨b1, x * N + q, none⟩) hb1w (.int .i64 ((cntT N (part n D J x) (x * N + q) + c : Nat) : Int)))
                    clear HSET HADD HNX HXN
                    generalize cntT N (part n D J x) (x * N + q) = old at *
                    obtain ⟨su, hsu⟩ : ∃ su : Nat, old + c = su := ⟨_, rfl⟩
                    rw [hsu] at HR2 HQ2 HB2 hold
                    have hsum : (old : Int) + (c : Int) = (su : Int) := by omega
                    clear hsu
                    generalize x * N = xN at *
                    obtain ⟨iy, hiy⟩ : ∃ iy : Nat, xN + q = iy := ⟨_, rfl⟩
                    rw [hiy] at HR2 HQ2 HB2 hidx2 hcell hfro
                    have g10 : (xN : Int) + (q : Int) = (iy : Int) := by omega
                    have g11 : (iy : Int) < (M : Int) := by omega
                    have g12 : (0 : Int) ≤ (iy : Int) := by omega
                    clear hiy
                    by_cases hax : a < x
                    · have g13 : (a : Int) < (x : Int) := by omega
                      have g14 : (b : Int) + 1 = (q : Int) := by rw [hq.out, if_pos hax]; omega
                      clear hq
                      go_wp2
                      exact ⟨⟨x + 1, by omega, fun h => by omega, int_eq (by omega), HR2, HQ2, HB2⟩, by simp [intOf]; omega⟩
                    · have g13 : ¬ (a : Int) < (x : Int) := by omega
                      have hqb : q = b := by rw [hq.out, if_neg hax]
                      clear hq
                      subst hqb
                      go_wp2
                      exact ⟨⟨x + 1, by omega, fun h => by omega, int_eq (by omega), HR2, HQ2, HB2⟩, by simp [intOf]; omega⟩
                · have g7 : ¬ (x : Int) ≤ (b : Int) + 1 := by omega
                  obtain rfl : x = b + 2 := by omega
                  have HQN : Hid (Row64 wr b1 M (cntT N (part n D (a * n + (b + 1)) 0))) := by rw [← HFX.out]; exact hQ
                  clear hQ HFX HZX HSX HLX
                  obtain ⟨x2, hx2⟩ : ∃ x2 : Nat, b + 2 = x2 := ⟨_, rfl⟩
                  rw [hx2] at g7 ⊢
                  go_wp2
                  exact ⟨⟨b + 1, by omega, int_eq (by omega), hR, HQN, hB⟩, by simp [intOf]; omega⟩
            · have g3 : ¬ (b : Int) < (n : Int) := by omega
              obtain rfl : b = n := by omega
              have HQN : Hid (Row64 wr b1 M (cntT N (part b D ((a + 1) * b) 0))) := by rw [Nat.succ_mul]; exact hQ
              go_wp2
              exact ⟨⟨a + 1, by omega, int_eq (by omega), hR, HQN, hB⟩, by simp [intOf]; omega⟩
        · have g2 : ¬ (a : Int) < (n : Int) := by omega
          obtain rfl : a = n := by omega
          have HQN : Hid (Row64 wr b1 M (cntT N (ascE k1))) := by
            refine hQ.out.congr fun j _ => ?_
            rw [part_zero]
            unfold cntT
            rw [← HK1.out]
            exact HST.out.count_eq _
          go_wp2
          exact ⟨⟨k1, b1, by omega, int_eq (by omega), rfl, hb1w, HQN, hB⟩, by simp [intOf]; omega⟩
    · have g1 : ¬ ((k + 1 : Nat) : Int) < (n : Int) := by omega
      have HKN : Hid (ascE (n - 1) = ascE k) := by unfold Hid; rw [show n - 1 = k by omega]
      obtain ⟨k1, hk1⟩ : ∃ k1 : Nat, k + 1 = k1 := ⟨_, rfl⟩
      rw [hk1] at g1 ⊢
      have HALL : Hid (smTo (cntT N (ascE k)) M = (ascE k).length) := by
        rw [hM.out]
        exact smTo_all (by have := HNN.out; omega)
      have HMO : Hid (∀ j, j ≤ M → smTo (cntT N (ascE k)) j ≤ 1946195068359375) := fun j hj => by
        have h1 := smTo_mono (cntT N (ascE k)) j (M - j)
        rw [show j + (M - j) = M by omega, HALL.out] at h1
        exact Nat.le_trans h1 HSM.out
      go_upto_region 24 with (fail)
      go_loopw [11, 12] (fun s11 s12 wq => ∃ j : Nat, j ≤ M ∧ s12 = .int .i64 (j : Int) ∧ s11 = .int .i64 ((smTo (cntT N (ascE k)) j : Nat) : Int) ∧ Hid (wq = wr)) (fun _ s12 _ => M - (intOf s12).toNat)
      case atStart => exact ⟨0, by omega, rfl, rfl, rfl⟩
      case round =>
        obtain ⟨j, hj, rfl, rfl, hw⟩ := hrel
        rw [hw.out]
        clear hw
        by_cases hjM : j < M
        · have g2 : (j : Int) < (M : Int) := by omega
          have g3 : (0 : Int) ≤ (j : Int) := by omega
          have c1 := hR.out.cell hjM
          have HSS : Hid (smTo (cntT N (ascE k)) (j + 1) = smTo (cntT N (ascE k)) j + cntT N (ascE k) j) := rfl
          have hb2 := HMO.out (j + 1) hjM
          rw [HSS.out] at hb2
          generalize smTo (cntT N (ascE k)) j = s at *
          generalize cntT N (ascE k) j = v at *
          go_wp2
          exact ⟨⟨j + 1, by omega, int_eq (by omega), by rw [HSS.out]; exact int_eq (by omega), True.intro⟩, by simp [intOf]; omega⟩
        · have g2 : ¬ (j : Int) < (M : Int) := by omega
          obtain rfl : j = M := by omega
          have hall := HALL.out
          rw [hall]
          clear hall
          go_wp2
          go_ret
          exact ⟨by rw [HKN.out]; rfl, hB.out⟩
end Go.Proofs.YtgpijajgaclhfaaDoor
namespace Go.Proofs.YtgpijajgaclhfaaDoor
open Go.RowKit Go.Shelf

/-- uint(z) % uint(m) -/
def um (z : Int) (m : Nat) : Nat := ((IntKind.u64.wrap z).tmod (m : Int)).toNat
theorem u64_nonneg (z : Int) : 0 ≤ IntKind.u64.wrap z := by rw [IntKind.wrap_u64]; omega
theorem um_eq (z : Int) (m : Nat) : (IntKind.u64.wrap z).tmod (m : Int) = ((um z m : Nat) : Int) := by
  unfold um
  have := Int.tmod_nonneg (m : Int) (u64_nonneg z)
  omega
theorem um_lt (z : Int) {m : Nat} (hm : 1 ≤ m) : um z m < m := by
  have h := um_eq z m
  rw [Int.tmod_eq_emod_of_nonneg (u64_nonneg z)] at h
  have := Int.emod_lt_of_pos (IntKind.u64.wrap z) (show (0 : Int) < (m : Int) by omega)
  omega
/-- a row of integers, one of which is written -/
theorem QRow.fits {W : World} {base : Nat} {e : TypeId} {size : Nat} {p : Option Addr} {m c : Nat} {xs : List Value} (h : QRow W base e size (.slice p m c) m xs) : m ≤ c ∧ c ≤ maxLen := by
  rcases h.2 with ⟨e, h0⟩ | ⟨g, o, cap, cur, e, _, _, h5, h6, _⟩
  · cases e; exact ⟨by omega, by decide⟩
  · cases e; exact ⟨h5, h6⟩
theorem QRow.put {W : World} {base : Nat} {g o m c k : Nat} {f : Nat → Int} (h : QRow W base 3 1 (.slice (some ⟨g, o, none⟩) m c) m (ivI f m)) (hk : k < m) (z : Int) :
    W.frozen? ⟨g, o + k, none⟩ = false ∧ QRow (W.setCell ⟨g, o + k, none⟩ (.int .i64 z)) base 3 1 (.slice (some ⟨g, o, none⟩) m c) m (ivI (fun j => if j = k then z else f j) m) := by
  rcases h.2 with ⟨e, _⟩ | ⟨g', o', cap, cur, e, h1, h2, h3, h4, h5, h6⟩
  · cases e
  · cases e
    have hb : BoxN W g 3 cur := h2
    refine ⟨hb.frozen _, by rw [ivI_len]; omega, .inr ⟨g, o, c, _, rfl, h1, hb.set (o + k) (.int .i64 z), h3, h4, by simpa using h5, fun j hj => ?_⟩⟩
    have hj' : j < m := by omega
    rw [ivI_get _ _ _ hj']
    by_cases e : j = k
    · subst e
      rw [Array.getElem?_setIfInBounds_self_of_lt (by omega)]; simp
    · rw [Array.getElem?_setIfInBounds_ne (by omega), if_neg e, h6 j hj, ivI_get _ _ _ hj']
set_option maxRecDepth 100000 in
set_option maxHeartbeats 8000000 in
theorem law8 (a : Option Addr) (cap : Nat) (xs : List Int) (n : Int) (w : World) (hP : IntsIn w a cap xs) (hT : Tab w) :
    Calls Tryd.prog 8 #[.slice a xs.length cap, .int .i64 n] w fun e w' => e = .returned (.bool true) ∧ Below w.heap.size w w' := by
  have HLS := Lib.hid (list_any a cap xs w hP)
  have HT := Lib.hid hT
  clear hP hT
  obtain ⟨m, hm⟩ : ∃ m, Hid (m = min xs.length 20) := ⟨_, rfl⟩
  rw [← hm.out] at HLS
  have hm20 : m ≤ 20 := by rw [hm.out]; exact Nat.min_le_right _ _
  obtain ⟨len, hlen⟩ : ∃ len, Hid (len = xs.length) := ⟨_, rfl⟩
  rw [← hlen.out] at HLS ⊢
  clear hm hlen
  go_enter Tryd.func8, Tryd.ntmps8
  go_upto_region 3 with (go_at_call 36; refine HLS.out.mono ?_; rintro e w1 ⟨v, rfl, hq1, hB1⟩; obtain ⟨p, c, rfl⟩ := hq1.isSlice; have HQ1 := Lib.hid hq1; have HB1 := Lib.hid hB1; clear hq1 hB1)
  have hfit := HQ1.out.fits
  have hfit1 := hfit.1
  have HF2 := Lib.hid hfit.2
  clear hfit HLS
  go_loopw [1, 6] (fun s1 s6 wr => ∃ (i : Nat) (f : Nat → Int) (nn : Int), i ≤ 2 ∧ s6 = .int .i64 (i : Int) ∧ s1 = .int .i64 nn ∧ Hid (QRow wr w.heap.size 3 1 (.slice p m c) m (ivI f m)) ∧ Hid (Below w.heap.size w wr)) (fun _ s6 _ => 2 - (intOf s6).toNat)
  case atStart => exact ⟨0, _, n, by omega, rfl, rfl, HQ1, HB1⟩
  case round =>
    obtain ⟨i, f, nn, hi, rfl, rfl, hQ, hB⟩ := hrel
    clear HQ1 HB1
    by_cases hi2 : i < 2
    · have g1 : (i : Int) < 2 := by omega
      obtain ⟨t, ht⟩ := boolOf (AscP f m)
      have H37 : Hid (Calls Tryd.prog 37 #[.slice p m c] wr fun e w' => e = .returned (.bool t) ∧ w' = wr) := (pAsc_any p m c f wr hm20 hfit1 HF2.out (hQ.out.srcI (ivI_get f m))).mono fun e w' h => ⟨h.1.dec (b := t) ht, h.2⟩
      have H38 : Hid (Calls Tryd.prog 38 #[.slice p m c] wr fun e w' => e = .returned (.bool t) ∧ ∃ z, w' = wr.drewN z) := (rAsc_any p m c f wr hm20 (hQ.out.srcI (ivI_get f m))).mono fun e w' h => ⟨h.1.dec (b := t) ht, h.2⟩
      clear ht
      have q1 : (t != t) = false := by simp
      have q2 : (!t == t) = false := by cases t <;> rfl
      obtain ⟨wo, hwo⟩ : ∃ wo, Hid (wo = wr) := ⟨_, rfl⟩
      rw [← hwo.out] at hQ hB H37 H38 ⊢
      clear hwo
      go_upto_region 7 with (first
        | (go_at_call 37; refine H37.out.mono ?_; rintro e w2 ⟨rfl, hw2⟩; replace hw2 := hw2.symm; subst hw2)
        | (go_at_call 38; refine H38.out.mono ?_; rintro e w3 ⟨rfl, z3, hw3⟩; subst hw3))
      clear H37 H38
      have HB2 := Lib.hid (below_dr hB.out z3)
      have HQ2 : Hid (QRow (wo.drewN z3) w.heap.size 3 1 (.slice p m c) m (ivI f m)) := hQ.out
      clear hQ hB
      generalize wo.drewN z3 = X at *
      have HAS := Lib.hid (Ascents_any nn X)
      have key : Hid (∃ (kk : Int) (ee : Int), (Calls Tryd.prog 33 #[.int .i64 nn] X fun e w' => e = .returned (.tuple #[.int .i64 kk, .int .i64 ee]) ∧ Below X.heap.size X w') ∧ (((nn < 1 ∨ 14 < nn) ∧ kk = 0 ∧ ee = 1) ∨ (1 ≤ nn ∧ nn ≤ 14 ∧ ee = 0 ∧ ∀ W, Calls Tryd.prog 39 #[.int .i64 nn] W fun e w' => e = .returned (.int .i64 kk) ∧ Below W.heap.size W w'))) := by
        by_cases hbad : nn < 1 ∨ 14 < nn
        · refine ⟨0, 1, HAS.out.mono ?_, .inl ⟨hbad, rfl, rfl⟩⟩
          rintro e w' ⟨⟨rfl, _⟩ | ⟨k, h1, h2, rfl⟩, hB⟩
          · exact ⟨rfl, hB⟩
          · omega
        · obtain ⟨k, hk⟩ := Int.eq_ofNat_of_zero_le (show 0 ≤ nn - 1 by omega)
          refine ⟨((ascE k).length : Nat), 0, HAS.out.mono ?_, .inr ⟨by omega, by omega, rfl, fun W => ?_⟩⟩
          · rintro e w' ⟨⟨rfl, _⟩ | ⟨k', h1, h2, rfl⟩, hB⟩
            · omega
            · obtain rfl : k' = k := by omega
              exact ⟨rfl, hB⟩
          · obtain rfl : nn = ((k + 1 : Nat) : Int) := by omega
            have := rAscents_any (k + 1) W (by omega) (by omega)
            rw [Nat.add_sub_cancel] at this
            exact this
      clear HAS
      obtain ⟨kk, ee, hc33, hcase⟩ := key.out
      have H33 := Lib.hid hc33
      clear hc33 key
      have HQU : Hid (∀ V, Below X.heap.size X V → QRow V w.heap.size 3 1 (.slice p m c) m (ivI f m)) := fun V hV => HQ2.out.below hV (fun kk e => (HQ2.out.lt kk e).2)
      rcases hcase with ⟨hbad, rfl, rfl⟩ | ⟨h1, h14, rfl, h39⟩
      · rcases hbad with hb1 | hb1
        · have q3 : nn < 1 := hb1
          go_upto_region 14 with (go_at_call 33; refine H33.out.mono ?_; rintro e V ⟨rfl, hB5⟩; have HBV := Lib.hid (HB2.out.trans (hB5.mono HB2.out.size)); have HQV := Lib.hid (HQU.out V hB5); clear hB5)
          clear H33
          have hsz : w.heap.size ≤ V.heap.size := HBV.out.size
          go_loopw [9] (fun s9 wr => ∃ (j : Nat) (f : Nat → Int), j ≤ m ∧ s9 = .int .i64 (j : Int) ∧ Hid (QRow wr w.heap.size 3 1 (.slice p m c) m (ivI f m)) ∧ Hid (Below w.heap.size w wr)) (fun s9 _ => m - (intOf s9).toNat)
          case atStart => exact ⟨0, f, by omega, rfl, HQV, HBV⟩
          case round =>
            clear HQV HBV
            obtain ⟨j, f, hj, rfl, hQ, hB⟩ := hrel
            by_cases hjm : j < m
            · have g3 : (j : Int) < (m : Int) := by omega
              have g4 : (0 : Int) ≤ (j : Int) := by omega
              obtain ⟨gb, o, cap2, e, hb1, hb2, _, _, hc, _⟩ := hQ.out.at (by omega)
              cases e
              have k1 := (hc j (by omega)).trans (ivI_get f m j hjm)
              have k2 := (hQ.out.put hjm ((um (f j) (j + 1) : Nat) : Int)).1
              have HPUT := Lib.hid (hQ.out.put hjm ((um (f j) (j + 1) : Nat) : Int)).2
              have HBP := Lib.hid (hB.out.setCell (p := ⟨gb, o + j, none⟩) hb1 (.int .i64 ((um (f j) (j + 1) : Nat) : Int)))
              have hlt := um_lt (f j) (m := j + 1) (by omega)
              obtain ⟨j1, hj1⟩ : ∃ j1 : Nat, j + 1 = j1 := ⟨_, rfl⟩
              have hjj : (j : Int) + 1 = (j1 : Int) := by omega
              have hj121 : j1 ≤ 21 := by omega
              rw [hj1] at hlt HPUT HBP
              have hum := um_eq (f j) j1
              have HNX : Hid (j1 ≤ m) := by unfold Hid; omega
              have HJ1 := Lib.hid hj1
              generalize f j = fj at *
              generalize um fj j1 = uu at *
              have HMEAS : Hid (m - j1 < m - j) := by unfold Hid; omega
              have z1 : IntKind.u64.wrap (j1 : Int) = (j1 : Int) := u64_same _ (by omega)
              have z3 : ((j1 : Int) == 0) = false := by rw [beq_eq_false_iff_ne]; omega
              have z2 : IntKind.i64.wrap (uu : Int) = (uu : Int) := IntWalk.i64_in _ (by omega)
              clear hc hQ hB
              go_wp2
              exact ⟨⟨j1, _, HNX.out, rfl, HPUT, HBP⟩, by simpa [intOf] using HMEAS.out⟩
            · have g3 : ¬ (j : Int) < (m : Int) := by omega
              have hum := um_eq nn 14
              have hlt := um_lt nn (m := 14) (by omega)
              have hum : (IntKind.u64.wrap nn).tmod 14 = ((um nn 14 : Nat) : Int) := hum
              generalize um nn 14 = uu at *
              have z2 : IntKind.i64.wrap (uu : Int) = (uu : Int) := IntWalk.i64_in _ (by omega)
              have HI2 : Hid (i + 1 ≤ 2) := by unfold Hid; omega
              have HME : Hid (2 - (i + 1) < 2 - i) := by unfold Hid; omega
              have hjj : (i : Int) + 1 = ((i + 1 : Nat) : Int) := by omega
              have HJJ := Lib.hid hjj
              clear hjj
              go_wp2
              exact ⟨⟨i + 1, f, _, HI2.out, int_eq HJJ.out, rfl, hQ, hB⟩, by rw [show intOf (Value.int .i64 ((i : Int) + 1)) = (i : Int) + 1 from rfl, HJJ.out]; exact HME.out⟩
        · have q3 : decide (nn < 1) = false := by simp; omega
          have q4 : 14 < nn := hb1
          go_upto_region 14 with (go_at_call 33; refine H33.out.mono ?_; rintro e V ⟨rfl, hB5⟩; have HBV := Lib.hid (HB2.out.trans (hB5.mono HB2.out.size)); have HQV := Lib.hid (HQU.out V hB5); clear hB5)
          clear H33
          have hsz : w.heap.size ≤ V.heap.size := HBV.out.size
          go_loopw [9] (fun s9 wr => ∃ (j : Nat) (f : Nat → Int), j ≤ m ∧ s9 = .int .i64 (j : Int) ∧ Hid (QRow wr w.heap.size 3 1 (.slice p m c) m (ivI f m)) ∧ Hid (Below w.heap.size w wr)) (fun s9 _ => m - (intOf s9).toNat)
          case atStart => exact ⟨0, f, by omega, rfl, HQV, HBV⟩
          case round =>
            clear HQV HBV
            obtain ⟨j, f, hj, rfl, hQ, hB⟩ := hrel
            by_cases hjm : j < m
            · have g3 : (j : Int) < (m : Int) := by omega
              have g4 : (0 : Int) ≤ (j : Int) := by omega
              obtain ⟨gb, o, cap2, e, hb1, hb2, _, _, hc, _⟩ := hQ.out.at (by omega)
              cases e
              have k1 := (hc j (by omega)).trans (ivI_get f m j hjm)
              have k2 := (hQ.out.put hjm ((um (f j) (j + 1) : Nat) : Int)).1
              have HPUT := Lib.hid (hQ.out.put hjm ((um (f j) (j + 1) : Nat) : Int)).2
              have HBP := Lib.hid (hB.out.setCell (p := ⟨gb, o + j, none⟩) hb1 (.int .i64 ((um (f j) (j + 1) : Nat) : Int)))
              have hlt := um_lt (f j) (m := j + 1) (by omega)
              obtain ⟨j1, hj1⟩ : ∃ j1 : Nat, j + 1 = j1 := ⟨_, rfl⟩
              have hjj : (j : Int) + 1 = (j1 : Int) := by omega
              have hj121 : j1 ≤ 21 := by omega
              rw [hj1] at hlt HPUT HBP
              have hum := um_eq (f j) j1
              have HNX : Hid (j1 ≤ m) := by unfold Hid; omega
              have HJ1 := Lib.hid hj1
              generalize f j = fj at *
              generalize um fj j1 = uu at *
              have HMEAS : Hid (m - j1 < m - j) := by unfold Hid; omega
              have z1 : IntKind.u64.wrap (j1 : Int) = (j1 : Int) := u64_same _ (by omega)
              have z3 : ((j1 : Int) == 0) = false := by rw [beq_eq_false_iff_ne]; omega
              have z2 : IntKind.i64.wrap (uu : Int) = (uu : Int) := IntWalk.i64_in _ (by omega)
              clear hc hQ hB
              go_wp2
              exact ⟨⟨j1, _, HNX.out, rfl, HPUT, HBP⟩, by simpa [intOf] using HMEAS.out⟩
            · have g3 : ¬ (j : Int) < (m : Int) := by omega
              have hum := um_eq nn 14
              have hlt := um_lt nn (m := 14) (by omega)
              have hum : (IntKind.u64.wrap nn).tmod 14 = ((um nn 14 : Nat) : Int) := hum
              generalize um nn 14 = uu at *
              have z2 : IntKind.i64.wrap (uu : Int) = (uu : Int) := IntWalk.i64_in _ (by omega)
              have HI2 : Hid (i + 1 ≤ 2) := by unfold Hid; omega
              have HME : Hid (2 - (i + 1) < 2 - i) := by unfold Hid; omega
              have hjj : (i : Int) + 1 = ((i + 1 : Nat) : Int) := by omega
              have HJJ := Lib.hid hjj
              clear hjj
              go_wp2
              exact ⟨⟨i + 1, f, _, HI2.out, int_eq HJJ.out, rfl, hQ, hB⟩, by rw [show intOf (Value.int .i64 ((i : Int) + 1)) = (i : Int) + 1 from rfl, HJJ.out]; exact HME.out⟩
      · have q3 : decide (nn < 1) = false := by simp; omega
        have q4 : ¬ 14 < nn := by omega
        have H39 := Lib.hid h39
        have q5 : (kk != kk) = false := by simp
        clear h39
        go_upto_region 14 with (first
          | (go_at_call 33; refine H33.out.mono ?_; rintro e w4 ⟨rfl, hB4⟩; have HB4 := Lib.hid hB4; clear hB4)
          | (go_at_call 39; refine (H39.out _).mono ?_; rintro e V ⟨rfl, hB5⟩; have HBV := Lib.hid (HB2.out.trans ((HB4.out.trans (hB5.mono HB4.out.size)).mono HB2.out.size)); have HQV := Lib.hid (HQU.out V (HB4.out.trans (hB5.mono HB4.out.size))); clear hB5))
        clear H33 H39
        have hsz : w.heap.size ≤ V.heap.size := HBV.out.size
        go_loopw [9] (fun s9 wr => ∃ (j : Nat) (f : Nat → Int), j ≤ m ∧ s9 = .int .i64 (j : Int) ∧ Hid (QRow wr w.heap.size 3 1 (.slice p m c) m (ivI f m)) ∧ Hid (Below w.heap.size w wr)) (fun s9 _ => m - (intOf s9).toNat)
        case atStart => exact ⟨0, f, by omega, rfl, HQV, HBV⟩
        case round =>
          clear HQV HBV
          obtain ⟨j, f, hj, rfl, hQ, hB⟩ := hrel
          by_cases hjm : j < m
          · have g3 : (j : Int) < (m : Int) := by omega
            have g4 : (0 : Int) ≤ (j : Int) := by omega
            obtain ⟨gb, o, cap2, e, hb1, hb2, _, _, hc, _⟩ := hQ.out.at (by omega)
            cases e
            have k1 := (hc j (by omega)).trans (ivI_get f m j hjm)
            have k2 := (hQ.out.put hjm ((um (f j) (j + 1) : Nat) : Int)).1
            have HPUT := Lib.hid (hQ.out.put hjm ((um (f j) (j + 1) : Nat) : Int)).2
            have HBP := Lib.hid (hB.out.setCell (p := ⟨gb, o + j, none⟩) hb1 (.int .i64 ((um (f j) (j + 1) : Nat) : Int)))
            have hlt := um_lt (f j) (m := j + 1) (by omega)
            obtain ⟨j1, hj1⟩ : ∃ j1 : Nat, j + 1 = j1 := ⟨_, rfl⟩
            have hjj : (j : Int) + 1 = (j1 : Int) := by omega
            have hj121 : j1 ≤ 21 := by omega
            rw [hj1] at hlt HPUT HBP
            have hum := um_eq (f j) j1
            have HNX : Hid (j1 ≤ m) := by unfold Hid; omega
            have HJ1 := Lib.hid hj1
            generalize f j = fj at *
            generalize um fj j1 = uu at *
            have HMEAS : Hid (m - j1 < m - j) := by unfold Hid; omega
            have z1 : IntKind.u64.wrap (j1 : Int) = (j1 : Int) := u64_same _ (by omega)
            have z3 : ((j1 : Int) == 0) = false := by rw [beq_eq_false_iff_ne]; omega
            have z2 : IntKind.i64.wrap (uu : Int) = (uu : Int) := IntWalk.i64_in _ (by omega)
            clear hc hQ hB
            go_wp2
            exact ⟨⟨j1, _, HNX.out, rfl, HPUT, HBP⟩, by simpa [intOf] using HMEAS.out⟩
          · have g3 : ¬ (j : Int) < (m : Int) := by omega
            have hum := um_eq nn 14
            have hlt := um_lt nn (m := 14) (by omega)
            have hum : (IntKind.u64.wrap nn).tmod 14 = ((um nn 14 : Nat) : Int) := hum
            generalize um nn 14 = uu at *
            have z2 : IntKind.i64.wrap (uu : Int) = (uu : Int) := IntWalk.i64_in _ (by omega)
            have HI2 : Hid (i + 1 ≤ 2) := by unfold Hid; omega
            have HME : Hid (2 - (i + 1) < 2 - i) := by unfold Hid; omega
            have hjj : (i : Int) + 1 = ((i + 1 : Nat) : Int) := by omega
            have HJJ := Lib.hid hjj
            clear hjj
            go_wp2
            exact ⟨⟨i + 1, f, _, HI2.out, int_eq HJJ.out, rfl, hQ, hB⟩, by rw [show intOf (Value.int .i64 ((i : Int) + 1)) = (i : Int) + 1 from rfl, HJJ.out]; exact HME.out⟩
    · have g1 : ¬ (i : Int) < 2 := by omega
      have HAW := Lib.hid (awake_any wr (HT.out.below hB.out (Nat.le_refl _)))
      go_wp2_with (go_at_call 17; refine HAW.out.mono ?_; rintro e w9 ⟨rfl, hB9⟩; have HB9 := Lib.hid (hB.out.trans (hB9.mono hB.out.size)); clear hB9)
      go_ret
      exact ⟨rfl, HB9.out⟩
end Go.Proofs.YtgpijajgaclhfaaDoor
