/- Plain text: the program's cover and the reference's are the same. -/
import Derived.Test.YtfbobojpocnfeaaPn
namespace Go.Proofs.Ytfbobojpocnfeaa
open Go.RowKit

theorem within_full {t n : Nat} : Within t (full n) ↔ t ≤ full n := by
  refine ⟨Within.le, fun h => within_iff.2 fun i hi => ?_⟩
  rw [testBit_full]
  refine decide_eq_true (Classical.byContradiction fun hc => ?_)
  have h1 : t < 2 ^ i := Nat.lt_of_le_of_lt h (Nat.lt_of_lt_of_le (full_lt_pw n) (Nat.pow_le_pow_right (by decide) (by omega)))
  rw [Nat.testBit_lt_two_pow h1] at hi
  cases hi
theorem subs_full (n : Nat) : subs (full n) = List.range (full n + 1) := by
  unfold subs subsLt
  rw [List.filter_eq_self]
  intro t ht
  exact decide_eq_true (within_full.2 (by have := List.mem_range.1 ht; omega))
theorem tb_within {s t : Nat} (h : Within s t) (k : Nat) : tb s k ≤ tb t k := by
  unfold tb
  have := within_iff.1 h k
  cases e1 : s.testBit k <;> cases e2 : t.testBit k <;> simp_all
theorem szTo_within {s t : Nat} (h : Within s t) : ∀ k, szTo s k ≤ szTo t k
  | 0 => Nat.le_refl _
  | k + 1 => Nat.add_le_add (szTo_within h k) (tb_within h k)
theorem size_within {s t : Nat} (h : Within s t) : size s ≤ size t := szTo_within h 64
theorem szTo_within_lt {s t : Nat} (h : Within s t) {i : Nat} (h1 : s.testBit i = false) (h2 : t.testBit i = true) : ∀ k, i < k → szTo s k < szTo t k
  | 0, hk => by omega
  | k + 1, hk => by
    simp only [szTo]
    by_cases e : i = k
    · subst e
      have := szTo_within h i
      have a : tb s i = 0 := by unfold tb; rw [h1]; rfl
      have b : tb t i = 1 := by unfold tb; rw [h2]; rfl
      omega
    · have := szTo_within_lt h h1 h2 k (by omega)
      have := tb_within h k
      omega
theorem size_within_lt {s t : Nat} (h : Within s t) (hne : s ≠ t) (ht : Sm t) : size s < size t := by
  obtain ⟨i, hi⟩ : ∃ i, s.testBit i ≠ t.testBit i := Classical.byContradiction fun hc => hne (nat_ext fun i => Classical.byContradiction fun e => hc ⟨i, e⟩)
  have h1 : s.testBit i = false := by
    cases e : s.testBit i with
    | false => rfl
    | true => exact absurd (by rw [e, within_iff.1 h i e]) hi
  have h2 : t.testBit i = true := by rw [h1] at hi; cases e : t.testBit i with
    | false => exact absurd e.symm hi
    | true => rfl
  refine szTo_within_lt h h1 h2 64 (Classical.byContradiction fun hc => ?_)
  have h3 : t < 2 ^ i := Nat.lt_of_lt_of_le ht (show 2 ^ 20 ≤ 2 ^ i from Nat.pow_le_pow_right (by decide) (by omega))
  rw [Nat.testBit_lt_two_pow h3] at h2
  cases h2
def rcStep (g : List Nat) (best s : Nat) : Nat := if quietB g (ldiff (full g.length) s) = true ∧ size s < size best then s else best
def rcF (g : List Nat) : Nat := (List.range (full g.length)).foldl (rcStep g) (full g.length)
def RcInv (g : List Nat) (k b : Nat) : Prop := (b = full g.length ∨ (b < k ∧ quietB g (ldiff (full g.length) b) = true)) ∧ ∀ s, s < k → quietB g (ldiff (full g.length) s) = true → size b < size s ∨ (size b = size s ∧ b ≤ s)
theorem rcInv (g : List Nat) (hl : g.length ≤ 10) : ∀ k, k ≤ full g.length → RcInv g k ((List.range k).foldl (rcStep g) (full g.length))
  | 0, _ => ⟨.inl rfl, fun s hs => by omega⟩
  | k + 1, hk => by
    have hfs : Sm (full g.length) := sm_full (by omega)
    obtain ⟨h1, h2⟩ := rcInv g hl k (by omega)
    rw [List.range_succ, List.foldl_append, List.foldl_cons, List.foldl_nil]
    generalize (List.range k).foldl (rcStep g) (full g.length) = b at *
    unfold rcStep
    split
    · rename_i hc
      refine ⟨.inr ⟨by omega, hc.1⟩, fun s hs hq => ?_⟩
      by_cases e : s = k
      · subst e; exact .inr ⟨rfl, Nat.le_refl _⟩
      · rcases h2 s (by omega) hq with h | h
        · exact .inl (by omega)
        · exact .inl (by omega)
    · rename_i hc
      refine ⟨h1.imp id fun h => ⟨by omega, h.2⟩, fun s hs hq => ?_⟩
      by_cases e : s = k
      · subst e
        have : ¬ size s < size b := fun h => hc ⟨hq, h⟩
        rcases h1 with rfl | h1
        · have := size_within_lt (within_full.2 (show s ≤ full g.length by omega)) (by omega) hfs
          omega
        · rcases Nat.lt_or_ge (size b) (size s) with h | h
          · exact .inl h
          · exact .inr ⟨by omega, by omega⟩
      · exact h2 s (by omega) hq
theorem foldl_toS (g : List Nat) : ∀ (l : List Nat) (b : Nat), (∀ t ∈ l, Sm t) → (l.map toS).foldl (covStep g) b = l.foldl (rcStep g) b
  | [], _, _ => rfl
  | t :: l, b, h => by
    simp only [List.map_cons, List.foldl_cons]
    have e : covStep g b (toS t) = rcStep g b t := by
      unfold covStep rcStep
      rw [toS_val (h t List.mem_cons_self)]
      by_cases h1 : size t < size b <;> by_cases h2 : quietB g (ldiff (full g.length) t) = true <;> simp [h1, h2]
    rw [e]
    exact foldl_toS g l _ fun t ht => h t (List.mem_cons_of_mem _ ht)
theorem quiet_zero (g : List Nat) : quietB g 0 = true := by
  unfold quietB
  rw [List.all_eq_true]
  intro i _
  simp
theorem ldiff_self (a : Nat) : ldiff a a = 0 := ldiff_zero.2 (within_refl a)
theorem cover_same (g : List Nat) (hl : g.length ≤ 10) : coverF g = rcF g := by
  have hfs : Sm (full g.length) := sm_full (by omega)
  have hb : covBest g = rcF g := by
    unfold covBest
    rw [foldl_toS g _ _ (fun t ht => Nat.lt_of_le_of_lt (mem_subs.1 ht).le hfs), subs_full, List.range_succ, List.foldl_append, List.foldl_cons, List.foldl_nil]
    show rcStep g (rcF g) (full g.length) = rcF g
    have hi := (rcInv g hl (full g.length) (Nat.le_refl _)).1
    unfold rcStep
    rw [if_neg]
    rintro ⟨_, h⟩
    have hle : rcF g ≤ full g.length := by
      rcases hi with e | e
      · exact Nat.le_of_eq e
      · exact Nat.le_of_lt e.1
    have := size_within (within_full.2 hle)
    omega
  obtain ⟨h1, h2⟩ := rcInv g hl (full g.length) (Nat.le_refl _)
  have hle : rcF g ≤ full g.length := by
    rcases h1 with e | e
    · exact Nat.le_of_eq e
    · exact Nat.le_of_lt e.1
  have hq : quietB g (ldiff (full g.length) (rcF g)) = true := by
    rcases h1 with e | e
    · rw [show rcF g = full g.length from e, ldiff_self]; exact quiet_zero g
    · exact e.2
  have hfind : (subs (full g.length)).find? (covTest g (covBest g)) = some (rcF g) := by
    rw [subs_full, hb, List.find?_range_eq_some]
    refine ⟨by unfold covTest; simp [hq], List.mem_range.2 (by omega), fun s hs => ?_⟩
    unfold covTest
    by_cases e : size s = size (rcF g)
    · by_cases e2 : quietB g (ldiff (full g.length) s) = true
      · have := h2 s (by omega) e2
        have h3 : rcF g = (List.range (full g.length)).foldl (rcStep g) (full g.length) := rfl
        rw [← h3] at this
        omega
      · simp [e2]
    · simp [e]
  unfold coverF
  rw [hfind]
  rfl
end Go.Proofs.Ytfbobojpocnfeaa
