/- The order of a graph and its cores, in plain text. -/
import Derived.Test.YtpknnjcbcndbbaaDoorA12
set_option linter.unusedVariables false
set_option linter.unusedSimpArgs false
namespace Go.Proofs.YtpknnjcbcndbbaaDoor
open Go.RowKit

def wtn (g : List Nat) (v s : Nat) : Nat := size ((g[v]?.getD 0) &&& s)
/-- the last of the first k vertices of s that has the fewest edges to s -/
def bstK (g : List Nat) (s : Nat) : Nat → Option Nat
  | 0 => none
  | k + 1 => if s.testBit k = true ∧ (∀ b, bstK g s k = some b → wtn g k s ≤ wtn g b s) then some k else bstK g s k
def bst (g : List Nat) (n s : Nat) : Nat := (bstK g s n).getD 0
/-- what is left behind j steps -/
def lf (g : List Nat) (n : Nat) : Nat → Nat
  | 0 => full n
  | j + 1 => ldiff (lf g n j) (pw (bst g n (lf g n j)))
def pk (g : List Nat) (n j : Nat) : Nat := bst g n (lf g n j)
def loo (g : List Nat) (n : Nat) : Nat → Nat
  | 0 => 0
  | j + 1 => max (loo g n j) (wtn g (pk g n j) (lf g n j))
def ordL (g : List Nat) (n : Nat) : List Nat := ((List.range n).map (pk g n)).reverse
theorem bstK_spec {g : List Nat} {s : Nat} : ∀ (k : Nat), (∀ b, bstK g s k = some b → b < k ∧ s.testBit b = true ∧ (∀ v, v < k → s.testBit v = true → wtn g b s ≤ wtn g v s)) ∧ (bstK g s k = none → ∀ v, v < k → s.testBit v = false)
  | 0 => ⟨fun b h => (by cases h), fun _ v h => (by omega)⟩
  | k + 1 => by
    obtain ⟨h1, h2⟩ := bstK_spec (g := g) (s := s) k
    unfold bstK
    split
    · rename_i hc
      refine ⟨fun b hb => ?_, fun h => (by cases h)⟩
      cases hb
      refine ⟨by omega, hc.1, fun v hv hsv => ?_⟩
      by_cases hvk : v = k
      · subst hvk; exact Nat.le_refl _
      · cases hb : bstK g s k with
        | none => have := h2 hb v (by omega); rw [this] at hsv; cases hsv
        | some b => exact Nat.le_trans (hc.2 b hb) ((h1 b hb).2.2 v (by omega) hsv)
    · rename_i hc
      refine ⟨fun b hb => ?_, fun hb v hv => ?_⟩
      · obtain ⟨a1, a2, a3⟩ := h1 b hb
        refine ⟨by omega, a2, fun v hv hsv => ?_⟩
        by_cases hvk : v = k
        · subst hvk
          refine Nat.le_of_not_lt fun hlt => hc ⟨hsv, fun b' hb' => ?_⟩
          rw [hb] at hb'; cases hb'; omega
        · exact a3 v (by omega) hsv
      · by_cases hvk : v = k
        · subst hvk
          cases hs : s.testBit v with
          | false => rfl
          | true => exact absurd ⟨hs, fun b hb' => by rw [hb] at hb'; cases hb'⟩ hc
        · exact h2 hb v (by omega)
theorem bst_mem {g : List Nat} {n s : Nat} (h0 : s ≠ 0) (hl : ∀ x, s.testBit x = true → x < n) : bst g n s < n ∧ s.testBit (bst g n s) = true ∧ bstK g s n = some (bst g n s) ∧ ∀ v, s.testBit v = true → wtn g (bst g n s) s ≤ wtn g v s := by
  unfold bst
  cases h : bstK g s n with
  | none =>
    refine absurd (Nat.eq_of_testBit_eq fun i => ?_) h0
    rw [Nat.zero_testBit]
    by_cases hi : i < n
    · exact (bstK_spec n).2 h i hi
    · cases hb : s.testBit i with
      | false => rfl
      | true => exact absurd (hl i hb) hi
  | some b =>
    obtain ⟨h1, h2, h3⟩ := (bstK_spec n).1 b h
    exact ⟨h1, h2, rfl, fun v hv => h3 v (hl v hv) hv⟩
theorem lf_lt {g : List Nat} {n : Nat} : ∀ (j : Nat) {x : Nat}, (lf g n j).testBit x = true → x < n
  | 0, x, h => by unfold lf at h; rw [testBit_full] at h; simpa using h
  | j + 1, x, h => by
    unfold lf at h
    rw [testBit_ldiff, Bool.and_eq_true] at h
    exact lf_lt j h.1
theorem lf_card {g : List Nat} {n : Nat} : ∀ (j : Nat), j ≤ n → ((List.range n).filter (fun x => (lf g n j).testBit x)).length = n - j
  | 0, _ => by
    have : (List.range n).filter (fun x => (lf g n 0).testBit x) = List.range n := by
      rw [List.filter_eq_self]
      intro x hx
      unfold lf; rw [testBit_full]; simpa using hx
    rw [this]; simp
  | j + 1, hj => by
    have ih := lf_card (g := g) (n := n) j (by omega)
    have h0 : lf g n j ≠ 0 := fun e => by
      rw [e, List.filter_eq_nil_iff.2 (fun x _ => by simp)] at ih
      simp only [List.length_nil] at ih; omega
    obtain ⟨h1, h2, _, _⟩ := bst_mem (g := g) h0 (fun x hx => lf_lt j hx)
    have hb : bst g n (lf g n j) ∈ (List.range n).filter (fun x => (lf g n j).testBit x) := List.mem_filter.2 ⟨List.mem_range.2 h1, h2⟩
    have he : (List.range n).filter (fun x => (lf g n (j + 1)).testBit x) = ((List.range n).filter (fun x => (lf g n j).testBit x)).erase (bst g n (lf g n j)) := by
      rw [List.Nodup.erase_eq_filter (List.nodup_range.filter _), List.filter_filter]
      refine List.filter_congr fun x _ => ?_
      show (ldiff (lf g n j) (pw (bst g n (lf g n j)))).testBit x = _
      rw [testBit_ldiff, pw, Nat.testBit_two_pow]
      by_cases e : bst g n (lf g n j) = x
      · subst e; simp
      · have e' : x ≠ bst g n (lf g n j) := fun h => e h.symm
        simp [e, e']
    rw [he, List.length_erase_of_mem hb, ih]
    omega
theorem lf_zero {g : List Nat} {n j : Nat} (hj : j ≤ n) : lf g n j = 0 ↔ j = n := by
  have h := lf_card (g := g) j hj
  constructor
  · intro e
    rw [e, List.filter_eq_nil_iff.2 (fun x _ => by simp)] at h
    simp only [List.length_nil] at h; omega
  · rintro rfl
    apply Nat.eq_of_testBit_eq
    intro i
    rw [Nat.zero_testBit]
    cases hb : (lf g j j).testBit i with
    | false => rfl
    | true =>
      have : i ∈ (List.range j).filter (fun x => (lf g j j).testBit x) := List.mem_filter.2 ⟨List.mem_range.2 (lf_lt j hb), hb⟩
      have := List.length_pos_of_mem this
      omega
theorem pk_facts {g : List Nat} {n j : Nat} (hj : j < n) : pk g n j < n ∧ (lf g n j).testBit (pk g n j) = true ∧ bstK g (lf g n j) n = some (pk g n j) ∧ ∀ v, (lf g n j).testBit v = true → wtn g (pk g n j) (lf g n j) ≤ wtn g v (lf g n j) :=
  bst_mem (fun e => by have := (lf_zero (g := g) (Nat.le_of_lt hj)).1 e; omega) (fun x hx => lf_lt j hx)
/-- one pass over the first v vertices: who has fewer than k edges to what is left goes -/
def pasK (g : List Nat) (k : Nat) (s : Nat) : Nat → Nat
  | 0 => s
  | v + 1 => if (pasK g k s v).testBit v = true ∧ wtn g v (pasK g k s v) < k then ldiff (pasK g k s v) (pw v) else pasK g k s v
theorem pasK_le (g : List Nat) (k s : Nat) : ∀ v, pasK g k s v ≤ s
  | 0 => Nat.le_refl _
  | v + 1 => by
    unfold pasK
    split
    · exact Nat.le_trans (ldiff_le _ _) (pasK_le g k s v)
    · exact pasK_le g k s v
/-- what is left behind j passes -/
def cor (g : List Nat) (n k : Nat) : Nat → Nat
  | 0 => full n
  | j + 1 => pasK g k (cor g n k j) n
theorem cor_le (g : List Nat) (n k : Nat) : ∀ j, cor g n k j ≤ full n
  | 0 => Nat.le_refl _
  | j + 1 => Nat.le_trans (pasK_le _ _ _ _) (cor_le g n k j)
def CoreIs (g : List Nat) (n k s : Nat) : Prop := ∃ m, s = cor g n k m ∧ pasK g k s n = s
theorem cor_stay {g : List Nat} {n k m : Nat} (h : pasK g k (cor g n k m) n = cor g n k m) : ∀ d, cor g n k (m + d) = cor g n k m
  | 0 => rfl
  | d + 1 => by
    show pasK g k (cor g n k (m + d)) n = _
    rw [cor_stay h d]; exact h
theorem CoreIs.unique {g : List Nat} {n k s t : Nat} (h : CoreIs g n k s) (h' : CoreIs g n k t) : s = t := by
  obtain ⟨m, rfl, h1⟩ := h
  obtain ⟨m', rfl, h2⟩ := h'
  rcases Nat.le_total m m' with hl | hl
  · have := cor_stay h1 (m' - m); rw [show m + (m' - m) = m' by omega] at this; exact this.symm
  · have := cor_stay h2 (m - m'); rw [show m' + (m - m') = m by omega] at this; exact this
end Go.Proofs.YtpknnjcbcndbbaaDoor
