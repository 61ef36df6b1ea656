/- Who is at home, in plain text: a schedule's matches as a tournament, and its patterns. -/
import Derived.Test.YtbioondlmgolkaaG524
import Derived.Test.YtbioondlmgolkaaG517
set_option linter.unusedVariables false
set_option linter.unusedSimpArgs false
namespace Go.Proofs.Ytbioondlmgolkaa
open Go.RowKit

/-- all matches, round by round -/
def msL (n : Nat) (m : Nat → Nat → Nat × Nat) : List (Nat × Nat) := (List.range (n - 1)).flatMap fun r => (List.range (n / 2)).map (m r)
theorem mem_ms {n : Nat} {m : Nat → Nat → Nat × Nat} {p : Nat × Nat} : p ∈ msL n m ↔ ∃ r k, r < n - 1 ∧ k < n / 2 ∧ m r k = p := by
  unfold msL
  rw [List.mem_flatMap]
  constructor
  · rintro ⟨r, hr, hp⟩
    obtain ⟨k, hk, e⟩ := List.mem_map.1 hp
    exact ⟨r, k, List.mem_range.1 hr, List.mem_range.1 hk, e⟩
  · rintro ⟨r, k, hr, hk, e⟩
    exact ⟨r, List.mem_range.2 hr, List.mem_map.2 ⟨k, List.mem_range.2 hk, e⟩⟩
theorem ms_nodup {n : Nat} {m : Nat → Nat → Nat × Nat} (h : SchP n m) : (msL n m).Nodup := by
  unfold msL List.Nodup
  rw [List.pairwise_flatMap]
  refine ⟨fun r hr => ?_, ?_⟩
  · rw [List.pairwise_map]
    refine List.Pairwise.imp_of_mem ?_ List.nodup_range
    intro a b ha hb hab e
    exact hab (h.met r a r b (List.mem_range.1 hr) (List.mem_range.1 ha) (List.mem_range.1 hr) (List.mem_range.1 hb) (by rw [e])).2
  · refine List.Pairwise.imp_of_mem ?_ List.nodup_range
    intro a b ha hb hab x hx y hy e
    obtain ⟨k, hk, rfl⟩ := List.mem_map.1 hx
    obtain ⟨k', hk', rfl⟩ := List.mem_map.1 hy
    exact hab (h.met a k b k' (List.mem_range.1 ha) (List.mem_range.1 hk) (List.mem_range.1 hb) (List.mem_range.1 hk') (by rw [e])).1
/-- i is at home against j -/
def tabM (n : Nat) (m : Nat → Nat → Nat × Nat) (i j : Nat) : Bool := decide ((i, j) ∈ msL n m)
theorem tabM_iff {n : Nat} {m : Nat → Nat → Nat × Nat} {i j : Nat} : tabM n m i j = true ↔ (i, j) ∈ msL n m := by unfold tabM; simp
theorem home_cnt {n : Nat} {m : Nat → Nat → Nat × Nat} (h : SchP n m) (i : Nat) : cnt (tabM n m i) n = ((msL n m).filter fun p => decide (p.1 = i)).length := by
  rw [cnt_filter]
  have hB : (((msL n m).filter fun p => decide (p.1 = i)).map (·.2)).Nodup := by
    unfold List.Nodup
    rw [List.pairwise_map]
    refine List.Pairwise.imp_of_mem ?_ ((ms_nodup h).sublist List.filter_sublist)
    intro a b ha hb hab e
    rw [List.mem_filter] at ha hb
    have h1 : a.1 = i := by simpa using ha.2
    have h2 : b.1 = i := by simpa using hb.2
    exact hab (Prod.ext (h1.trans h2.symm) e)
  refine Nat.le_antisymm ?_ ?_
  · rw [show ((msL n m).filter fun p => decide (p.1 = i)).length = (((msL n m).filter fun p => decide (p.1 = i)).map (·.2)).length by rw [List.length_map]]
    refine nodup_sub _ _ (List.nodup_range.sublist List.filter_sublist) fun j hj => ?_
    rw [List.mem_filter] at hj
    exact List.mem_map.2 ⟨(i, j), List.mem_filter.2 ⟨tabM_iff.1 hj.2, by simp⟩, rfl⟩
  · rw [show ((msL n m).filter fun p => decide (p.1 = i)).length = (((msL n m).filter fun p => decide (p.1 = i)).map (·.2)).length by rw [List.length_map]]
    refine nodup_sub _ _ hB fun j hj => ?_
    obtain ⟨p, hp, rfl⟩ := List.mem_map.1 hj
    rw [List.mem_filter] at hp
    have h1 : p.1 = i := by simpa using hp.2
    obtain ⟨r, k, hr, hk, e⟩ := mem_ms.1 hp.1
    rw [List.mem_filter]
    refine ⟨List.mem_range.2 ?_, tabM_iff.2 ?_⟩
    · rw [← e]; exact (h.rng r k hr hk).2.1
    · rw [← h1]; exact hp.1
/-- every two boats meet -/
def AllP (n : Nat) (m : Nat → Nat → Nat × Nat) : Prop := ∀ i j, i < j → j < n → ∃ r k, r < n - 1 ∧ k < n / 2 ∧ unord (m r k) = (i, j)
theorem AllP.turn {n : Nat} {m m' : Nat → Nat → Nat × Nat} (h : AllP n m) (t : TurnP m m') : AllP n m' := fun i j hi hj => by
  obtain ⟨r, k, hr, hk, e⟩ := h i j hi hj
  exact ⟨r, k, hr, hk, by rw [t.un, e]⟩
theorem unord_cases {p : Nat × Nat} {i j : Nat} (h : unord p = (i, j)) : p = (i, j) ∨ p = (j, i) := by
  obtain ⟨a, b⟩ := p
  unfold unord at h
  simp only [Prod.mk.injEq] at h ⊢
  omega
theorem tabM_tour {n : Nat} {m : Nat → Nat → Nat × Nat} (h : SchP n m) (ha : AllP n m) : TourP n (tabM n m) where
  irr := fun i hi => by
    cases e : tabM n m i i with
    | false => rfl
    | true =>
      obtain ⟨r, k, hr, hk, e2⟩ := mem_ms.1 (tabM_iff.1 e)
      have := (h.rng r k hr hk).2.2
      rw [e2] at this
      exact absurd rfl this
  tot := fun i j hi hj hne => by
    have key : ∀ i j, i < n → j < n → i ≠ j → tabM n m i j = true → tabM n m j i = true → False := fun i j hi hj hne h1 h2 => by
      obtain ⟨r, k, hr, hk, e1⟩ := mem_ms.1 (tabM_iff.1 h1)
      obtain ⟨r', k', hr', hk', e2⟩ := mem_ms.1 (tabM_iff.1 h2)
      have := h.met r k r' k' hr hk hr' hk' (by rw [e1, e2]; exact unord_turn (j, i))
      rw [this.1, this.2, e2, Prod.mk.injEq] at e1
      exact hne e1.1.symm
    have some : ∀ i j, i < j → j < n → tabM n m i j = true ∨ tabM n m j i = true := fun i j hij hj => by
      obtain ⟨r, k, hr, hk, e⟩ := ha i j hij hj
      rcases unord_cases e with e | e
      · exact .inl (tabM_iff.2 (mem_ms.2 ⟨r, k, hr, hk, e⟩))
      · exact .inr (tabM_iff.2 (mem_ms.2 ⟨r, k, hr, hk, e⟩))
    have hs : tabM n m i j = true ∨ tabM n m j i = true := by
      rcases Nat.lt_or_gt_of_ne hne with hlt | hlt
      · exact some i j hlt hj
      · exact (some j i hlt hi).symm
    cases e1 : tabM n m i j with
    | false => rcases hs with h1 | h1
               · rw [e1] at h1; cases h1
               · rw [h1]; rfl
    | true => cases e2 : tabM n m j i with
      | false => rfl
      | true => exact absurd (key i j hi hj hne e1 e2) (fun h => h)
def allB2 (n : Nat) : Bool := allN n fun j => allN j fun i => (List.range (n - 1)).any fun r => (List.range (n / 2)).any fun k => decide (min (cir n r k).1 (cir n r k).2 = i) && decide (max (cir n r k).1 (cir n r k).2 = j)
theorem allB2_all {n : Nat} (h : allB2 n = true) : AllP n (cir n) := fun i j hij hj => by
  have := (allN_iff.1 ((allN_iff.1 h) j hj)) i hij
  simp only [List.any_eq_true, List.mem_range, Bool.and_eq_true, decide_eq_true_eq] at this
  obtain ⟨r, hr, k, hk, h1, h2⟩ := this
  exact ⟨r, k, hr, hk, by unfold unord; rw [h1, h2]⟩
set_option maxRecDepth 100000 in
theorem cir_all {n : Nat} (h : n = 2 ∨ n = 4 ∨ n = 6 ∨ n = 8 ∨ n = 10 ∨ n = 12) : AllP n (cir n) := by
  rcases h with e | e | e | e | e | e
  · subst e; exact allB2_all (by decide +kernel)
  · subst e; exact allB2_all (by decide +kernel)
  · subst e; exact allB2_all (by decide +kernel)
  · subst e; exact allB2_all (by decide +kernel)
  · subst e; exact allB2_all (by decide +kernel)
  · subst e; exact allB2_all (by decide +kernel)
/-- a boat's pattern: 'H' and 'A' -/
def patB (ms : List (Nat × Nat)) (i : Nat) : List Nat := ms.filterMap fun p => if p.1 = i then some 72 else if p.2 = i then some 65 else none
theorem patB_snoc (ms : List (Nat × Nat)) (p : Nat × Nat) (i : Nat) : patB (ms ++ [p]) i = patB ms i ++ (if p.1 = i then [72] else if p.2 = i then [65] else []) := by
  unfold patB
  rw [List.filterMap_append]
  congr 1
  by_cases h1 : p.1 = i
  · simp [h1]
  · by_cases h2 : p.2 = i
    · simp [h1, h2]
    · simp [h1, h2]
theorem patB_H (ms : List (Nat × Nat)) (i : Nat) : ((patB ms i).filter fun b => decide (b = 72)).length = (ms.filter fun p => decide (p.1 = i)).length := by
  induction ms with
  | nil => rfl
  | cons p ms ih =>
    unfold patB at *
    rw [List.filterMap_cons, List.filter_cons]
    by_cases h1 : p.1 = i
    · simp [h1, ih]
    · by_cases h2 : p.2 = i
      · simp [h1, h2, ih]
      · simp [h1, h2, ih]
theorem patB_len (ms : List (Nat × Nat)) (i : Nat) : (patB ms i).length ≤ ms.length := List.length_filterMap_le _ _
theorem ms_len (n : Nat) (m : Nat → Nat → Nat × Nat) : (msL n m).length = (n - 1) * (n / 2) := by
  unfold msL
  rw [List.length_flatMap]
  have : ∀ k, ((List.range k).map fun r => ((List.range (n / 2)).map (m r)).length).sum = k * (n / 2) := by
    intro k
    induction k with
    | zero => simp
    | succ k ih => rw [List.range_succ, List.map_append, List.sum_append, ih, Nat.succ_mul]; simp
  exact this (n - 1)
end Go.Proofs.Ytbioondlmgolkaa
