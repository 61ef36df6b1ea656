/- Plain text: a path is a plan that is judged well; what the search for a structure finds is one; the wolf, the goat and the cabbage. -/
import Derived.Test.YtfbobojpocnfeaaSx
namespace Go.Proofs.Ytfbobojpocnfeaa
open Go.RowKit

theorem nat_ext {a b : Nat} (h : ∀ i, a.testBit i = b.testBit i) : a = b := Nat.eq_of_testBit_eq h
theorem ldiff_full {g : List Nat} {s : Nat} (h : Within s (full g.length)) : ldiff (full g.length) (ldiff (full g.length) s) = s := nat_ext fun i => by
  rw [testBit_ldiff, testBit_ldiff]
  have := within_iff.1 h i
  cases hs : s.testBit i <;> cases hf : (full g.length).testBit i <;> simp_all
theorem ldiff_disj {a b : Nat} (h : ∀ i, b.testBit i = true → a.testBit i = false) : ldiff a b = a := nat_ext fun i => by
  rw [testBit_ldiff]
  have := h i
  cases hs : b.testBit i <;> cases hf : a.testBit i <;> simp_all
/-- a trip that is legal is judged well, and none else -/
theorem tripB_iff {g : List Nat} {seats : Nat} {s : St} {p : Nat} (h : Within s.1 (full g.length)) : tripB g (seats : Int) s (p : Int) = true ↔ Legal g seats s p := by
  unfold tripB Legal
  rw [Int.toNat_natCast]
  simp only [Bool.and_eq_true, decide_eq_true_eq, beq_iff_eq, ldiff_zero]
  constructor
  · rintro ⟨⟨⟨⟨_, h1⟩, h2⟩, h3⟩, h4⟩
    obtain ⟨l, b⟩ := s
    cases b
    · simp only [bank, Bool.false_eq_true, if_false] at h1 ⊢
      have e : ldiff (ldiff (full g.length) l) p = ldiff (full g.length) l := ldiff_disj fun i hi => by
        rw [testBit_ldiff, within_iff.1 h1 i hi]; simp
      rw [e] at h4
      exact ⟨h1, by omega, h3, h4⟩
    · simp only [bank, if_true] at h1 ⊢
      have e : ldiff l p = l := ldiff_disj fun i hi => by
        have := within_iff.1 h1 i hi
        rw [testBit_ldiff] at this
        simp at this; exact this.2
      rw [e] at h3
      exact ⟨h1, by omega, h4, by rw [ldiff_full h]; exact h3⟩
  · rintro ⟨h1, h2, h3, h4⟩
    obtain ⟨l, b⟩ := s
    cases b
    · simp only [bank, Bool.false_eq_true, if_false] at h1 h3 h4 ⊢
      have e : ldiff (ldiff (full g.length) l) p = ldiff (full g.length) l := ldiff_disj fun i hi => by
        rw [testBit_ldiff, within_iff.1 h1 i hi]; simp
      rw [e]
      exact ⟨⟨⟨⟨by omega, h1⟩, by omega⟩, h3⟩, h4⟩
    · simp only [bank, if_true] at h1 h3 h4 ⊢
      have e : ldiff l p = l := ldiff_disj fun i hi => by
        have := within_iff.1 h1 i hi
        rw [testBit_ldiff] at this
        simp at this; exact this.2
      rw [e]
      rw [ldiff_full h] at h4
      exact ⟨⟨⟨⟨by omega, h1⟩, by omega⟩, h4⟩, h3⟩
theorem judge_path {g : List Nat} {seats : Nat} : ∀ (ps : List Nat) (s : St), Within s.1 (full g.length) → (judgeB g (seats : Int) s (ps.map fun (p : Nat) => (p : Int)) = true ↔ ∃ t, isPath g seats s ps t ∧ t.1 = 0)
  | [], s, _ => by
    simp only [List.map_nil, judgeB, beq_iff_eq, isPath]
    exact ⟨fun h => ⟨s, rfl, h⟩, fun ⟨t, e, h⟩ => by rw [e]; exact h⟩
  | p :: ps, s, hs => by
    simp only [List.map_cons, judgeB, Bool.and_eq_true, isPath, tripB_iff hs, Int.toNat_natCast]
    constructor
    · rintro ⟨h1, h2⟩
      obtain ⟨t, h3, h4⟩ := (judge_path ps (next s p) (next_within hs h1)).1 h2
      exact ⟨t, ⟨h1, h3⟩, h4⟩
    · rintro ⟨t, ⟨h1, h3⟩, h4⟩
      exact ⟨h1, (judge_path ps (next s p) (next_within hs h1)).2 ⟨t, h3, h4⟩⟩
theorem isPath_parity {g : List Nat} {seats : Nat} : ∀ (ps : List Nat) (s t : St), isPath g seats s ps t → t.2 = (s.2 != decide (ps.length % 2 = 1))
  | [], s, t, h => by cases h; simp
  | p :: ps, s, t, h => by
    have := isPath_parity ps _ _ h.2
    rw [this]
    simp only [next, List.length_cons]
    rcases (show ps.length % 2 = 0 ∨ ps.length % 2 = 1 by omega) with e | e
    · have e' : (ps.length + 1) % 2 = 1 := by omega
      simp only [e, e']; cases s.2 <;> rfl
    · have e' : (ps.length + 1) % 2 = 0 := by omega
      simp only [e, e']; cases s.2 <;> rfl
theorem path_judged {g : List Nat} {seats : Nat} {ps : List Nat} (h : isPath g seats (start g) ps goal) : judgeB g (seats : Int) (start g) (ps.map fun (p : Nat) => (p : Int)) = true ∧ ps.length % 2 = 1 := by
  refine ⟨(judge_path ps (start g) (within_refl _)).2 ⟨goal, h, rfl⟩, ?_⟩
  have := isPath_parity ps _ _ h
  simp [goal, start] at this
  exact this

/- structures -/
theorem jnFold_spec (g : List Nat) (x : Nat) : ∀ (l : List S20) (b : Nat), let r := l.foldl (jnStep g x) b; r = b ∨ (∃ s ∈ l, s.1 = r) ∧ quietB g (x ||| r) = true
  | [], b => .inl rfl
  | s :: l, b => by
    simp only [List.foldl_cons]
    have ih := jnFold_spec g x l (jnStep g x b s)
    simp only at ih
    rcases ih with e | ⟨⟨t, ht, e⟩, hq⟩
    · rw [e]
      unfold jnStep
      split
      · rename_i h; exact .inr ⟨⟨s, List.mem_cons_self, rfl⟩, h.2⟩
      · exact .inl rfl
    · exact .inr ⟨⟨t, List.mem_cons_of_mem _ ht, e⟩, hq⟩
theorem joinF_spec {g : List Nat} {x fr : Nat} (hfr : Sm fr) (h : joinF g x fr ≠ 0) : Within (joinF g x fr) fr ∧ quietB g (x ||| joinF g x fr) = true := by
  rcases jnFold_spec g x ((subs fr).map toS) 0 with e | ⟨⟨s, hs, e⟩, hq⟩
  · exact absurd e h
  · refine ⟨?_, hq⟩
    show Within (joinF g x fr) fr
    unfold joinF
    rw [← e]
    obtain ⟨t, ht, rfl⟩ := List.mem_map.1 hs
    have hw := mem_subs.1 ht
    rw [toS_val (Nat.lt_of_le_of_lt hw.le hfr)]
    exact hw
theorem structR_B {g : List Nat} {seats : Int} {x x1 x2 : Nat} (hl : g.length ≤ 10) (hx : Within x (full g.length)) (hs : (size (ldiff (full g.length) x) : Int) ≤ seats) (hq : quietB g x = true) (h1 : Within x1 x) (hj1 : joinF g x1 (ldiff (full g.length) x) ≠ 0) (h2 : Within x2 (ldiff x x1)) (h3 : Good3 g x x1 x2) :
    structB g seats x1 x2 (ldiff (ldiff x x1) x2) (joinF g x1 (ldiff (full g.length) x)) (joinF g x2 (ldiff (full g.length) x)) = true := by
  obtain ⟨_, hj2, hc⟩ := h3
  have hfs : Sm (ldiff (full g.length) x) := sm_ldiff _ (sm_full (by omega))
  obtain ⟨w1, q1⟩ := joinF_spec hfs hj1
  obtain ⟨w2, q2⟩ := joinF_spec hfs hj2
  have ex : x1 ||| x2 ||| ldiff (ldiff x x1) x2 = x := nat_ext fun i => by
    have a1 := within_iff.1 h1 i
    have a2 := within_iff.1 h2 i
    rw [testBit_ldiff] at a2
    simp only [Nat.testBit_or, testBit_ldiff]
    cases e1 : x.testBit i <;> cases e2 : x1.testBit i <;> cases e3 : x2.testBit i <;> simp_all
  have z12 : x1 &&& x2 = 0 := nat_ext fun i => by
    have a2 := within_iff.1 h2 i
    rw [testBit_ldiff] at a2
    rw [Nat.testBit_and, Nat.zero_testBit]
    cases e1 : x.testBit i <;> cases e2 : x1.testBit i <;> cases e3 : x2.testBit i <;> simp_all
  have z13 : x1 &&& ldiff (ldiff x x1) x2 = 0 := nat_ext fun i => by
    rw [Nat.testBit_and, Nat.zero_testBit, testBit_ldiff, testBit_ldiff]
    cases e1 : x.testBit i <;> cases e2 : x1.testBit i <;> cases e3 : x2.testBit i <;> rfl
  have z23 : x2 &&& ldiff (ldiff x x1) x2 = 0 := nat_ext fun i => by
    rw [Nat.testBit_and, Nat.zero_testBit, testBit_ldiff, testBit_ldiff]
    cases e1 : x.testBit i <;> cases e2 : x1.testBit i <;> cases e3 : x2.testBit i <;> rfl
  have zy : ldiff (joinF g x1 (ldiff (full g.length) x) ||| joinF g x2 (ldiff (full g.length) x)) (ldiff (full g.length) x) = 0 := ldiff_zero.2 (within_iff.2 fun i hi => by
    rw [Nat.testBit_or, Bool.or_eq_true] at hi
    rcases hi with hi | hi
    · exact within_iff.1 w1 i hi
    · exact within_iff.1 w2 i hi)
  unfold structB
  rw [ex, z12, z13, z23, hq, q1, q2, zy]
  simp only [Bool.and_eq_true, decide_eq_true_eq, bne_iff_ne, beq_iff_eq]
  exact ⟨rfl, trivial, hs, hj1, hj2, trivial, trivial, trivial, hc⟩

/- wolf, goat, cabbage -/
def wolfE : List (Int × Int) := [(0, 1), (1, 2)]
def wolfG : List Nat := [2, 5, 2]
theorem wolf_g : ofE 3 wolfE = wolfG := by decide +kernel
theorem wolf_ok : edgesB 3 wolfE = true := by decide +kernel
theorem wolf_cover : coverF wolfG = 2 := by decide +kernel
instance (g : List Nat) (seats : Nat) (s : St) (p : Nat) : Decidable (Legal g seats s p) := by unfold Legal; infer_instance
theorem wolf_path : isPath wolfG 1 (start wolfG) [2, 0, 1, 2, 4, 0, 2] goal :=
  ⟨by decide +kernel, by decide +kernel, by decide +kernel, by decide +kernel, by decide +kernel, by decide +kernel, by decide +kernel, rfl⟩
/-- how far a state is from the start -/
def wd (s : St) : Nat := ((if s.2 then [7, 3, 5, 100, 3, 1, 100, 2] else [100, 100, 6, 4, 100, 2, 4, 0])[s.1]?).getD 100
theorem wd_step : ∀ a < 8, ∀ b : Bool, ∀ p < 8, Legal wolfG 1 (a, b) p → wd (next (a, b) p) ≤ wd (a, b) + 1 := by decide +kernel
theorem wd_path : ∀ (ps : List Nat) (s t : St), Within s.1 7 → isPath wolfG 1 s ps t → wd t ≤ wd s + ps.length
  | [], s, t, _, h => by cases h; simp
  | p :: ps, s, t, hs, h => by
    have hn := next_within (g := wolfG) hs h.1
    have hb := (h.1.1.trans (bank_within (g := wolfG) hs)).le
    have := wd_path ps _ t hn h.2
    have h1 := wd_step s.1 (by have := hs.le; omega) s.2 p (Nat.lt_of_le_of_lt hb (by decide)) h.1
    simp only [List.length_cons]
    have e : (s.1, s.2) = s := rfl
    rw [e] at h1
    omega
theorem wolf_least (ps : List Nat) (h : isPath wolfG 1 (start wolfG) ps goal) : 7 ≤ ps.length := by
  have := wd_path ps _ _ (within_refl 7) h
  have e1 : wd goal = 7 := by decide
  have e2 : wd (start wolfG) = 0 := by decide
  omega
theorem wolf_struct : ∃ x, Within x (full wolfG.length) ∧ Good1 wolfG 1 x := by
  refine ⟨5, by decide +kernel, by decide +kernel, by decide +kernel, by decide +kernel, 0, by decide +kernel, by decide +kernel, 0, by decide +kernel, by decide +kernel, by decide +kernel, by decide +kernel⟩
end Go.Proofs.Ytfbobojpocnfeaa
