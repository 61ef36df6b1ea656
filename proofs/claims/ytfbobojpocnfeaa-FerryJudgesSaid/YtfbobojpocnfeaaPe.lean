/- Plain text: for how many seats there is a plan. -/
import Derived.Test.YtfbobojpocnfeaaHs
namespace Go.Proofs.Ytfbobojpocnfeaa
open Go.RowKit

theorem quiet_sub {g : List Nat} {s t : Nat} (ht : quietB g t = true) (hst : Within s t) : quietB g s = true := quietB_iff.2 fun i hi hsi j hsj => quietB_iff.1 ht i hi (within_iff.1 hst i hsi) j (within_iff.1 hst j hsj)
theorem size_bit {s i : Nat} (hs : Sm s) (hi : s.testBit i = true) : size s = size (ldiff s (pw i)) + 1 ∧ s = ldiff s (pw i) ||| pw i ∧ Within (pw i) s := by
  have hw : Within (pw i) s := within_iff.2 fun j hj => by
    rw [testBit_pw] at hj
    have : i = j := by simpa using hj
    rw [← this]; exact hi
  have e : s = ldiff s (pw i) ||| pw i := nat_ext fun j => by
    rw [Nat.testBit_or, testBit_ldiff, testBit_pw]
    by_cases h : i = j
    · subst h; simp [hi]
    · simp [h]
  refine ⟨?_, e, hw⟩
  have tbd : ∀ j, tb s j = tb (ldiff s (pw i)) j + if j = i then 1 else 0 := fun j => by
    unfold tb
    rw [testBit_ldiff, testBit_pw]
    by_cases h : j = i
    · subst h; simp [hi]
    · have h' : ¬ i = j := fun e => h e.symm
      simp [h, h']
  have hlt : i < 20 := Classical.byContradiction fun hc => by
    have h3 : s < 2 ^ i := Nat.lt_of_lt_of_le hs (show 2 ^ 20 ≤ 2 ^ i from Nat.pow_le_pow_right (by decide) (by omega))
    rw [Nat.testBit_lt_two_pow h3] at hi
    cases hi
  have main : ∀ k, szTo s k = szTo (ldiff s (pw i)) k + if i < k then 1 else 0 := fun k => by
    induction k with
    | zero => rfl
    | succ k ih =>
      simp only [szTo]
      rw [ih, tbd k]
      by_cases h1 : k = i
      · subst h1; simp; omega
      · by_cases h2 : i < k
        · simp [h1, h2, show i < k + 1 by omega]; omega
        · simp [h1, h2, show ¬ i < k + 1 by omega]
  have := main 64
  rw [if_pos (by omega)] at this
  exact this
theorem size_or_bit {c i : Nat} (hc : Sm c) (hi : i < 20) : size (c ||| pw i) ≤ size c + 1 := by
  have hs : Sm (c ||| pw i) := sm_or hc (sm_pw hi)
  have hb : (c ||| pw i).testBit i = true := by rw [Nat.testBit_or, testBit_pw]; simp
  have h1 := (size_bit hs hb).1
  have hw : Within (ldiff (c ||| pw i) (pw i)) c := within_iff.2 fun j hj => by
    rw [testBit_ldiff, Nat.testBit_or, testBit_pw] at hj
    by_cases e : i = j <;> simp_all
  have := size_within hw
  omega
/-- carry the cover, and one other passenger a trip -/
theorem carry {g : List Nat} {c seats : Nat} (hl : g.length ≤ 10) (hc : Within c (full g.length)) (hq : quietB g (ldiff (full g.length) c) = true) (hse : size c + 1 ≤ seats) : ∀ (k s : Nat), size s = k → s ≠ 0 → Within s (ldiff (full g.length) c) →
    ∃ ps, isPath g seats (c ||| s, false) ps goal ∧ ps.length + 1 = 2 * k
  | k, s, hk, h0, hs => by
    have hfs : Sm (full g.length) := sm_full (by omega)
    have hss : Sm s := Nat.lt_of_le_of_lt hs.le (sm_ldiff _ hfs)
    have hcs : Sm c := Nat.lt_of_le_of_lt hc.le hfs
    obtain ⟨i, hi⟩ : ∃ i, s.testBit i = true := Classical.byContradiction fun hn => h0 (nat_ext fun i => by
      rw [Nat.zero_testBit]
      cases e : s.testBit i with
      | false => rfl
      | true => exact absurd ⟨i, e⟩ hn)
    obtain ⟨z1, z2, z3⟩ := size_bit hss hi
    have bi := within_iff.1 hs i hi
    rw [testBit_ldiff, testBit_full] at bi
    have hin : i < g.length := by simp at bi; exact bi.1
    have hci : c.testBit i = false := by simp at bi; exact bi.2
    have sub : ∀ j, s.testBit j = true → j < g.length ∧ c.testBit j = false := fun j hj => by
      have := within_iff.1 hs j hj
      rw [testBit_ldiff, testBit_full] at this
      simpa using this
    have csub : ∀ j, c.testBit j = true → j < g.length := fun j hj => by
      have := within_iff.1 hc j hj
      rw [testBit_full] at this
      simpa using this
    -- the trip to the right
    have hL1 : Legal g seats (c ||| s, false) (c ||| pw i) := by
      refine ⟨within_iff.2 fun j hj => ?_, Nat.le_trans (size_or_bit hcs (by omega)) hse, ?_, ?_⟩
      · show (c ||| s).testBit j = true
        rw [Nat.testBit_or, testBit_pw] at hj
        rw [Nat.testBit_or]
        cases e1 : c.testBit j
        · have : i = j := by simpa [e1] using hj
          rw [← this, hi]; rfl
        · rfl
      · refine quiet_sub hq (within_iff.2 fun j hj => ?_)
        have hj' : (ldiff (c ||| s) (c ||| pw i)).testBit j = true := hj
        rw [testBit_ldiff, Nat.testBit_or, Nat.testBit_or] at hj'
        simp at hj'
        refine within_iff.1 hs j ?_
        rcases hj'.1 with h | h
        · rw [hj'.2.1] at h; cases h
        · exact h
      · refine quiet_sub hq (within_iff.2 fun j hj => ?_)
        have hj' : (ldiff (full g.length) (c ||| s)).testBit j = true := hj
        rw [testBit_ldiff, Nat.testBit_or] at hj'
        rw [testBit_ldiff]
        simp at hj' ⊢
        exact ⟨hj'.1, hj'.2.1⟩
    have hn1 : next (c ||| s, false) (c ||| pw i) = (ldiff s (pw i), true) := by
      unfold next
      refine Prod.ext (nat_ext fun j => ?_) rfl
      show ((c ||| s) ^^^ (c ||| pw i)).testBit j = _
      rw [Nat.testBit_xor, Nat.testBit_or, Nat.testBit_or, testBit_ldiff, testBit_pw]
      by_cases e : i = j
      · subst e; simp [hci, hi]
      · cases e1 : c.testBit j
        · simp [e]
        · have : s.testBit j = false := by
            cases e2 : s.testBit j with
            | false => rfl
            | true => have := (sub j e2).2; rw [e1] at this; cases this
          simp [this]
    by_cases hlast : ldiff s (pw i) = 0
    · refine ⟨[c ||| pw i], ⟨hL1, by rw [hn1, hlast]; rfl⟩, ?_⟩
      rw [hlast, size_zero] at z1
      simp; omega
    · have hwi : Within (ldiff s (pw i)) (ldiff (full g.length) c) := (ldiff_within' _ _).trans hs
      have hsz : size (ldiff s (pw i)) < k := by omega
      obtain ⟨ps, hp, hpl⟩ := carry hl hc hq hse (size (ldiff s (pw i))) (ldiff s (pw i)) rfl hlast hwi
      -- the trip back
      have hL2 : Legal g seats (ldiff s (pw i), true) c := by
        refine ⟨within_iff.2 fun j hj => ?_, by omega, ?_, ?_⟩
        · show (ldiff (full g.length) (ldiff s (pw i))).testBit j = true
          rw [testBit_ldiff, testBit_ldiff, testBit_full]
          have h1 := csub j hj
          have h2 : s.testBit j = false := by
            cases e2 : s.testBit j with
            | false => rfl
            | true => have := (sub j e2).2; rw [hj] at this; cases this
          simp [h1, h2]
        · refine quiet_sub hq (within_iff.2 fun j hj => ?_)
          have hj' : (ldiff (ldiff (full g.length) (ldiff s (pw i))) c).testBit j = true := hj
          rw [testBit_ldiff, testBit_ldiff] at hj'
          rw [testBit_ldiff]
          simp at hj' ⊢
          exact ⟨hj'.1.1, hj'.2⟩
        · show quietB g (ldiff (full g.length) (ldiff (full g.length) (ldiff s (pw i)))) = true
          rw [ldiff_full (hwi.trans (ldiff_within' _ _))]
          exact quiet_sub hq hwi
      have hn2 : next (ldiff s (pw i), true) c = (c ||| ldiff s (pw i), false) := by
        unfold next
        refine Prod.ext (nat_ext fun j => ?_) rfl
        show (ldiff s (pw i) ^^^ c).testBit j = _
        rw [Nat.testBit_xor, Nat.testBit_or]
        cases e1 : c.testBit j
        · simp
        · have : (ldiff s (pw i)).testBit j = false := by
            cases e2 : (ldiff s (pw i)).testBit j with
            | false => rfl
            | true =>
              rw [testBit_ldiff] at e2
              simp at e2
              have := (sub j e2.1).2; rw [e1] at this; cases this
          simp [this]
      refine ⟨(c ||| pw i) :: c :: ps, ⟨hL1, by rw [hn1]; exact ⟨hL2, by rw [hn2]; exact hp⟩⟩, ?_⟩
      simp; omega
termination_by k => k
/-- the facts on the cover -/
theorem cover_facts (g : List Nat) (hl : g.length ≤ 10) : coverF g ≤ full g.length ∧ quietB g (ldiff (full g.length) (coverF g)) = true ∧ ∀ s, s ≤ full g.length → quietB g (ldiff (full g.length) s) = true → size (coverF g) ≤ size s := by
  rw [cover_same g hl]
  obtain ⟨h1, h2⟩ := rcInv g hl (full g.length) (Nat.le_refl _)
  have e : rcF g = (List.range (full g.length)).foldl (rcStep g) (full g.length) := rfl
  rw [← e] at h1 h2
  have hle : rcF g ≤ full g.length := by
    rcases h1 with e | e
    · exact Nat.le_of_eq e
    · exact Nat.le_of_lt e.1
  refine ⟨hle, ?_, fun s hs hq => ?_⟩
  · rcases h1 with e | e
    · rw [e, ldiff_self]; exact quiet_zero g
    · exact e.2
  · by_cases hsf : s = full g.length
    · subst hsf; exact size_within (within_full.2 hle)
    · rcases h2 s (by omega) hq with h | h
      · omega
      · omega
theorem no_plan {g : List Nat} {seats : Nat} (hl : g.length ≤ 10) (h : seats < size (coverF g)) (ps : List Nat) : ¬ isPath g seats (start g) ps goal := by
  intro hp
  cases ps with
  | nil => exact start_ne g hp
  | cons p ps =>
    obtain ⟨h1, h2, h3, _⟩ := hp.1
    have hw : Within p (full g.length) := h1
    have := (cover_facts g hl).2.2 p hw.le h3
    omega
/-- nobody is his own neighbour -/
def Irr (g : List Nat) : Prop := ∀ i, (nb g i).testBit i = false
theorem addE_irr {g : List Nat} {x y : Nat} (h : Irr g) (hxy : x ≠ y) (hx : x < g.length) (hy : y < g.length) : Irr (addE g x y) := fun i => by
  unfold nb
  rw [addE_at g x y i hxy hx hy]
  have h1 := h i
  unfold nb at h1
  by_cases a1 : i = x
  · subst a1; simp [Nat.testBit_or, testBit_pw, h1, Ne.symm hxy]
  · by_cases a2 : i = y
    · subst a2; simp [a1, Nat.testBit_or, testBit_pw, h1, hxy]
    · simp [a1, a2, h1]
theorem foldE_irr : ∀ (ps : List (Int × Int)) (g : List Nat), (∀ e ∈ ps, 0 ≤ e.1 ∧ e.1 < e.2 ∧ e.2 < (g.length : Int)) → Irr g → Irr (ps.foldl (fun g e => addE g e.1.toNat e.2.toNat) g)
  | [], _, _, h => h
  | e :: ps, g, hp, h => by
    have he := hp e List.mem_cons_self
    exact foldE_irr ps (addE g e.1.toNat e.2.toNat) (fun e' he' => by rw [addE_length]; exact hp e' (List.mem_cons_of_mem _ he')) (addE_irr h (by omega) (by omega) (by omega))
theorem ofE_irr {n : Nat} {ps : List (Int × Int)} (h : edgesB n ps = true) : Irr (ofE n ps) :=
  foldE_irr ps _ (fun e he => by
    have hh : ∀ e ∈ ps, 0 ≤ e.1 ∧ e.1 < e.2 ∧ e.2 < (n : Int) := fun e he => by
      obtain ⟨k, hk⟩ := List.getElem?_of_mem he
      have := edgesB_at h k (List.getElem?_eq_some_iff.1 hk).1
      rw [hk] at this
      exact this
    simpa using hh e he) (fun i => by simp [nb, List.getElem?_replicate]; split <;> simp)
theorem cover_small {g : List Nat} (hl : g.length ≤ 10) (h1 : 1 ≤ g.length) (hi : Irr g) : size (coverF g) < size (full g.length) := by
  have hfs : Sm (full g.length) := sm_full (by omega)
  have hb : (full g.length).testBit 0 = true := by rw [testBit_full]; exact decide_eq_true (by omega)
  obtain ⟨z1, _, z3⟩ := size_bit hfs hb
  have hq : quietB g (ldiff (full g.length) (ldiff (full g.length) (pw 0))) = true := by
    rw [ldiff_full z3]
    refine quietB_iff.2 fun i _ hs j hsj => ?_
    rw [testBit_pw] at hs hsj
    have e1 : 0 = i := by simpa using hs
    have e2 : 0 = j := by simpa using hsj
    subst e1; subst e2
    exact hi 0
  have := (cover_facts g hl).2.2 _ (ldiff_le _ _) hq
  omega
theorem size_full : ∀ n ≤ 10, size (full n) = n := by decide +kernel
/-- the least number of seats -/
theorem least_seats {g : List Nat} (hl : g.length ≤ 10) (h1 : 1 ≤ g.length) (hi : Irr g) : ∃ m, 1 ≤ m ∧ size (coverF g) ≤ m ∧ m ≤ 10 ∧ m ≤ size (coverF g) + 1 ∧ (∃ qs, isPath g m (start g) qs goal) ∧ ∀ s, 1 ≤ s → s < m → ∀ qs, ¬ isPath g s (start g) qs goal := by
  have hfs : Sm (full g.length) := sm_full (by omega)
  have hsm := cover_small hl h1 hi
  have hsf := size_full g.length hl
  obtain ⟨c1, c2, _⟩ := cover_facts g hl
  have hcw := within_full.2 c1
  have hne : ldiff (full g.length) (coverF g) ≠ 0 := fun h => by
    have := size_within (ldiff_zero.1 h)
    omega
  obtain ⟨ps, hp, _⟩ := carry hl hcw c2 (Nat.le_refl _) _ _ rfl hne (within_refl _)
  have hst : ((coverF g ||| ldiff (full g.length) (coverF g), false) : St) = start g := by
    unfold start
    refine Prod.ext (nat_ext fun j => ?_) rfl
    have := within_iff.1 hcw j
    rw [Nat.testBit_or, testBit_ldiff]
    cases e1 : (coverF g).testBit j <;> cases e2 : (full g.length).testBit j <;> simp_all
  rw [hst] at hp
  by_cases h0 : 1 ≤ size (coverF g) ∧ ∃ qs, isPath g (size (coverF g)) (start g) qs goal
  · exact ⟨size (coverF g), h0.1, Nat.le_refl _, by omega, by omega, h0.2, fun s _ hs => no_plan hl hs⟩
  · refine ⟨size (coverF g) + 1, by omega, by omega, by omega, Nat.le_refl _, ⟨ps, hp⟩, fun s hs1 hs qs hq => ?_⟩
    by_cases e : s = size (coverF g)
    · subst e; exact h0 ⟨hs1, qs, hq⟩
    · exact no_plan hl (by omega) qs hq
theorem isPath_more {g : List Nat} {a b : Nat} (h : a ≤ b) : ∀ (ps : List Nat) (s t : St), isPath g a s ps t → isPath g b s ps t
  | [], _, _, hp => hp
  | p :: ps, s, t, hp => ⟨⟨hp.1.1, Nat.le_trans hp.1.2.1 h, hp.1.2.2⟩, isPath_more h ps _ _ hp.2⟩
end Go.Proofs.Ytfbobojpocnfeaa
