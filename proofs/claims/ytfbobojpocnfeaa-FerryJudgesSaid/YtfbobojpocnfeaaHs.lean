/- Plain text: the program finds a structure just where the reference does. -/
import Derived.Test.YtfbobojpocnfeaaCp
namespace Go.Proofs.Ytfbobojpocnfeaa
open Go.RowKit

/-- the neighbours of i -/
def nb (g : List Nat) (i : Nat) : Nat := g[i]?.getD 0
def Sym (g : List Nat) : Prop := ∀ i j, (nb g i).testBit j = (nb g j).testBit i
theorem testBit_pw (k i : Nat) : (pw k).testBit i = decide (k = i) := by unfold pw; rw [Nat.testBit_two_pow]
theorem addE_sym {g : List Nat} {x y : Nat} (h : Sym g) (hxy : x ≠ y) (hx : x < g.length) (hy : y < g.length) : Sym (addE g x y) := fun i j => by
  unfold nb
  rw [addE_at g x y i hxy hx hy, addE_at g x y j hxy hx hy]
  have hs := h i j
  unfold nb at hs
  have h1 := h x j
  have h2 := h y j
  have h3 := h x i
  have h4 := h y i
  have h5 := h x y
  unfold nb at h1 h2 h3 h4 h5
  by_cases a1 : i = x
  · subst a1
    by_cases b1 : j = i
    · subst b1; rfl
    · by_cases b2 : j = y
      · subst b2
        simp [hxy, Ne.symm hxy, Nat.testBit_or, testBit_pw, h5]
      · simp [b1, b2, Nat.testBit_or, testBit_pw, Ne.symm b2, h1]
  · by_cases a2 : i = y
    · subst a2
      by_cases b1 : j = x
      · subst b1
        simp [a1, Ne.symm a1, Nat.testBit_or, testBit_pw, h5]
      · by_cases b2 : j = i
        · subst b2; rfl
        · simp [a1, b1, b2, Nat.testBit_or, testBit_pw, Ne.symm b1, h2]
    · by_cases b1 : j = x
      · subst b1
        simp [a1, a2, Nat.testBit_or, testBit_pw, Ne.symm a2, hs]
      · by_cases b2 : j = y
        · subst b2
          simp [a1, a2, b1, Nat.testBit_or, testBit_pw, Ne.symm a1, hs]
        · simp [a1, a2, b1, b2, hs]
theorem foldE_sym : ∀ (ps : List (Int × Int)) (g : List Nat), (∀ e ∈ ps, 0 ≤ e.1 ∧ e.1 < e.2 ∧ e.2 < (g.length : Int)) → Sym g → Sym (ps.foldl (fun g e => addE g e.1.toNat e.2.toNat) g)
  | [], _, _, h => h
  | e :: ps, g, hp, h => by
    have he := hp e List.mem_cons_self
    exact foldE_sym ps (addE g e.1.toNat e.2.toNat) (fun e' he' => by rw [addE_length]; exact hp e' (List.mem_cons_of_mem _ he')) (addE_sym h (by omega) (by omega) (by omega))
theorem ofE_sym {n : Nat} {ps : List (Int × Int)} (h : edgesB n ps = true) : Sym (ofE n ps) :=
  foldE_sym ps _ (fun e he => by
    have hh : ∀ e ∈ ps, 0 ≤ e.1 ∧ e.1 < e.2 ∧ e.2 < (n : Int) := fun e he => by
      obtain ⟨k, hk⟩ := List.getElem?_of_mem he
      have := edgesB_at h k (List.getElem?_eq_some_iff.1 hk).1
      rw [hk] at this
      exact this
    simpa using hh e he) (fun i j => by simp [nb, List.getElem?_replicate]; split <;> split <;> simp)

/-- a set of the numbers below k -/
def mkS (p : Nat → Bool) : Nat → Nat
  | 0 => 0
  | k + 1 => mkS p k + if p k then 2 ^ k else 0
theorem mkS_lt (p : Nat → Bool) : ∀ k, mkS p k < 2 ^ k
  | 0 => by simp [mkS]
  | k + 1 => by
    have := mkS_lt p k
    have e : 2 ^ (k + 1) = 2 * 2 ^ k := by rw [Nat.pow_succ]; omega
    unfold mkS; split <;> omega
theorem testBit_mkS (p : Nat → Bool) : ∀ k i, (mkS p k).testBit i = (decide (i < k) && p i)
  | 0, i => by simp [mkS]
  | k + 1, i => by
    have hlt := mkS_lt p k
    unfold mkS
    split
    · rename_i hp
      rw [Nat.add_comm]
      by_cases e : i = k
      · subst e
        rw [Nat.testBit_two_pow_add_eq, Nat.testBit_lt_two_pow hlt]; simp [hp]
      · by_cases e2 : i < k
        · rw [Nat.testBit_two_pow_add_gt (by omega), testBit_mkS p k]; simp [e2]; intro _; omega
        · have h1 : 2 ^ k + mkS p k < 2 ^ i := by
            have e3 : 2 ^ (k + 1) ≤ 2 ^ i := Nat.pow_le_pow_right (by decide) (by omega)
            have e4 : 2 ^ (k + 1) = 2 * 2 ^ k := by rw [Nat.pow_succ]; omega
            omega
          rw [Nat.testBit_lt_two_pow h1]; simp; intro _; omega
    · rename_i hp
      rw [Nat.add_zero, testBit_mkS p k]
      by_cases e : i = k
      · subst e; simp [hp]
      · by_cases e2 : i < k
        · simp [e2]; intro _; omega
        · simp [e2]; intro _; omega
/-- quiet, neighbour by neighbour -/
theorem quietB_iff {g : List Nat} {s : Nat} : quietB g s = true ↔ ∀ i, i < g.length → s.testBit i = true → ∀ j, s.testBit j = true → (nb g i).testBit j = false := by
  unfold quietB
  rw [List.all_eq_true]
  constructor
  · intro h i hi hs j hj
    have := h i (List.mem_range.2 hi)
    simp [hs] at this
    have hz : ((nb g i) &&& s).testBit j = false := by unfold nb; rw [this]; simp
    rw [Nat.testBit_and, hj] at hz
    simpa using hz
  · intro h i hi
    rw [List.mem_range] at hi
    cases hs : s.testBit i
    · simp
    · have : (nb g i) &&& s = 0 := nat_ext fun j => by
        rw [Nat.testBit_and, Nat.zero_testBit]
        cases hj : s.testBit j
        · simp
        · rw [h i hi hs j hj]; rfl
      unfold nb at this
      simp [this]
theorem and_zero_iff {a b : Nat} : a &&& b = 0 ↔ ∀ j, b.testBit j = true → a.testBit j = false := by
  constructor
  · intro h j hj
    have : (a &&& b).testBit j = false := by rw [h]; simp
    rw [Nat.testBit_and, hj] at this
    simpa using this
  · intro h
    refine nat_ext fun j => ?_
    rw [Nat.testBit_and, Nat.zero_testBit]
    cases hj : b.testBit j
    · simp
    · rw [h j hj]; rfl
/-- who is in x and has neighbours in both -/
def thirdTo (g : List Nat) (x a b : Nat) : Nat → Nat
  | 0 => 0
  | k + 1 => thirdTo g x a b k + if x.testBit k && (nb g k &&& a != 0) && (nb g k &&& b != 0) then 1 else 0
def HS3 (g : List Nat) (y a b : Nat) : Prop := Within b y ∧ quietB g b = true ∧ thirdTo g (ldiff (full g.length) y) a b g.length ≤ size a + size b
def HS2 (g : List Nat) (y a : Nat) : Prop := Within a y ∧ quietB g a = true ∧ ∃ b, a ≤ b ∧ b ≤ full g.length ∧ HS3 g y a b
def HS1 (g : List Nat) (seats : Int) (y : Nat) : Prop := (size y : Int) ≤ seats ∧ quietB g (ldiff (full g.length) y) = true ∧ ∃ a, 1 ≤ a ∧ a ≤ full g.length ∧ HS2 g y a
def HasS (g : List Nat) (seats : Int) : Prop := ∃ y, 1 ≤ y ∧ y ≤ full g.length ∧ HS1 g seats y

theorem jnFold_max (g : List Nat) (x : Nat) : ∀ (l : List S20) (b : Nat), size b ≤ size (l.foldl (jnStep g x) b) ∧ ∀ s ∈ l, quietB g (x ||| s.1) = true → size s.1 ≤ size (l.foldl (jnStep g x) b)
  | [], b => ⟨Nat.le_refl _, fun s hs => by cases hs⟩
  | t :: l, b => by
    simp only [List.foldl_cons]
    obtain ⟨h1, h2⟩ := jnFold_max g x l (jnStep g x b t)
    have h3 : size b ≤ size (jnStep g x b t) ∧ (quietB g (x ||| t.1) = true → size t.1 ≤ size (jnStep g x b t)) := by
      unfold jnStep
      split
      · rename_i h; exact ⟨Nat.le_of_lt h.1, fun _ => Nat.le_refl _⟩
      · rename_i h; exact ⟨Nat.le_refl _, fun hq => Classical.byContradiction fun hc => h ⟨by omega, hq⟩⟩
    refine ⟨Nat.le_trans h3.1 h1, fun s hs hq => ?_⟩
    rcases List.mem_cons.1 hs with rfl | hs
    · exact Nat.le_trans (h3.2 hq) h1
    · exact h2 s hs hq
theorem joinF_max {g : List Nat} {x fr s : Nat} (hfr : Sm fr) (hs : Within s fr) (hq : quietB g (x ||| s) = true) : size s ≤ size (joinF g x fr) := by
  have hss : Sm s := Nat.lt_of_le_of_lt hs.le hfr
  have := (jnFold_max g x ((subs fr).map toS) 0).2 (toS s) (List.mem_map.2 ⟨s, mem_subs.2 hs, rfl⟩) (by rw [toS_val hss]; exact hq)
  rw [toS_val hss] at this
  exact this
theorem size_zero : size 0 = 0 := by decide
theorem size_pos {s : Nat} (hs : Sm s) (h : s ≠ 0) : 0 < size s := by
  have := size_within_lt (within_zero s) (Ne.symm h) hs
  rw [size_zero] at this; exact this
theorem thirdTo_le {g : List Nat} {x a b z : Nat} (h : ∀ i, i < g.length → x.testBit i = true → nb g i &&& a ≠ 0 → nb g i &&& b ≠ 0 → z.testBit i = true) : ∀ k, k ≤ g.length → thirdTo g x a b k ≤ szTo z k
  | 0, _ => Nat.le_refl _
  | k + 1, hk => by
    have ih := thirdTo_le h k (by omega)
    unfold thirdTo szTo
    split
    · rename_i hc
      simp only [Bool.and_eq_true, bne_iff_ne] at hc
      have := h k (by omega) hc.1.1 hc.1.2 hc.2
      unfold tb; rw [this]; simp; exact ih
    · omega
theorem szTo_le_third {g : List Nat} {x a b z : Nat} (h : ∀ i, i < g.length → z.testBit i = true → x.testBit i = true ∧ nb g i &&& a ≠ 0 ∧ nb g i &&& b ≠ 0) : ∀ k, k ≤ g.length → szTo z k ≤ thirdTo g x a b k
  | 0, _ => Nat.le_refl _
  | k + 1, hk => by
    have ih := szTo_le_third h k (by omega)
    unfold thirdTo szTo
    cases hz : z.testBit k
    · unfold tb; rw [hz]; simp; split <;> omega
    · obtain ⟨h1, h2, h3⟩ := h k (by omega) hz
      unfold tb; rw [hz, h1]; simp [h2, h3]; exact ih
theorem szTo_mono (s : Nat) : ∀ k j, szTo s k ≤ szTo s (k + j)
  | k, 0 => Nat.le_refl _
  | k, j + 1 => by
    have := szTo_mono s k j
    have e : szTo s (k + (j + 1)) = szTo s (k + j) + tb s (k + j) := rfl
    omega
theorem szTo_size (s k : Nat) (hk : k ≤ 64) : szTo s k ≤ size s := by
  have := szTo_mono s k (64 - k)
  rw [show k + (64 - k) = 64 by omega] at this
  exact this
theorem size_szTo {s k : Nat} (hk : k ≤ 20) (h : Within s (full k)) : size s = szTo s k := by
  refine (size_of_stop hk ?_).symm
  have : s < 2 ^ k := Nat.lt_of_le_of_lt h.le (full_lt_pw k)
  unfold shr
  exact Nat.div_eq_of_lt this
theorem third_comm (g : List Nat) (x a b : Nat) : ∀ k, thirdTo g x a b k = thirdTo g x b a k
  | 0 => rfl
  | k + 1 => by
    unfold thirdTo
    rw [third_comm g x a b k]
    congr 1
    rw [Bool.and_assoc, Bool.and_assoc, Bool.and_comm (nb g k &&& a != 0)]
theorem ldiff_within' (a b : Nat) : Within (ldiff a b) a := within_iff.2 fun i hi => by rw [testBit_ldiff] at hi; simp at hi; exact hi.1
theorem has_of_good {g : List Nat} {seats : Int} {x : Nat} (hl : g.length ≤ 10) (hx : Within x (full g.length)) (h : Good1 g seats x) : HasS g seats := by
  obtain ⟨hs, hy, hq, x1, hx1, hj1, x2, hx2, _, hj2, hc⟩ := h
  have hfs : Sm (full g.length) := sm_full (by omega)
  have hys : Sm (ldiff (full g.length) x) := sm_ldiff _ hfs
  obtain ⟨w1, q1⟩ := joinF_spec hys hj1
  obtain ⟨w2, q2⟩ := joinF_spec hys hj2
  have hyF : Within (ldiff (full g.length) x) (full g.length) := ldiff_within' _ _
  have hxx : ldiff (full g.length) (ldiff (full g.length) x) = x := ldiff_full hx
  generalize joinF g x1 (ldiff (full g.length) x) = y1 at *
  generalize joinF g x2 (ldiff (full g.length) x) = y2 at *
  have qsub : ∀ {s t : Nat}, quietB g t = true → Within s t → quietB g s = true := fun {s t} ht hst => quietB_iff.2 fun i hi hsi j hsj => quietB_iff.1 ht i hi (within_iff.1 hst i hsi) j (within_iff.1 hst j hsj)
  have or_l : ∀ a b : Nat, Within a (a ||| b) := fun a b => within_iff.2 fun i hi => by rw [Nat.testBit_or, hi]; rfl
  have or_r : ∀ a b : Nat, Within b (a ||| b) := fun a b => within_iff.2 fun i hi => by rw [Nat.testBit_or, hi]; simp
  have hth : thirdTo g x y1 y2 g.length ≤ size (ldiff (ldiff x x1) x2) := by
    refine Nat.le_trans (thirdTo_le (fun i hi hxi h1 h2 => ?_) g.length (Nat.le_refl _)) (szTo_size _ _ (by omega))
    rw [testBit_ldiff, testBit_ldiff, hxi]
    have n1 : x1.testBit i = false := by
      cases e : x1.testBit i with
      | false => rfl
      | true => exact absurd (and_zero_iff.2 fun j hj => quietB_iff.1 q1 i hi (within_iff.1 (or_l _ _) i e) j (within_iff.1 (or_r _ _) j hj)) h1
    have n2 : x2.testBit i = false := by
      cases e : x2.testBit i with
      | false => rfl
      | true => exact absurd (and_zero_iff.2 fun j hj => quietB_iff.1 q2 i hi (within_iff.1 (or_l _ _) i e) j (within_iff.1 (or_r _ _) j hj)) h2
    rw [n1, n2]; rfl
  refine ⟨ldiff (full g.length) x, Nat.pos_of_ne_zero hy, hyF.le, hs, by rw [hxx]; exact hq, ?_⟩
  rcases Nat.le_total y1 y2 with hle | hle
  · exact ⟨y1, Nat.pos_of_ne_zero hj1, (w1.trans hyF).le, w1, qsub q1 (or_r _ _), y2, hle, (w2.trans hyF).le, w2, qsub q2 (or_r _ _), by rw [hxx]; omega⟩
  · refine ⟨y2, Nat.pos_of_ne_zero hj2, (w2.trans hyF).le, w2, qsub q2 (or_r _ _), y1, hle, (w1.trans hyF).le, w1, qsub q1 (or_r _ _), ?_⟩
    rw [hxx, third_comm]; omega
theorem good_of_has {g : List Nat} {seats : Int} (hl : g.length ≤ 10) (hsy : Sym g) (h : HasS g seats) : ∃ x, Within x (full g.length) ∧ Good1 g seats x := by
  obtain ⟨y, hy1, hyF, hs, hq, a, ha1, haF, wa, qa, b, hab, hbF, wb, qb, hc⟩ := h
  have hfs : Sm (full g.length) := sm_full (by omega)
  have hyy : ldiff (full g.length) (ldiff (full g.length) y) = y := ldiff_full (within_full.2 hyF)
  have hys : Sm y := Nat.lt_of_le_of_lt hyF hfs
  have hxF : Within (ldiff (full g.length) y) (full g.length) := ldiff_within' _ _
  generalize hxe : ldiff (full g.length) y = x at *
  have bx : ∀ i, x.testBit i = true → i < g.length ∧ y.testBit i = false := fun i hi => by
    rw [← hxe, testBit_ldiff, testBit_full] at hi
    simpa using hi
  have by' : ∀ i, y.testBit i = true → i < g.length ∧ x.testBit i = false := fun i hi => by
    have h1 := within_iff.1 (within_full.2 hyF) i hi
    rw [testBit_full] at h1
    refine ⟨by simpa using h1, ?_⟩
    rw [← hxe, testBit_ldiff, hi]; simp
  -- the sets
  have part : ∀ (c : Nat), Within c y → quietB g c = true → ∀ X, (∀ i, X.testBit i = true → x.testBit i = true ∧ nb g i &&& c = 0) → quietB g (X ||| c) = true := fun c hcy hcq X hX => by
    refine quietB_iff.2 fun i hi hsi j hsj => ?_
    rw [Nat.testBit_or, Bool.or_eq_true] at hsi hsj
    rcases hsi with hsi | hsi
    · rcases hsj with hsj | hsj
      · exact quietB_iff.1 hq i hi (hX i hsi).1 j (hX j hsj).1
      · exact and_zero_iff.1 (hX i hsi).2 j hsj
    · rcases hsj with hsj | hsj
      · rw [hsy i j]; exact and_zero_iff.1 (hX j hsj).2 i hsi
      · exact quietB_iff.1 hcq i hi hsi j hsj
  obtain ⟨X1, hX1⟩ : ∃ X1 : Nat, ∀ i, X1.testBit i = (x.testBit i && (nb g i &&& a == 0)) := ⟨mkS (fun i => x.testBit i && (nb g i &&& a == 0)) g.length, fun i => by
    rw [testBit_mkS]
    cases e : x.testBit i
    · simp
    · rw [decide_eq_true (bx i e).1]; rfl⟩
  obtain ⟨X2, hX2⟩ : ∃ X2 : Nat, ∀ i, X2.testBit i = (x.testBit i && !(nb g i &&& a == 0) && (nb g i &&& b == 0)) := ⟨mkS (fun i => x.testBit i && !(nb g i &&& a == 0) && (nb g i &&& b == 0)) g.length, fun i => by
    rw [testBit_mkS]
    cases e : x.testBit i
    · simp
    · rw [decide_eq_true (bx i e).1]; rfl⟩
  have w1 : Within X1 x := within_iff.2 fun i hi => by rw [hX1] at hi; simp at hi; exact hi.1
  have w2 : Within X2 (ldiff x X1) := within_iff.2 fun i hi => by
    rw [hX2] at hi
    rw [testBit_ldiff, hX1]
    simp at hi ⊢
    exact ⟨hi.1.1, .inr hi.1.2⟩
  have p1 := part a wa qa X1 (fun i hi => by rw [hX1] at hi; simp at hi; exact hi)
  have p2 := part b wb qb X2 (fun i hi => by rw [hX2] at hi; simp at hi; exact ⟨hi.1.1, hi.2⟩)
  have j1 := joinF_max hys wa p1
  have j2 := joinF_max hys wb p2
  have sa := size_pos (Nat.lt_of_le_of_lt haF hfs) (show a ≠ 0 by omega)
  have sb := size_pos (Nat.lt_of_le_of_lt hbF hfs) (show b ≠ 0 by omega)
  have ha2 := size_within wa
  have hb2 := size_within wb
  have h3 : size (ldiff (ldiff x X1) X2) ≤ thirdTo g x a b g.length := by
    rw [size_szTo (k := g.length) (by omega) ((ldiff_within' _ _).trans ((ldiff_within' _ _).trans hxF))]
    refine szTo_le_third (fun i hi hz => ?_) g.length (Nat.le_refl _)
    rw [testBit_ldiff, testBit_ldiff, hX1, hX2] at hz
    cases e : x.testBit i <;> simp [e] at hz
    refine ⟨rfl, hz.1, fun hb0 => ?_⟩
    rcases hz.2 with h | h
    · exact hz.1 h
    · exact h hb0
  refine ⟨x, hxF, ?_⟩
  unfold Good1
  rw [hyy]
  refine ⟨hs, by omega, hq, X1, w1, ?_⟩
  unfold Good2 Good3
  rw [hyy]
  exact ⟨fun e => by rw [e, size_zero] at j1; omega, X2, w2, by omega, fun e => by rw [e, size_zero] at j2; omega, by omega⟩
end Go.Proofs.Ytfbobojpocnfeaa
