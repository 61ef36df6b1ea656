/- Plain text: there is a plan just if there is a structure, and then one with at most 2 n + 1 trips. -/
import Derived.Test.YtfbobojpocnfeaaPe
namespace Go.Proofs.Ytfbobojpocnfeaa
open Go.RowKit

theorem szTo_add {a b : Nat} (h : ∀ i, a.testBit i = true → b.testBit i = false) : ∀ k, szTo (a ||| b) k = szTo a k + szTo b k
  | 0 => rfl
  | k + 1 => by
    simp only [szTo]
    rw [szTo_add h k]
    have : tb (a ||| b) k = tb a k + tb b k := by
      unfold tb
      rw [Nat.testBit_or]
      have := h k
      cases e1 : a.testBit k <;> cases e2 : b.testBit k <;> simp_all
    omega
theorem size_add {a b : Nat} (h : ∀ i, a.testBit i = true → b.testBit i = false) : size (a ||| b) = size a + size b := szTo_add h 64
theorem within_or_l (a b : Nat) : Within a (a ||| b) := within_iff.2 fun i hi => by rw [Nat.testBit_or, hi]; rfl
theorem within_or_r (a b : Nat) : Within b (a ||| b) := within_iff.2 fun i hi => by rw [Nat.testBit_or, hi]; simp
theorem size_or_le (a b : Nat) : size (a ||| b) ≤ size a + size b := by
  have e : a ||| b = ldiff a b ||| b := nat_ext fun i => by
    rw [Nat.testBit_or, Nat.testBit_or, testBit_ldiff]
    cases a.testBit i <;> cases b.testBit i <;> rfl
  rw [e, size_add (fun i hi => by rw [testBit_ldiff] at hi; simp at hi; exact hi.2)]
  have := size_within (ldiff_within' a b)
  omega
theorem size_sub {a b : Nat} (h : Within b a) : size a = size b + size (ldiff a b) := by
  have e : a = b ||| ldiff a b := nat_ext fun i => by
    have := within_iff.1 h i
    rw [Nat.testBit_or, testBit_ldiff]
    cases e1 : a.testBit i <;> cases e2 : b.testBit i <;> simp_all
  have := size_add (a := b) (b := ldiff a b) (fun i hi => by rw [testBit_ldiff, hi]; simp)
  rw [← e] at this
  exact this
/-- who has a neighbour in a -/
def nbs (g : List Nat) (a : Nat) : Nat := mkS (fun i => nb g i &&& a != 0) g.length
theorem testBit_nbs {g : List Nat} {a i : Nat} : (nbs g a).testBit i = true ↔ i < g.length ∧ nb g i &&& a ≠ 0 := by
  unfold nbs
  rw [testBit_mkS]
  simp
theorem not_nbs {g : List Nat} {a i : Nat} (hi : i < g.length) : (nbs g a).testBit i = false ↔ nb g i &&& a = 0 := by
  cases e : (nbs g a).testBit i with
  | false =>
    simp
    apply Classical.byContradiction
    intro hc
    rw [testBit_nbs.2 ⟨hi, hc⟩] at e; cases e
  | true =>
    simp
    exact (testBit_nbs.1 e).2
theorem hasS_of {g : List Nat} {seats : Int} {y a b z : Nat} (hl : g.length ≤ 10) (hy : Within y (full g.length)) (hs : (size y : Int) ≤ seats) (hq : quietB g (ldiff (full g.length) y) = true) (ha : a ≠ 0) (hay : Within a y) (hqa : quietB g a = true)
    (hb : b ≠ 0) (hby : Within b y) (hqb : quietB g b = true) (hz : ∀ i, i < g.length → y.testBit i = false → nb g i &&& a ≠ 0 → nb g i &&& b ≠ 0 → z.testBit i = true) (hzs : size z ≤ size a + size b) : HasS g seats := by
  have hy0 : y ≠ 0 := fun e => by
    subst e
    refine ha (nat_ext fun i => ?_)
    rw [Nat.zero_testBit]
    cases h : a.testBit i with
    | false => rfl
    | true => have := within_iff.1 hay i h; rw [Nat.zero_testBit] at this; cases this
  have hth : thirdTo g (ldiff (full g.length) y) a b g.length ≤ size a + size b := by
    refine Nat.le_trans (Nat.le_trans (thirdTo_le (z := z) (fun i hi hxi h1 h2 => hz i hi ?_ h1 h2) g.length (Nat.le_refl _)) (szTo_size _ _ (by omega))) hzs
    rw [testBit_ldiff] at hxi
    simp at hxi
    exact hxi.2
  refine ⟨y, Nat.pos_of_ne_zero hy0, hy.le, hs, hq, ?_⟩
  rcases Nat.le_total a b with hle | hle
  · exact ⟨a, Nat.pos_of_ne_zero ha, (hay.trans hy).le, hay, hqa, b, hle, (hby.trans hy).le, hby, hqb, hth⟩
  · refine ⟨b, Nat.pos_of_ne_zero hb, (hby.trans hy).le, hby, hqb, a, hle, (hay.trans hy).le, hay, hqa, ?_⟩
    rw [third_comm]; omega
/-- S can be carried with some a of the cover y that stays -/
def Can (g : List Nat) (y S : Nat) : Prop := ∃ a, a ≠ 0 ∧ Within a y ∧ quietB g a = true ∧ size (S &&& nbs g a) ≤ size a
theorem Can.sub {g : List Nat} {y S T : Nat} (h : Can g y S) (hT : Within T S) : Can g y T := by
  obtain ⟨a, h1, h2, h3, h4⟩ := h
  refine ⟨a, h1, h2, h3, Nat.le_trans (size_within (within_iff.2 fun i hi => ?_)) h4⟩
  rw [Nat.testBit_and] at hi ⊢
  simp at hi ⊢
  exact ⟨within_iff.1 hT i hi.1, hi.2⟩
theorem hasS_of_can {g : List Nat} {seats : Int} {y S T : Nat} (hl : g.length ≤ 10) (hy : Within y (full g.length)) (hs : (size y : Int) ≤ seats) (hq : quietB g (ldiff (full g.length) y) = true) (hS : Can g y S) (hT : Can g y T) (hST : ∀ i, i < g.length → y.testBit i = false → S.testBit i = true ∨ T.testBit i = true) : HasS g seats := by
  obtain ⟨a, a1, a2, a3, a4⟩ := hS
  obtain ⟨b, b1, b2, b3, b4⟩ := hT
  refine hasS_of (z := (S &&& nbs g a) ||| (T &&& nbs g b)) hl hy hs hq a1 a2 a3 b1 b2 b3 (fun i hi hyi h1 h2 => ?_) (Nat.le_trans (size_or_le _ _) (by omega))
  rw [Nat.testBit_or, Nat.testBit_and, Nat.testBit_and, testBit_nbs.2 ⟨hi, h1⟩, testBit_nbs.2 ⟨hi, h2⟩]
  rcases hST i hi hyi with h | h <;> simp [h]
theorem within_lt {g : List Nat} {s i : Nat} (h : Within s (full g.length)) (hi : s.testBit i = true) : i < g.length := by
  have := within_iff.1 h i hi
  rw [testBit_full] at this
  simpa using this
theorem ne_zero_bit {s : Nat} (h : s ≠ 0) : ∃ i, s.testBit i = true := Classical.byContradiction fun hn => h (nat_ext fun i => by
  rw [Nat.zero_testBit]
  cases e : s.testBit i with
  | false => rfl
  | true => exact absurd ⟨i, e⟩ hn)
theorem quiet_one {g : List Nat} (hi : Irr g) (k : Nat) : quietB g (pw k) = true := quietB_iff.2 fun i _ hs j hj => by
  rw [testBit_pw] at hs hj
  have e1 : k = i := by simpa using hs
  have e2 : k = j := by simpa using hj
  subst e1; subst e2
  exact hi k
theorem pw_ne (k : Nat) : pw k ≠ 0 := by unfold pw; exact Nat.ne_of_gt (Nat.two_pow_pos k)
theorem pw_within {s k : Nat} (h : s.testBit k = true) : Within (pw k) s := within_iff.2 fun j hj => by
  rw [testBit_pw] at hj
  have : k = j := by simpa using hj
  rw [← this]; exact h
/-- the empty set can be carried -/
theorem can_zero {g : List Nat} {y S : Nat} (hi : Irr g) (hy : y ≠ 0) (hS : ∀ i, i < g.length → S.testBit i = false) : Can g y S := by
  obtain ⟨k, hk⟩ := ne_zero_bit hy
  refine ⟨pw k, pw_ne k, pw_within hk, quiet_one hi k, ?_⟩
  have : S &&& nbs g (pw k) = 0 := nat_ext fun i => by
    rw [Nat.testBit_and, Nat.zero_testBit]
    cases e : (nbs g (pw k)).testBit i with
    | false => simp
    | true => rw [hS i (testBit_nbs.1 e).1]; rfl
  rw [this, size_zero]; omega
theorem quiet_no {g : List Nat} {s a : Nat} (hs : quietB g s = true) {i : Nat} (hin : i < g.length) (hi : s.testBit i = true) (ha : Within a s) : nb g i &&& a = 0 := and_zero_iff.2 fun j hj => quietB_iff.1 hs i hin hi j (within_iff.1 ha j hj)

/-- one trip keeps that what stays on the left, without the cover, cannot be carried -/
theorem trip_keeps {g : List Nat} {seats y : Nat} (hl : g.length ≤ 10) (hy : Within y (full g.length)) (hs : size y = seats) (hq : quietB g (ldiff (full g.length) y) = true) (hno : ¬ HasS g seats) {s : St} {p : Nat} (hw : Within s.1 (full g.length)) (hL : Legal g seats s p) (hc : ¬ Can g y (ldiff s.1 y)) : ¬ Can g y (ldiff (next s p).1 y) := by
  have hfs : Sm (full g.length) := sm_full (by omega)
  have hys : Sm y := Nat.lt_of_le_of_lt hy.le hfs
  obtain ⟨h1, h2, h3, h4⟩ := hL
  have hs2 : ((size y : Nat) : Int) ≤ (seats : Int) := by omega
  -- who stays left and right while the boat goes
  obtain ⟨l, r, hlr⟩ : ∃ l r : Nat, ∀ i, (l.testBit i = (s.1.testBit i && !p.testBit i)) ∧ (r.testBit i = (decide (i < g.length) && !s.1.testBit i && !p.testBit i)) :=
    ⟨ldiff s.1 p, ldiff (ldiff (full g.length) s.1) p, fun i => ⟨testBit_ldiff _ _ _, by rw [testBit_ldiff, testBit_ldiff, testBit_full]⟩⟩
  have hpn : ∀ i, p.testBit i = true → i < g.length := fun i hi => within_lt (h1.trans (bank_within hw)) hi
  have hsn : ∀ i, s.1.testBit i = true → i < g.length := fun i hi => within_lt hw hi
  have hyn : ∀ i, y.testBit i = true → i < g.length := fun i hi => within_lt hy hi
  have hql : quietB g l = true ∧ quietB g r = true ∧ (∀ i, p.testBit i = true → s.1.testBit i = !s.2) := by
    obtain ⟨sa, sb⟩ := s
    cases sb
    · have e1 : l = ldiff (bank g (sa, false)) p := nat_ext fun i => by rw [(hlr i).1, testBit_ldiff]; rfl
      have e2 : r = ldiff (full g.length) (bank g (sa, false)) := nat_ext fun i => by
        have := within_iff.1 h1 i
        rw [(hlr i).2, testBit_ldiff, testBit_full]
        show _ = (decide (i < g.length) && !sa.testBit i)
        have hh : p.testBit i = true → sa.testBit i = true := this
        cases e1 : p.testBit i <;> cases e2 : sa.testBit i <;> simp_all
      exact ⟨by rw [e1]; exact h3, by rw [e2]; exact h4, fun i hi => within_iff.1 h1 i hi⟩
    · have hh : ∀ i, p.testBit i = true → sa.testBit i = false := fun i hi => by
        have := within_iff.1 h1 i hi
        have h' : (ldiff (full g.length) sa).testBit i = true := this
        rw [testBit_ldiff] at h'
        simp at h'; exact h'.2
      have e1 : l = ldiff (full g.length) (bank g (sa, true)) := nat_ext fun i => by
        rw [(hlr i).1]
        show _ = (ldiff (full g.length) (ldiff (full g.length) sa)).testBit i
        rw [testBit_ldiff, testBit_ldiff, testBit_full]
        have := hh i
        have := hsn i
        cases e1 : p.testBit i <;> cases e2 : sa.testBit i <;> simp_all
      have e2 : r = ldiff (bank g (sa, true)) p := nat_ext fun i => by
        rw [(hlr i).2, testBit_ldiff]
        show _ = ((ldiff (full g.length) sa).testBit i && _)
        rw [testBit_ldiff, testBit_full]
      exact ⟨by rw [e1]; exact h4, by rw [e2]; exact h3, hh⟩
  obtain ⟨hql, hqr, hps⟩ := hql
  have hnx : ∀ i, (next s p).1.testBit i = (s.1.testBit i ^^ p.testBit i) := fun i => by
    show (s.1 ^^^ p).testBit i = _
    rw [Nat.testBit_xor]
  -- the boat's others are at most the cover's on the banks
  have hcount : size (ldiff p y) ≤ size (y &&& l) + size (y &&& r) := by
    have hin : Within (p &&& y) p := within_iff.2 fun i hi => by rw [Nat.testBit_and] at hi; simp at hi; exact hi.1
    have e1 := size_sub hin
    have e2 : ldiff p (p &&& y) = ldiff p y := nat_ext fun i => by
      rw [testBit_ldiff, testBit_ldiff, Nat.testBit_and]
      cases p.testBit i <;> cases y.testBit i <;> rfl
    rw [e2] at e1
    have hin2 : Within (p &&& y) y := within_iff.2 fun i hi => by rw [Nat.testBit_and] at hi; simp at hi; exact hi.2
    have e3 := size_sub hin2
    have e4 : ldiff y (p &&& y) = (y &&& l) ||| (y &&& r) := nat_ext fun i => by
      rw [testBit_ldiff, Nat.testBit_or, Nat.testBit_and, Nat.testBit_and, Nat.testBit_and, (hlr i).1, (hlr i).2]
      have := hyn i
      cases e1 : y.testBit i <;> cases e2 : p.testBit i <;> cases e3 : s.1.testBit i <;> simp_all
    have e5 := size_or_le (y &&& l) (y &&& r)
    rw [e4] at e3
    omega
  have yl : Within (y &&& l) y := within_iff.2 fun i hi => by rw [Nat.testBit_and] at hi; simp at hi; exact hi.1
  have yr : Within (y &&& r) y := within_iff.2 fun i hi => by rw [Nat.testBit_and] at hi; simp at hi; exact hi.1
  have ll : Within (y &&& l) l := within_iff.2 fun i hi => by rw [Nat.testBit_and] at hi; simp at hi; exact hi.2
  have rr : Within (y &&& r) r := within_iff.2 fun i hi => by rw [Nat.testBit_and] at hi; simp at hi; exact hi.2
  by_cases hyl : y &&& l = 0
  · by_cases hyr : y &&& r = 0
    · -- all of the cover is in the boat: nobody else moves
      rw [hyl, hyr, size_zero] at hcount
      have hp0 : ldiff p y = 0 := by
        apply Classical.byContradiction
        intro hc
        have := size_pos (Nat.lt_of_le_of_lt ((ldiff_within' p y).trans (h1.trans (bank_within hw))).le hfs) hc
        omega
      have e : ldiff (next s p).1 y = ldiff s.1 y := nat_ext fun i => by
        rw [testBit_ldiff, testBit_ldiff, hnx]
        have : (ldiff p y).testBit i = false := by rw [hp0, Nat.zero_testBit]
        rw [testBit_ldiff] at this
        cases e1 : y.testBit i <;> cases e2 : p.testBit i <;> cases e3 : s.1.testBit i <;> simp_all
      rw [e]; exact hc
    · -- some of the cover stay right: what comes to be right can be carried
      intro hcan
      refine hno (hasS_of_can hl hy hs2 hq hcan (T := ldiff p y ||| ldiff r y) ⟨y &&& r, hyr, yr, quiet_sub hqr rr, ?_⟩ fun i hi hyi => ?_)
      · rw [hyl, size_zero] at hcount
        refine Nat.le_trans (size_within (within_iff.2 fun i hi => ?_)) (Nat.le_trans hcount (by omega))
        rw [Nat.testBit_and, Bool.and_eq_true, Nat.testBit_or, Bool.or_eq_true] at hi
        rcases hi.1 with h | h
        · exact h
        · exfalso
          have hr : r.testBit i = true := within_iff.1 (ldiff_within' r y) i h
          obtain ⟨hin, hne⟩ := testBit_nbs.1 hi.2
          exact hne (quiet_no hqr hin hr rr)
      · rw [testBit_ldiff, hnx, Nat.testBit_or, testBit_ldiff, testBit_ldiff, (hlr i).2]
        cases e2 : p.testBit i <;> cases e3 : s.1.testBit i <;> simp_all
  · by_cases hyr : y &&& r = 0
    · -- some of the cover stay left: what was left could be carried
      exfalso
      refine hc ⟨y &&& l, hyl, yl, quiet_sub hql ll, ?_⟩
      rw [hyr, size_zero] at hcount
      refine Nat.le_trans (size_within (within_iff.2 fun i hi => ?_)) (Nat.le_trans hcount (by omega))
      rw [Nat.testBit_and, Bool.and_eq_true, testBit_ldiff] at hi
      rw [testBit_ldiff]
      cases e2 : p.testBit i with
      | true => simp at hi ⊢; exact hi.1.2
      | false =>
        exfalso
        have hsi : s.1.testBit i = true := by have := hi.1; simp at this; exact this.1
        have hli : l.testBit i = true := by rw [(hlr i).1, hsi, e2]; rfl
        obtain ⟨hin, hne⟩ := testBit_nbs.1 hi.2
        exact hne (quiet_no hql hin hli ll)
    · exfalso
      refine hno (hasS_of (z := ldiff p y) hl hy hs2 hq hyl yl (quiet_sub hql ll) hyr yr (quiet_sub hqr rr) (fun i hi hyi n1 n2 => ?_) hcount)
      rw [testBit_ldiff, hyi]
      cases e2 : p.testBit i with
      | true => rfl
      | false =>
        exfalso
        cases e3 : s.1.testBit i with
        | true => exact n1 (quiet_no hql hi (by rw [(hlr i).1, e3, e2]; rfl) ll)
        | false => exact n2 (quiet_no hqr hi (by rw [(hlr i).2, e3, e2]; simp [hi]) rr)
theorem path_keeps {g : List Nat} {seats y : Nat} (hl : g.length ≤ 10) (hy : Within y (full g.length)) (hs : size y = seats) (hq : quietB g (ldiff (full g.length) y) = true) (hno : ¬ HasS g seats) : ∀ (ps : List Nat) (s t : St), Within s.1 (full g.length) → isPath g seats s ps t → ¬ Can g y (ldiff s.1 y) → ¬ Can g y (ldiff t.1 y)
  | [], s, t, _, h, hc => by cases h; exact hc
  | p :: ps, s, t, hw, h, hc => path_keeps hl hy hs hq hno ps _ t (next_within hw h.1) h.2 (trip_keeps hl hy hs hq hno hw h.1 hc)
/-- a plan needs a structure -/
theorem struct_of_plan {g : List Nat} {seats : Nat} (hl : g.length ≤ 10) (hg : 1 ≤ g.length) (hi : Irr g) (h1 : 1 ≤ seats) {ps : List Nat} (h : isPath g seats (start g) ps goal) : HasS g seats := by
  have hfs : Sm (full g.length) := sm_full (by omega)
  apply Classical.byContradiction
  intro hno
  cases ps with
  | nil => exact start_ne g h
  | cons p ps =>
    obtain ⟨q1, q2, q3, _⟩ := h.1
    have hw : Within p (full g.length) := q1
    have hq : quietB g (ldiff (full g.length) p) = true := q3
    by_cases he : size p = seats
    · have hp0 : p ≠ 0 := fun e => by rw [e, size_zero] at he; omega
      have hp := path_keeps hl hw he hq hno (p :: ps) (start g) goal (within_refl _) h (fun hcan => hno (hasS_of_can hl hw (by omega) hq hcan (T := 0) (can_zero hi hp0 (fun i _ => Nat.zero_testBit i)) (fun i hi hyi => .inl (by
        show (ldiff (full g.length) p).testBit i = true
        rw [testBit_ldiff, testBit_full, hyi]; simp [hi]))))
      refine hp (can_zero hi hp0 fun i _ => ?_)
      show (ldiff 0 p).testBit i = false
      rw [testBit_ldiff, Nat.zero_testBit]; rfl
    · -- a smaller cover, and one more
      have hlt : size p < seats := by omega
      obtain ⟨y, k, hy, hys, hyk, hyq, hk⟩ : ∃ y k : Nat, Within y (full g.length) ∧ size y ≤ seats ∧ y.testBit k = true ∧ quietB g (ldiff (full g.length) y) = true ∧ (∀ i, i < g.length → y.testBit i = false → nb g i &&& pw k = 0) := by
        by_cases hX : ldiff (full g.length) p = 0
        · have hpf : full g.length = p := Nat.le_antisymm (ldiff_zero.1 hX).le hw.le
          refine ⟨p, 0, hw, by omega, by rw [← hpf, testBit_full]; exact decide_eq_true (by omega), hq, fun i hi hyi => ?_⟩
          rw [← hpf, testBit_full, decide_eq_true hi] at hyi; cases hyi
        · obtain ⟨k, hk⟩ := ne_zero_bit hX
          have hkn : k < g.length := within_lt (ldiff_within' _ _) hk
          have hsub : Within (ldiff (full g.length) (p ||| pw k)) (ldiff (full g.length) p) := within_iff.2 fun i hi => by
            rw [testBit_ldiff, Nat.testBit_or] at hi
            rw [testBit_ldiff]
            simp at hi ⊢
            exact ⟨hi.1, hi.2.1⟩
          refine ⟨p ||| pw k, k, within_iff.2 fun i hi => ?_, ?_, ?_, quiet_sub hq hsub, fun i hi hyi => ?_⟩
          · rw [Nat.testBit_or, Bool.or_eq_true] at hi
            rcases hi with h | h
            · exact within_iff.1 hw i h
            · rw [testBit_pw] at h
              have : k = i := by simpa using h
              rw [testBit_full]; exact decide_eq_true (by omega)
          · have := size_or_bit (c := p) (i := k) (Nat.lt_of_le_of_lt hw.le hfs) (by omega)
            omega
          · rw [Nat.testBit_or, testBit_pw]; simp
          · refine and_zero_iff.2 fun j hj => ?_
            rw [testBit_pw] at hj
            have e2 : k = j := by simpa using hj
            subst e2
            refine quietB_iff.1 hq i hi ?_ k hk
            rw [Nat.testBit_or] at hyi
            rw [testBit_ldiff, testBit_full]
            simp at hyi ⊢
            exact ⟨hi, hyi.1⟩
      refine hno (hasS_of (z := 0) hl hy (by omega) hyq (pw_ne k) (pw_within hyk) (quiet_one hi k) (pw_ne k) (pw_within hyk) (quiet_one hi k) (fun i hi hyi n1 _ => absurd (hk i hi hyi) n1) (by rw [size_zero]; omega))

/- the other way: a structure makes a plan -/
theorem bits2 {g : List Nat} {x y : Nat} (hx : Within x (full g.length)) (hxy : y = ldiff (full g.length) x) (i : Nat) : y.testBit i = (decide (i < g.length) && !x.testBit i) ∧ (x.testBit i = true → i < g.length) :=
  ⟨by rw [hxy, testBit_ldiff, testBit_full], fun h => within_lt hx h⟩
/-- back without a, and forth with some T in its place -/
theorem round_trip {g : List Nat} {seats x y a S T : Nat} (hx : Within x (full g.length)) (hxy : y = ldiff (full g.length) x) (hys : size y ≤ seats) (hqx : quietB g x = true) (hay : Within a y) (hSx : Within S x) (hqS : quietB g (S ||| a) = true) (hT : Within T (ldiff x S)) (hTs : size T ≤ size a) :
    isPath g seats (ldiff x S, true) [ldiff y a, T ||| ldiff y a] (ldiff x (S ||| T), true) := by
  have B : ∀ i, (y.testBit i = (decide (i < g.length) && !x.testBit i)) ∧ (x.testBit i = true → i < g.length) ∧ (a.testBit i = true → y.testBit i = true) ∧ (S.testBit i = true → x.testBit i = true) ∧ (T.testBit i = true → (x.testBit i && !S.testBit i) = true) := fun i =>
    ⟨(bits2 hx hxy i).1, (bits2 hx hxy i).2, within_iff.1 hay i, within_iff.1 hSx i, fun h => by have := within_iff.1 hT i h; rwa [testBit_ldiff] at this⟩
  have hsz := size_sub hay
  have hor := size_or_le T (ldiff y a)
  have hqx1 : quietB g (ldiff x S) = true := quiet_sub hqx (ldiff_within' _ _)
  have hn1 : next (ldiff x S, true) (ldiff y a) = (ldiff x S ||| ldiff y a, false) := by
    refine Prod.ext (nat_ext fun i => ?_) rfl
    show (ldiff x S ^^^ ldiff y a).testBit i = (ldiff x S ||| ldiff y a).testBit i
    rw [Nat.testBit_xor, Nat.testBit_or, testBit_ldiff, testBit_ldiff]
    obtain ⟨b1, b2, b3, b4, b5⟩ := B i
    cases e1 : x.testBit i <;> cases e2 : S.testBit i <;> cases e3 : a.testBit i <;> simp_all
  have hn2 : next (ldiff x S ||| ldiff y a, false) (T ||| ldiff y a) = (ldiff x (S ||| T), true) := by
    refine Prod.ext (nat_ext fun i => ?_) rfl
    show ((ldiff x S ||| ldiff y a) ^^^ (T ||| ldiff y a)).testBit i = (ldiff x (S ||| T)).testBit i
    rw [Nat.testBit_xor, Nat.testBit_or, Nat.testBit_or, testBit_ldiff, testBit_ldiff, testBit_ldiff, Nat.testBit_or]
    obtain ⟨b1, b2, b3, b4, b5⟩ := B i
    cases e1 : x.testBit i <;> cases e2 : S.testBit i <;> cases e3 : a.testBit i <;> cases e4 : T.testBit i <;> simp_all
  have hbk : bank g (ldiff x S, true) = S ||| y := nat_ext fun i => by
    show (ldiff (full g.length) (ldiff x S)).testBit i = _
    rw [testBit_ldiff, testBit_ldiff, testBit_full, Nat.testBit_or]
    obtain ⟨b1, b2, b3, b4, b5⟩ := B i
    cases e1 : x.testBit i <;> cases e2 : S.testBit i <;> simp_all
  have hf1 : ldiff (full g.length) (S ||| y) = ldiff x S := nat_ext fun i => by
    rw [testBit_ldiff, testBit_ldiff, testBit_full, Nat.testBit_or]
    obtain ⟨b1, b2, b3, b4, b5⟩ := B i
    cases e1 : x.testBit i <;> cases e2 : S.testBit i <;> simp_all
  have hf2 : ldiff (full g.length) (ldiff x S ||| ldiff y a) = S ||| a := nat_ext fun i => by
    rw [testBit_ldiff, Nat.testBit_or, Nat.testBit_or, testBit_ldiff, testBit_ldiff, testBit_full]
    obtain ⟨b1, b2, b3, b4, b5⟩ := B i
    cases e1 : x.testBit i <;> cases e2 : S.testBit i <;> cases e3 : a.testBit i <;> simp_all
  have hf3 : Within (ldiff (S ||| y) (ldiff y a)) (S ||| a) := within_iff.2 fun i hi => by
    rw [testBit_ldiff, Nat.testBit_or, testBit_ldiff] at hi
    rw [Nat.testBit_or]
    clear hbk hf1 hf2 hn1 hn2 B hxy
    cases e1 : y.testBit i <;> cases e2 : S.testBit i <;> cases e3 : a.testBit i <;> simp_all
  refine ⟨⟨?_, by omega, ?_, ?_⟩, ?_⟩
  · rw [hbk]; exact (ldiff_within' _ _).trans (within_or_r _ _)
  · rw [hbk]; exact quiet_sub hqS hf3
  · rw [hbk, hf1]; exact hqx1
  · rw [hn1]
    refine ⟨⟨?_, by omega, ?_, ?_⟩, hn2⟩
    · show Within (T ||| ldiff y a) (ldiff x S ||| ldiff y a)
      exact within_iff.2 fun i hi => by
        rw [Nat.testBit_or, Bool.or_eq_true] at hi ⊢
        rcases hi with h | h
        · exact .inl (within_iff.1 hT i h)
        · exact .inr h
    · show quietB g (ldiff (ldiff x S ||| ldiff y a) (T ||| ldiff y a)) = true
      refine quiet_sub hqx1 (within_iff.2 fun i hi => ?_)
      rw [testBit_ldiff, Nat.testBit_or, Nat.testBit_or] at hi
      simp at hi
      rcases hi.1 with h | h
      · exact h
      · rw [hi.2.2] at h; cases h
    · show quietB g (ldiff (full g.length) (ldiff x S ||| ldiff y a)) = true
      rw [hf2]; exact hqS
/-- one by one -/
theorem carry_x1 {g : List Nat} {seats x y a X1 : Nat} (hl : g.length ≤ 10) (hx : Within x (full g.length)) (hxy : y = ldiff (full g.length) x) (hys : size y ≤ seats) (hqx : quietB g x = true) (hay : Within a y) (ha1 : 1 ≤ size a) (h1 : Within X1 x) (hq1 : quietB g (X1 ||| a) = true) :
    ∀ (k S : Nat), Within S X1 → size (ldiff X1 S) = k → ∃ ps, isPath g seats (ldiff x S, true) ps (ldiff x X1, true) ∧ ps.length = 2 * k
  | 0, S, hS, hk => by
    have : ldiff X1 S = 0 := by
      apply Classical.byContradiction
      intro hc
      have := size_pos (Nat.lt_of_le_of_lt (((ldiff_within' X1 S).trans h1).trans hx).le (sm_full (by omega))) hc
      omega
    have e : X1 = S := Nat.le_antisymm (ldiff_zero.1 this).le hS.le
    subst e
    exact ⟨[], rfl, rfl⟩
  | k + 1, S, hS, hk => by
    have hne : ldiff X1 S ≠ 0 := fun e => by rw [e, size_zero] at hk; omega
    obtain ⟨i, hi⟩ := ne_zero_bit hne
    have hXs : Sm (ldiff X1 S) := Nat.lt_of_le_of_lt (((ldiff_within' X1 S).trans h1).trans hx).le (sm_full (by omega))
    obtain ⟨z1, _, z3⟩ := size_bit hXs hi
    have hi2 := hi
    rw [testBit_ldiff] at hi2
    simp at hi2
    have hp1 : size (pw i) ≤ 1 := by
      have := size_or_bit (c := 0) (i := i) (by unfold Sm; decide) (by have := within_lt (h1.trans hx) hi2.1; omega)
      rw [Nat.zero_or, size_zero] at this
      omega
    have r := round_trip (seats := seats) (T := pw i) hx hxy hys hqx hay (hS.trans h1) (quiet_sub hq1 (within_iff.2 fun j hj => by
      rw [Nat.testBit_or, Bool.or_eq_true] at hj ⊢
      rcases hj with h | h
      · exact .inl (within_iff.1 hS j h)
      · exact .inr h)) (pw_within (by rw [testBit_ldiff, within_iff.1 h1 i hi2.1, hi2.2]; rfl)) (by omega)
    have e : ldiff X1 (S ||| pw i) = ldiff (ldiff X1 S) (pw i) := nat_ext fun j => by
      rw [testBit_ldiff, testBit_ldiff, testBit_ldiff, Nat.testBit_or]
      cases X1.testBit j <;> cases S.testBit j <;> cases (pw i).testBit j <;> rfl
    obtain ⟨ps, hp, hpl⟩ := carry_x1 hl hx hxy hys hqx hay ha1 h1 hq1 k (S ||| pw i) (within_iff.2 fun j hj => by
      rw [Nat.testBit_or, Bool.or_eq_true] at hj
      rcases hj with h | h
      · exact within_iff.1 hS j h
      · exact within_iff.1 (pw_within hi2.1) j h) (by rw [e]; omega)
    exact ⟨_, isPath_append r hp, by simp; omega⟩
/-- the first half: X1 one by one, then Z at once -/
theorem half_way {g : List Nat} {seats x y a X1 Z : Nat} (hl : g.length ≤ 10) (hx : Within x (full g.length)) (hxy : y = ldiff (full g.length) x) (hys : size y ≤ seats) (hqx : quietB g x = true) (hay : Within a y) (ha1 : 1 ≤ size a) (h1 : Within X1 x) (hq1 : quietB g (X1 ||| a) = true) (hZ : Within Z (ldiff x X1)) (hZs : size Z ≤ size a) :
    ∃ ps, isPath g seats (start g) ps (ldiff x (X1 ||| Z), true) ∧ ps.length ≤ 1 + 2 * size X1 + 2 * size Z := by
  have hy : Within y (full g.length) := by rw [hxy]; exact ldiff_within' _ _
  have f1 : ldiff (full g.length) y = x := by rw [hxy]; exact ldiff_full hx
  have hp1 : isPath g seats (start g) [y] (ldiff x 0, true) := by
    refine ⟨⟨hy, hys, ?_, ?_⟩, ?_⟩
    · show quietB g (ldiff (full g.length) y) = true
      rw [f1]; exact hqx
    · show quietB g (ldiff (full g.length) (full g.length)) = true
      rw [ldiff_self]; exact quiet_zero g
    · refine Prod.ext (nat_ext fun i => ?_) rfl
      show (full g.length ^^^ y).testBit i = (ldiff x 0).testBit i
      rw [Nat.testBit_xor, testBit_ldiff, Nat.zero_testBit, testBit_full]
      have b1 := bits2 hx hxy i
      cases e1 : x.testBit i <;> simp_all
  obtain ⟨ps, hp2, hl2⟩ := carry_x1 hl hx hxy hys hqx hay ha1 h1 hq1 (size (ldiff X1 0)) 0 (within_zero _) rfl
  have e0 : ldiff X1 0 = X1 := ldiff_disj fun i hi => by rw [Nat.zero_testBit] at hi; cases hi
  rw [e0] at hl2
  by_cases hz : Z = 0
  · subst hz
    rw [Nat.or_zero]
    exact ⟨_, isPath_append hp1 hp2, by rw [List.length_append, hl2, size_zero]; simp⟩
  · have r := round_trip (seats := seats) (T := Z) hx hxy hys hqx hay h1 hq1 hZ hZs
    have hzp := size_pos (Nat.lt_of_le_of_lt ((hZ.trans (ldiff_within' _ _)).trans hx).le (sm_full (by omega))) hz
    exact ⟨_, isPath_append hp1 (isPath_append hp2 r), by rw [List.length_append, List.length_append, hl2]; simp; omega⟩
/-- the state on the other side of time -/
def mir (g : List Nat) (s : St) : St := (ldiff (full g.length) s.1, !s.2)
theorem mir_trip {g : List Nat} {seats : Nat} {s : St} {p : Nat} (hw : Within s.1 (full g.length)) (h : Legal g seats s p) : Legal g seats (mir g (next s p)) p ∧ next (mir g (next s p)) p = mir g s := by
  obtain ⟨h1, h2, h3, h4⟩ := h
  have hb : bank g (mir g (next s p)) = ldiff (full g.length) (ldiff (bank g s) p) := by
    obtain ⟨sa, sb⟩ := s
    cases sb
    · show ldiff (full g.length) (sa ^^^ p) = ldiff (full g.length) (ldiff sa p)
      refine congrArg _ (nat_ext fun i => ?_)
      have := within_iff.1 h1 i
      rw [Nat.testBit_xor, testBit_ldiff]
      have hh : p.testBit i = true → sa.testBit i = true := this
      cases e1 : sa.testBit i <;> cases e2 : p.testBit i <;> simp_all
    · show ldiff (full g.length) (ldiff (full g.length) (sa ^^^ p)) = ldiff (full g.length) (ldiff (ldiff (full g.length) sa) p)
      refine congrArg _ (nat_ext fun i => ?_)
      have hh := within_iff.1 h1 i
      have hh' : p.testBit i = true → (decide (i < g.length) && !sa.testBit i) = true := fun h => by
        have h5 : (ldiff (full g.length) sa).testBit i = true := hh h
        rwa [testBit_ldiff, testBit_full] at h5
      rw [testBit_ldiff, testBit_ldiff, testBit_ldiff, Nat.testBit_xor, testBit_full]
      cases e1 : sa.testBit i <;> cases e2 : p.testBit i <;> simp_all
  have hpb : Within p (full g.length) := h1.trans (bank_within hw)
  have hbw : Within (bank g s) (full g.length) := bank_within hw
  have B : ∀ i, (p.testBit i = true → (bank g s).testBit i = true) ∧ ((bank g s).testBit i = true → i < g.length) := fun i => ⟨within_iff.1 h1 i, fun h => within_lt hbw h⟩
  refine ⟨⟨?_, h2, ?_, ?_⟩, ?_⟩
  · rw [hb]
    exact within_iff.2 fun i hi => by
      rw [testBit_ldiff, testBit_ldiff, hi, testBit_full]
      simp [(B i).2 ((B i).1 hi)]
  · rw [hb]
    have e : ldiff (ldiff (full g.length) (ldiff (bank g s) p)) p = ldiff (full g.length) (bank g s) := nat_ext fun i => by
      rw [testBit_ldiff, testBit_ldiff, testBit_ldiff, testBit_ldiff, testBit_full]
      have := B i
      cases e1 : (bank g s).testBit i <;> cases e2 : p.testBit i <;> simp_all
    rw [e]; exact h4
  · rw [hb, ldiff_full ((ldiff_within' _ _).trans hbw)]
    exact h3
  · refine Prod.ext (nat_ext fun i => ?_) (by show (!(!(!s.2))) = !s.2; simp)
    show (ldiff (full g.length) (s.1 ^^^ p) ^^^ p).testBit i = (ldiff (full g.length) s.1).testBit i
    rw [Nat.testBit_xor, testBit_ldiff, testBit_ldiff, Nat.testBit_xor, testBit_full]
    have h6 : p.testBit i = true → i < g.length := fun h => within_lt hpb h
    cases e1 : s.1.testBit i <;> cases e2 : p.testBit i <;> simp_all
theorem mir_path {g : List Nat} {seats : Nat} : ∀ (ps : List Nat) (s t : St), Within s.1 (full g.length) → isPath g seats s ps t → isPath g seats (mir g t) ps.reverse (mir g s)
  | [], s, t, _, h => by cases h; rfl
  | p :: ps, s, t, hw, h => by
    obtain ⟨m1, m2⟩ := mir_trip hw h.1
    have := mir_path ps _ t (next_within hw h.1) h.2
    rw [List.reverse_cons]
    exact isPath_append this ⟨m1, by rw [m2]; rfl⟩
theorem split_size : ∀ (m z : Nat), Sm z → ∃ c, Within c z ∧ size c ≤ m ∧ (size (ldiff z c) + m ≤ size z ∨ ldiff z c = 0)
  | 0, z, _ => ⟨0, within_zero _, by rw [size_zero]; omega, .inl (by rw [ldiff_disj fun i hi => by rw [Nat.zero_testBit] at hi; cases hi]; omega)⟩
  | m + 1, z, hz => by
    obtain ⟨c, h1, h2, h3⟩ := split_size m z hz
    by_cases h0 : ldiff z c = 0
    · exact ⟨c, h1, by omega, .inr h0⟩
    · obtain ⟨i, hi⟩ := ne_zero_bit h0
      have hs : Sm (ldiff z c) := sm_ldiff _ hz
      obtain ⟨z1, _, _⟩ := size_bit hs hi
      have hi2 := hi
      rw [testBit_ldiff] at hi2
      simp at hi2
      have hi20 : i < 20 := Classical.byContradiction fun hc => by
        have h3 : z < 2 ^ i := Nat.lt_of_lt_of_le hz (show 2 ^ 20 ≤ 2 ^ i from Nat.pow_le_pow_right (by decide) (by omega))
        rw [Nat.testBit_lt_two_pow h3] at hi2
        cases hi2.1
      have e : ldiff z (c ||| pw i) = ldiff (ldiff z c) (pw i) := nat_ext fun j => by
        rw [testBit_ldiff, testBit_ldiff, testBit_ldiff, Nat.testBit_or]
        cases z.testBit j <;> cases c.testBit j <;> cases (pw i).testBit j <;> rfl
      have := size_or_bit (c := c) (i := i) (Nat.lt_of_le_of_lt h1.le hz) hi20
      refine ⟨c ||| pw i, within_iff.2 fun j hj => ?_, by omega, .inl ?_⟩
      · rw [Nat.testBit_or, Bool.or_eq_true] at hj
        rcases hj with h | h
        · exact within_iff.1 h1 j h
        · exact within_iff.1 (pw_within hi2.1) j h
      · rw [e]
        rcases h3 with h3 | h3
        · omega
        · exact absurd h3 h0
theorem quiet_join {g : List Nat} {x a X : Nat} (hsy : Sym g) (hx : Within x (full g.length)) (hqx : quietB g x = true) (hqa : quietB g a = true) (ha : Within a (full g.length)) (hX : Within X x) (hn : ∀ i, X.testBit i = true → (nbs g a).testBit i = false) : quietB g (X ||| a) = true :=
  quietB_iff.2 fun i hi hs j hj => by
    have key : ∀ i j, X.testBit i = true → a.testBit j = true → (nb g i).testBit j = false := fun i j h1 h2 => and_zero_iff.1 ((not_nbs (within_lt (hX.trans hx) h1)).1 (hn i h1)) j h2
    rw [Nat.testBit_or, Bool.or_eq_true] at hs hj
    rcases hs with h1 | h1
    · rcases hj with h2 | h2
      · exact quietB_iff.1 hqx i hi (within_iff.1 hX i h1) j (within_iff.1 hX j h2)
      · exact key i j h1 h2
    · rcases hj with h2 | h2
      · rw [hsy i j]; exact key j i h2 h1
      · exact quietB_iff.1 hqa i hi h1 j h2
theorem bq (x a b c z X1 X2 d : Bool) (h : X1 = (x && !a) ∧ X2 = (x && a && !b) ∧ d = (z && !c) ∧ (c = true → z = true) ∧ z = (x && a && b)) : x = (X1 || (X2 || (c || d))) ∧ (X1 = true → (X2 || (c || d)) = false) ∧ (X2 = true → (c || d) = false) ∧ (c = true → d = false) := by
  obtain ⟨h1, h2, h3, h4, h5⟩ := h
  subst h1 h2 h3 h5
  cases x <;> cases a <;> cases b <;> cases c <;> simp_all
/-- a structure makes a plan, in at most 2 n + 1 trips -/
theorem plan_of_struct {g : List Nat} {seats : Nat} (hl : g.length ≤ 10) (hsy : Sym g) (h : HasS g seats) : ∃ ps, isPath g seats (start g) ps goal ∧ ps.length ≤ 2 * g.length + 1 := by
  have hfs : Sm (full g.length) := sm_full (by omega)
  obtain ⟨y, hy0, hy1, hys, hqx, a, ha0, ha1, hay, hqa, b, hab, hb1, hby, hqb, hth⟩ := h
  have hy : Within y (full g.length) := within_full.2 hy1
  obtain ⟨x, hxe⟩ : ∃ x, x = ldiff (full g.length) y := ⟨_, rfl⟩
  rw [← hxe] at hqx hth
  have hx : Within x (full g.length) := by rw [hxe]; exact ldiff_within' _ _
  have hxy : y = ldiff (full g.length) x := by rw [hxe]; exact (ldiff_full hy).symm
  have hys' : size y ≤ seats := by omega
  have hxs : Sm x := Nat.lt_of_le_of_lt hx.le hfs
  have hyS : Sm y := Nat.lt_of_le_of_lt hy.le hfs
  -- the third set, and its two parts
  obtain ⟨z, hz⟩ : ∃ z, z = (x &&& nbs g a) &&& nbs g b := ⟨_, rfl⟩
  have hzb : ∀ i, z.testBit i = (x.testBit i && (nbs g a).testBit i && (nbs g b).testBit i) := fun i => by rw [hz, Nat.testBit_and, Nat.testBit_and]
  have hzx : Within z x := within_iff.2 fun i hi => by rw [hzb] at hi; simp at hi; exact hi.1.1
  have hzs : size z ≤ size a + size b := by
    rw [size_szTo (k := g.length) (by omega) (hzx.trans hx)]
    refine Nat.le_trans (szTo_le_third (x := x) (a := a) (b := b) (fun i hi hzi => ?_) g.length (Nat.le_refl _)) hth
    rw [hzb] at hzi
    simp at hzi
    exact ⟨hzi.1.1, (testBit_nbs.1 hzi.1.2).2, (testBit_nbs.1 hzi.2).2⟩
  have hzS : Sm z := Nat.lt_of_le_of_lt hzx.le hxs
  obtain ⟨c, c1, c2, c3⟩ := split_size (size a) z hzS
  have hd : size (ldiff z c) ≤ size b := by
    rcases c3 with h | h
    · omega
    · rw [h, size_zero]; omega
  -- the two first sets
  have hx1 : Within (ldiff x (nbs g a)) x := ldiff_within' _ _
  have q1 : quietB g (ldiff x (nbs g a) ||| a) = true := quiet_join hsy hx hqx hqa (hay.trans hy) (ldiff_within' _ _) fun i hi => by rw [testBit_ldiff] at hi; simp at hi; exact hi.2
  have hx2 : Within (ldiff (x &&& nbs g a) (nbs g b)) x := within_iff.2 fun i hi => by rw [testBit_ldiff, Nat.testBit_and] at hi; simp at hi; exact hi.1.1
  have q2 : quietB g (ldiff (x &&& nbs g a) (nbs g b) ||| b) = true := quiet_join hsy hx hqx hqb (hby.trans hy) hx2 fun i hi => by rw [testBit_ldiff] at hi; simp at hi; exact hi.2
  obtain ⟨X1, hX1⟩ : ∃ X1, X1 = ldiff x (nbs g a) := ⟨_, rfl⟩
  obtain ⟨X2, hX2⟩ : ∃ X2, X2 = ldiff (x &&& nbs g a) (nbs g b) := ⟨_, rfl⟩
  obtain ⟨d, hdd⟩ : ∃ d, d = ldiff z c := ⟨_, rfl⟩
  rw [← hX1] at hx1 q1
  rw [← hX2] at hx2 q2
  rw [← hdd] at hd
  have B : ∀ i, X1.testBit i = (x.testBit i && !(nbs g a).testBit i) ∧ X2.testBit i = (x.testBit i && (nbs g a).testBit i && !(nbs g b).testBit i) ∧ d.testBit i = (z.testBit i && !c.testBit i) ∧ (c.testBit i = true → z.testBit i = true) ∧ z.testBit i = (x.testBit i && (nbs g a).testBit i && (nbs g b).testBit i) := fun i =>
    ⟨by rw [hX1, testBit_ldiff], by rw [hX2, testBit_ldiff, Nat.testBit_and], by rw [hdd, testBit_ldiff], within_iff.1 c1 i, hzb i⟩
  have ha2 : 1 ≤ size a := size_pos (Nat.lt_of_le_of_lt hay.le hyS) (by omega)
  have hb2 : 1 ≤ size b := size_pos (Nat.lt_of_le_of_lt hby.le hyS) (by omega)
  have w1 : Within c (ldiff x X1) := within_iff.2 fun i hi => by
    obtain ⟨b1, b2, b3, b4, b5⟩ := B i
    rw [testBit_ldiff]
    clear hX1 hX2 hdd hz hxe hxy B
    cases e1 : x.testBit i <;> cases e2 : (nbs g a).testBit i <;> simp_all
  have w2 : Within d (ldiff x X2) := within_iff.2 fun i hi => by
    obtain ⟨b1, b2, b3, b4, b5⟩ := B i
    rw [testBit_ldiff]
    clear hX1 hX2 hdd hz hxe hxy B
    cases e1 : x.testBit i <;> cases e2 : (nbs g a).testBit i <;> cases e3 : (nbs g b).testBit i <;> simp_all
  obtain ⟨ps, hp, hpl⟩ := half_way (seats := seats) (Z := c) hl hx hxy hys' hqx hay ha2 hx1 q1 w1 c2
  obtain ⟨qs, hq, hql⟩ := half_way (seats := seats) (Z := d) hl hx hxy hys' hqx hby hb2 hx2 q2 w2 hd
  have hm := mir_path qs _ _ (within_refl _) hq
  have ePQ : ldiff x (X1 ||| c) = X2 ||| d := nat_ext fun i => by
    obtain ⟨b1, b2, b3, b4, b5⟩ := B i
    rw [testBit_ldiff, Nat.testBit_or, Nat.testBit_or]
    clear hX1 hX2 hdd hz hxe hxy B
    cases e1 : x.testBit i <;> cases e2 : (nbs g a).testBit i <;> cases e3 : (nbs g b).testBit i <;> cases e4 : c.testBit i <;> simp_all
  have eQP : ldiff x (X2 ||| d) = X1 ||| c := nat_ext fun i => by
    obtain ⟨b1, b2, b3, b4, b5⟩ := B i
    rw [testBit_ldiff, Nat.testBit_or, Nat.testBit_or]
    clear hX1 hX2 hdd hz hxe hxy B
    cases e1 : x.testBit i <;> cases e2 : (nbs g a).testBit i <;> cases e3 : (nbs g b).testBit i <;> cases e4 : c.testBit i <;> simp_all
  rw [ePQ] at hp
  rw [eQP] at hm
  have s1 : size x = size X1 + (size X2 + (size c + size d)) := by
    have e : x = X1 ||| (X2 ||| (c ||| d)) := nat_ext fun i => by
      rw [Nat.testBit_or, Nat.testBit_or, Nat.testBit_or]
      exact (bq _ _ _ _ _ _ _ _ (B i)).1
    have t1 := size_add (a := X1) (b := X2 ||| (c ||| d)) (fun i hi => by
      rw [Nat.testBit_or, Nat.testBit_or]
      exact (bq _ _ _ _ _ _ _ _ (B i)).2.1 hi)
    have t2 := size_add (a := X2) (b := c ||| d) (fun i hi => by
      rw [Nat.testBit_or]
      exact (bq _ _ _ _ _ _ _ _ (B i)).2.2.1 hi)
    have t3 := size_add (a := c) (b := d) (fun i hi => (bq _ _ _ _ _ _ _ _ (B i)).2.2.2 hi)
    rw [← e] at t1
    omega
  obtain ⟨P, hP⟩ : ∃ P, P = X1 ||| c := ⟨_, rfl⟩
  obtain ⟨Q, hQ⟩ : ∃ Q, Q = X2 ||| d := ⟨_, rfl⟩
  rw [← hP] at hm eQP
  rw [← hQ] at hp eQP ePQ
  have hQx : Within Q x := by rw [← ePQ]; exact ldiff_within' _ _
  have hPx : Within P x := by rw [← eQP]; exact ldiff_within' _ _
  have C : ∀ i, (Q.testBit i = true → x.testBit i = true) ∧ P.testBit i = (x.testBit i && !Q.testBit i) ∧ y.testBit i = (decide (i < g.length) && !x.testBit i) ∧ (x.testBit i = true → i < g.length) := fun i =>
    ⟨within_iff.1 hQx i, by rw [← eQP, testBit_ldiff], (bits2 hx hxy i).1, (bits2 hx hxy i).2⟩
  have mid : isPath g seats (Q, true) [y] (mir g (P, true)) := by
    have hbk : bank g (Q, true) = P ||| y := nat_ext fun i => by
      show (ldiff (full g.length) Q).testBit i = _
      obtain ⟨b1, b2, b3, b4⟩ := C i
      rw [testBit_ldiff, testBit_full, Nat.testBit_or]
      clear hP hQ ePQ eQP hxy hxe
      cases e1 : x.testBit i <;> cases e2 : Q.testBit i <;> simp_all
    refine ⟨⟨by rw [hbk]; exact within_or_r _ _, hys', ?_, ?_⟩, Prod.ext (nat_ext fun i => ?_) rfl⟩
    · rw [hbk]
      exact quiet_sub hqx (within_iff.2 fun i hi => by
        rw [testBit_ldiff, Nat.testBit_or] at hi
        obtain ⟨b1, b2, b3, b4⟩ := C i
        clear hP hQ ePQ eQP hxy hxe
        cases e1 : x.testBit i <;> cases e2 : Q.testBit i <;> simp_all)
    · have e : ldiff (full g.length) (bank g (Q, true)) = Q := ldiff_full (hQx.trans hx)
      rw [e]
      exact quiet_sub hqx hQx
    · show (Q ^^^ y).testBit i = (ldiff (full g.length) P).testBit i
      obtain ⟨b1, b2, b3, b4⟩ := C i
      rw [Nat.testBit_xor, testBit_ldiff, testBit_full]
      clear hP hQ ePQ eQP hxy hxe
      cases e1 : x.testBit i <;> cases e2 : Q.testBit i <;> simp_all
  have eg : mir g (start g) = goal := by
    show (ldiff (full g.length) (full g.length), !false) = goal
    rw [ldiff_self]; rfl
  rw [eg] at hm
  refine ⟨ps ++ ([y] ++ qs.reverse), isPath_append hp (isPath_append mid hm), ?_⟩
  have s2 := size_sub hx
  rw [← hxy] at s2
  have s3 := size_full g.length hl
  have s4 : 1 ≤ size y := size_pos hyS (by omega)
  simp only [List.length_append, List.length_singleton, List.length_reverse]
  omega
end Go.Proofs.Ytfbobojpocnfeaa
