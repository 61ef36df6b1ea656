/- Plain text: crossings as paths of states; a search in breadth finds a shortest one, or there is none. -/
import Derived.Test.YtfbobojpocnfeaaGr
namespace Go.Proofs.Ytfbobojpocnfeaa

abbrev St := Nat × Bool
/-- how the search was led: each state, the state before it, and who was taken -/
abbrev Led := List (St × St × Nat)
def ledAt (frm : Led) (s : St) : Option (St × Nat) := (frm.find? (fun f => decide (s = f.1))).map (·.2)

/-- who is on the bank from which the boat leaves -/
def bank (g : List Nat) (s : St) : Nat := if s.2 then ldiff (full g.length) s.1 else s.1
def next (s : St) (p : Nat) : St := (s.1 ^^^ p, !s.2)
/-- who may be taken -/
def Legal (g : List Nat) (seats : Nat) (s : St) (p : Nat) : Prop :=
  Within p (bank g s) ∧ size p ≤ seats ∧ quietB g (ldiff (bank g s) p) = true ∧ quietB g (ldiff (full g.length) (bank g s)) = true
def isPath (g : List Nat) (seats : Nat) : St → List Nat → St → Prop
  | s, [], t => s = t
  | s, p :: ps, t => Legal g seats s p ∧ isPath g seats (next s p) ps t
theorem isPath_append {g : List Nat} {seats : Nat} : ∀ {ps qs : List Nat} {s t u : St}, isPath g seats s ps t → isPath g seats t qs u → isPath g seats s (ps ++ qs) u
  | [], _, _, _, _, h, h' => by cases h; exact h'
  | _ :: _, _, _, _, _, h, h' => ⟨h.1, isPath_append h.2 h'⟩
theorem isPath_snoc {g : List Nat} {seats : Nat} : ∀ {ps : List Nat} {p : Nat} {s t : St}, isPath g seats s (ps ++ [p]) t → ∃ u, isPath g seats s ps u ∧ Legal g seats u p ∧ next u p = t
  | [], _, _, _, h => ⟨_, rfl, h.1, h.2⟩
  | _ :: ps, p, s, t, h => by
    obtain ⟨u, h1, h2, h3⟩ := isPath_snoc h.2
    exact ⟨u, ⟨h.1, h1⟩, h2, h3⟩
def start (g : List Nat) : St := (full g.length, false)
def goal : St := (0, true)

/-- what holds of the search when the first i states have been looked at; ds: how far each is from the start -/
structure Inv (g : List Nat) (seats : Nat) (frm : Led) (ds : List Nat) (i : Nat) : Prop where
  len : ds.length = frm.length
  le : i ≤ frm.length
  first : ∃ x p, frm[0]? = some (start g, x, p)
  d0 : ds[0]? = some 0
  nodup : (frm.map (·.1)).Nodup
  led : ∀ (j : Nat), 0 < j → ∀ (s t : St) (p : Nat), frm[j]? = some (s, t, p) → ∃ q : Nat, q < j ∧ q < i ∧ (∃ y, frm[q]? = some (t, y)) ∧ Legal g seats t p ∧ next t p = s ∧ ds[j]?.getD 0 = ds[q]?.getD 0 + 1
  mono : ∀ j k : Nat, j ≤ k → k < frm.length → ds[j]?.getD 0 ≤ ds[k]?.getD 0
  near : ∀ j : Nat, j < frm.length → i < frm.length → ds[j]?.getD 0 ≤ ds[i]?.getD 0 + 1
  done : ∀ q : Nat, q < i → ∀ (s : St) (y : St × Nat), frm[q]? = some (s, y) → ∀ p, Legal g seats s p → ∃ k : Nat, (∃ z, frm[k]? = some (next s p, z)) ∧ ds[k]?.getD 0 ≤ ds[q]?.getD 0 + 1
  goal : ∀ (j : Nat) (s : St) (y : St × Nat), frm[j]? = some (s, y) → s ≠ goal
theorem Inv.start {g : List Nat} (seats : Nat) (hg : start g ≠ Ytfbobojpocnfeaa.goal) : Inv g seats [(start g, (0, false), 0)] [0] 0 where
  len := rfl
  le := Nat.zero_le _
  first := ⟨_, _, rfl⟩
  d0 := rfl
  nodup := by simp
  led := fun j hj s t p h => by
    rw [List.getElem?_eq_none (by simp; omega)] at h; cases h
  mono := fun j k hjk hk => by simp at hk; subst hk; simp at hjk; subst hjk; exact Nat.le_refl _
  near := fun j hj _ => by simp at hj; subst hj; simp
  done := fun q hq => by omega
  goal := fun j s y h => by
    cases j with
    | zero => simp at h; rw [← h.1]; exact hg
    | succ j => simp at h
/-- whatever can be reached in few steps is there -/
theorem Inv.reach {g : List Nat} {seats : Nat} {frm : Led} {ds : List Nat} {i : Nat} (h : Inv g seats frm ds i) : ∀ (ps : List Nat) (t : St), isPath g seats (Ytfbobojpocnfeaa.start g) ps t → (i < frm.length → ps.length ≤ ds[i]?.getD 0) →
    ∃ k : Nat, (∃ z, frm[k]? = some (t, z)) ∧ ds[k]?.getD 0 ≤ ps.length := by
  intro ps
  induction hn : ps.length generalizing ps with
  | zero =>
    intro t hp _
    have : ps = [] := List.eq_nil_of_length_eq_zero hn
    subst this
    obtain ⟨x, p, h0⟩ := h.first
    cases hp
    exact ⟨0, ⟨_, h0⟩, by rw [h.d0]; exact Nat.le_refl _⟩
  | succ n ih =>
    intro t hp hi
    have hne : ps ≠ [] := by intro e; rw [e] at hn; cases hn
    have hd := List.dropLast_concat_getLast hne
    rw [← hd] at hp
    obtain ⟨u, h1, h2, h3⟩ := isPath_snoc hp
    have hl : ps.dropLast.length = n := by simp [hn]
    obtain ⟨k, ⟨z, hk⟩, hdk⟩ := ih ps.dropLast hl u h1 (fun hlt => by have := hi hlt; omega)
    have hklt : k < frm.length := (List.getElem?_eq_some_iff.1 hk).1
    have hki : k < i := by
      apply Classical.byContradiction
      intro hc
      have hil : i < frm.length := by omega
      have h4 := h.mono i k (by omega) hklt
      have h5 := hi hil
      omega
    obtain ⟨m, hm, hdm⟩ := h.done k hki u z hk _ h2
    rw [h3] at hm
    exact ⟨m, hm, by omega⟩
/-- nothing is left to look at: there is no way -/
theorem Inv.none {g : List Nat} {seats : Nat} {frm : Led} {ds : List Nat} (h : Inv g seats frm ds frm.length) (ps : List Nat) : ¬ isPath g seats (Ytfbobojpocnfeaa.start g) ps Ytfbobojpocnfeaa.goal := fun hp => by
  obtain ⟨k, ⟨z, hk⟩, _⟩ := h.reach ps _ hp (fun hlt => by omega)
  exact h.goal k _ z hk rfl
/-- no way is shorter than the state looked at -/
theorem Inv.far {g : List Nat} {seats : Nat} {frm : Led} {ds : List Nat} {i : Nat} (h : Inv g seats frm ds i) (ps : List Nat) (hp : isPath g seats (Ytfbobojpocnfeaa.start g) ps Ytfbobojpocnfeaa.goal) : i < frm.length ∧ ds[i]?.getD 0 < ps.length := by
  apply Classical.byContradiction
  intro hc
  obtain ⟨k, ⟨z, hk⟩, _⟩ := h.reach ps _ hp (fun hlt => by omega)
  exact h.goal k _ z hk rfl

/-- one who may be taken, or not: the search at state s goes one step on -/
def stp (g : List Nat) (seats : Nat) (s : St) (frm : Led) (p : Nat) : Led :=
  if size p ≤ seats ∧ quietB g (ldiff (bank g s) p) = true ∧ ledAt frm (next s p) = Option.none then frm ++ [(next s p, s, p)] else frm
theorem ledAt_none {frm : Led} {s : St} : ledAt frm s = Option.none ↔ s ∉ frm.map (·.1) := by
  unfold ledAt
  simp only [Option.map_eq_none_iff, List.find?_eq_none, decide_eq_true_eq, List.mem_map, not_exists, not_and]
  exact ⟨fun h x hx e => h x hx e.symm, fun h x hx e => h x hx e.symm⟩
theorem mem_keys {frm : Led} {s : St} : s ∈ frm.map (·.1) ↔ ∃ k : Nat, ∃ z, frm[k]? = some (s, z) := by
  constructor
  · intro h
    obtain ⟨x, hx, rfl⟩ := List.mem_map.1 h
    obtain ⟨k, hk⟩ := List.getElem?_of_mem hx
    exact ⟨k, x.2, hk⟩
  · rintro ⟨k, z, h⟩
    exact List.mem_map.2 ⟨_, List.mem_of_getElem? h, rfl⟩
/-- what holds while state i is looked at: what has been added all comes from it -/
structure Mid (g : List Nat) (seats : Nat) (frm0 : Led) (ds0 : List Nat) (i : Nat) (s : St) (pre : List Nat) (frm : Led) : Prop where
  ext : ∃ new, frm = frm0 ++ new ∧ (∀ f ∈ new, f.2.1 = s ∧ Legal g seats s f.2.2 ∧ next s f.2.2 = f.1)
  nodup : (frm.map (·.1)).Nodup
  seen : ∀ p ∈ pre, Legal g seats s p → next s p ∈ frm.map (·.1)
theorem Mid.begin {g : List Nat} {seats : Nat} {frm0 : Led} {ds0 : List Nat} {i : Nat} {s : St} (h : Inv g seats frm0 ds0 i) : Mid g seats frm0 ds0 i s [] frm0 :=
  ⟨⟨[], by simp, fun f hf => by cases hf⟩, h.nodup, fun p hp => by cases hp⟩
theorem Mid.step {g : List Nat} {seats : Nat} {frm0 : Led} {ds0 : List Nat} {i : Nat} {s : St} {pre : List Nat} {frm : Led} (h : Mid g seats frm0 ds0 i s pre frm) (p : Nat) (hw : Within p (bank g s)) (hq : quietB g (ldiff (full g.length) (bank g s)) = true) :
    Mid g seats frm0 ds0 i s (pre ++ [p]) (stp g seats s frm p) := by
  obtain ⟨⟨new, rfl, hn⟩, hd, hs⟩ := h
  unfold stp
  split
  · rename_i hc
    obtain ⟨h1, h2, h3⟩ := hc
    have hL : Legal g seats s p := ⟨hw, h1, h2, hq⟩
    refine ⟨⟨new ++ [(next s p, s, p)], by simp, fun f hf => ?_⟩, ?_, fun q hq' hLq => ?_⟩
    · rcases List.mem_append.1 hf with hf | hf
      · exact hn f hf
      · simp at hf; subst hf; exact ⟨rfl, hL, rfl⟩
    · rw [List.map_append, List.nodup_append]
      refine ⟨hd, by simp, fun a ha b hb e => ?_⟩
      simp at hb
      rw [hb] at e
      rw [e] at ha
      exact ledAt_none.1 h3 ha
    · rw [List.map_append]
      rcases List.mem_append.1 hq' with hq' | hq'
      · exact List.mem_append.2 (.inl (hs q hq' hLq))
      · simp at hq'; subst hq'; exact List.mem_append.2 (.inr (by simp))
  · rename_i hc
    refine ⟨⟨new, rfl, hn⟩, hd, fun q hq' hLq => ?_⟩
    rcases List.mem_append.1 hq' with hq' | hq'
    · exact hs q hq' hLq
    · simp at hq'
      subst hq'
      apply Classical.byContradiction
      intro hno
      exact hc ⟨hLq.2.1, hLq.2.2.1, ledAt_none.2 hno⟩
/-- state i has been looked at -/
theorem Mid.finish {g : List Nat} {seats : Nat} {frm0 : Led} {ds0 : List Nat} {i : Nat} {s : St} {y : St × Nat} {pre : List Nat} {frm : Led} (h0 : Inv g seats frm0 ds0 i) (hi : frm0[i]? = some (s, y)) (h : Mid g seats frm0 ds0 i s pre frm)
    (hall : ∀ p, Legal g seats s p → p ∈ pre) (hng : ∀ f ∈ frm, f.1 ≠ Ytfbobojpocnfeaa.goal) : ∃ ds, Inv g seats frm ds (i + 1) := by
  obtain ⟨⟨new, rfl, hn⟩, hd, hs⟩ := h
  have hil : i < frm0.length := (List.getElem?_eq_some_iff.1 hi).1
  refine ⟨ds0 ++ List.replicate new.length (ds0[i]?.getD 0 + 1), ?_⟩
  have hlen := h0.len
  have dsl : ∀ j, j < frm0.length → (ds0 ++ List.replicate new.length (ds0[i]?.getD 0 + 1))[j]?.getD 0 = ds0[j]?.getD 0 := fun j hj => by rw [List.getElem?_append_left (by omega)]
  have dsr : ∀ j, frm0.length ≤ j → j < frm0.length + new.length → (ds0 ++ List.replicate new.length (ds0[i]?.getD 0 + 1))[j]?.getD 0 = ds0[i]?.getD 0 + 1 := fun j hj hj' => by
    rw [List.getElem?_append_right (by omega), List.getElem?_replicate, if_pos (by omega)]; rfl
  have frl : ∀ j, j < frm0.length → (frm0 ++ new)[j]? = frm0[j]? := fun j hj => List.getElem?_append_left hj
  have frr : ∀ j, frm0.length ≤ j → (frm0 ++ new)[j]? = new[j - frm0.length]? := fun j hj => List.getElem?_append_right hj
  have top : ∀ j, j < frm0.length + new.length → (ds0 ++ List.replicate new.length (ds0[i]?.getD 0 + 1))[j]?.getD 0 ≤ ds0[i]?.getD 0 + 1 := fun j hj => by
    by_cases e : j < frm0.length
    · rw [dsl j e]; exact h0.near j e hil
    · rw [dsr j (by omega) hj]; exact Nat.le_refl _
  have mono : ∀ j k, j ≤ k → k < (frm0 ++ new).length → (ds0 ++ List.replicate new.length (ds0[i]?.getD 0 + 1))[j]?.getD 0 ≤ (ds0 ++ List.replicate new.length (ds0[i]?.getD 0 + 1))[k]?.getD 0 := fun j k hjk hk => by
    rw [List.length_append] at hk
    by_cases e : k < frm0.length
    · rw [dsl k e, dsl j (by omega)]; exact h0.mono j k hjk e
    · rw [dsr k (by omega) hk]; exact top j (by omega)
  refine ⟨by simp [hlen], by simp; omega, ?_, ?_, hd, ?_, mono, ?_, ?_, ?_⟩
  · obtain ⟨x, p, hx⟩ := h0.first
    exact ⟨x, p, by rw [frl 0 (by omega)]; exact hx⟩
  · rw [List.getElem?_append_left (by omega)]; exact h0.d0
  · intro j hj s' t p hjs
    by_cases e : j < frm0.length
    · rw [frl j e] at hjs
      obtain ⟨q, q1, q2, ⟨y', q3⟩, q4, q5, q6⟩ := h0.led j hj s' t p hjs
      exact ⟨q, q1, by omega, ⟨y', by rw [frl q (by omega)]; exact q3⟩, q4, q5, by rw [dsl j e, dsl q (by omega)]; exact q6⟩
    · rw [frr j (by omega)] at hjs
      have hm := List.mem_of_getElem? hjs
      obtain ⟨a1, a2, a3⟩ := hn _ hm
      have hjl : j - frm0.length < new.length := (List.getElem?_eq_some_iff.1 hjs).1
      simp only at a1 a2 a3
      refine ⟨i, by omega, by omega, ⟨y, by rw [frl i hil, hi, a1]⟩, by rw [a1]; exact a2, by rw [a1]; exact a3, ?_⟩
      rw [dsr j (by omega) (by omega), dsl i hil]
  · intro j hj hi'
    rw [List.length_append] at hj hi'
    have h1 := top j hj
    have h2 := mono i (i + 1) (by omega) (by rw [List.length_append]; exact hi')
    rw [dsl i hil] at h2
    omega
  · intro q hq s' y' hqs p hL
    have hql : q < frm0.length := by omega
    rw [frl q hql] at hqs
    rw [dsl q hql]
    by_cases e : q = i
    · subst e
      rw [hi] at hqs
      cases hqs
      have := hs p (hall p hL) hL
      obtain ⟨k, z, hk⟩ := mem_keys.1 this
      refine ⟨k, ⟨z, hk⟩, ?_⟩
      have hkl : k < (frm0 ++ new).length := (List.getElem?_eq_some_iff.1 hk).1
      rw [List.length_append] at hkl
      exact top k hkl
    · obtain ⟨k, ⟨z, hk⟩, hdk⟩ := h0.done q (by omega) s' y' hqs p hL
      have hkl : k < frm0.length := (List.getElem?_eq_some_iff.1 hk).1
      exact ⟨k, ⟨z, by rw [frl k hkl]; exact hk⟩, by rw [dsl k hkl]; exact hdk⟩
  · intro j s' y' hj
    exact hng _ (List.mem_of_getElem? hj)

theorem xor_within {a b c : Nat} (h : Within a c) (h' : Within b c) : Within (a ^^^ b) c := within_iff.2 fun i hi => by
  rw [Nat.testBit_xor] at hi
  cases ha : a.testBit i
  · rw [ha] at hi; simp at hi; exact within_iff.1 h' i hi
  · exact within_iff.1 h i ha
theorem ldiff_within (a b : Nat) : Within (ldiff a b) a := within_iff.2 fun i hi => by rw [testBit_ldiff] at hi; simp at hi; exact hi.1
theorem bank_within {g : List Nat} {s : St} (h : Within s.1 (full g.length)) : Within (bank g s) (full g.length) := by
  unfold bank; split
  · exact ldiff_within _ _
  · exact h
theorem next_within {g : List Nat} {seats : Nat} {s : St} {p : Nat} (h : Within s.1 (full g.length)) (hL : Legal g seats s p) : Within (next s p).1 (full g.length) := xor_within h (hL.1.trans (bank_within h))
theorem Inv.within {g : List Nat} {seats : Nat} {frm : Led} {ds : List Nat} {i : Nat} (h : Inv g seats frm ds i) : ∀ (j : Nat) (s : St) (y : St × Nat), frm[j]? = some (s, y) → Within s.1 (full g.length) := by
  intro j
  induction j using Nat.strongRecOn with
  | _ j ih =>
    intro s y hj
    by_cases e : j = 0
    · subst e
      obtain ⟨x, p, hx⟩ := h.first
      rw [hj] at hx
      cases hx
      exact within_refl _
    · obtain ⟨q, hq, _, ⟨z, hz⟩, hL, hn, _⟩ := h.led j (by omega) s y.1 y.2 hj
      rw [← hn]
      exact next_within (ih q hq _ _ hz) hL
theorem nodup_below : ∀ (m : Nat) (l : List Nat), l.Nodup → (∀ x ∈ l, x < m) → l.length ≤ m
  | 0, [], _, _ => Nat.le_refl _
  | 0, x :: l, _, h => absurd (h x List.mem_cons_self) (Nat.not_lt_zero _)
  | m + 1, l, hn, h => by
    by_cases hm : m ∈ l
    · have h1 := nodup_below m (l.erase m) (hn.erase m) (fun x hx => by
        have hx' := (List.Nodup.mem_erase_iff hn).1 hx
        have := h x hx'.2
        omega)
      rw [List.length_erase_of_mem hm] at h1
      omega
    · have := nodup_below m l hn (fun x hx => by
        have := h x hx
        have : x ≠ m := fun e => hm (e ▸ hx)
        omega)
      omega
theorem nodup_states (m : Nat) (l : List St) (hn : l.Nodup) (h : ∀ s ∈ l, s.1 < m) : l.length ≤ 2 * m := by
  have h1 := nodup_below (2 * m) (l.map fun s => 2 * s.1 + s.2.toNat) ?_ ?_
  · simpa using h1
  · unfold List.Nodup
    rw [List.pairwise_map]
    refine hn.imp ?_
    intro x y hne e
    apply hne
    obtain ⟨a, b⟩ := x
    obtain ⟨c, d⟩ := y
    have : b.toNat < 2 := by cases b <;> decide
    have : d.toNat < 2 := by cases d <;> decide
    simp only at e
    have h2 : a = c := by omega
    have h3 : b.toNat = d.toNat := by omega
    subst h2
    cases b <;> cases d <;> first | rfl | (simp at h3)
  · intro x hx
    obtain ⟨s, hs, rfl⟩ := List.mem_map.1 hx
    have := h s hs
    have : s.2.toNat < 2 := by cases s.2 <;> decide
    omega
theorem Inv.bound {g : List Nat} {seats : Nat} {frm : Led} {ds : List Nat} {i : Nat} (h : Inv g seats frm ds i) : frm.length ≤ 2 * 2 ^ g.length := by
  have := nodup_states (2 ^ g.length) (frm.map (·.1)) h.nodup (fun s hs => by
    obtain ⟨k, z, hk⟩ := mem_keys.1 hs
    exact Nat.lt_of_le_of_lt (h.within k s z hk).le (full_lt_pw _))
  simpa using this
end Go.Proofs.Ytfbobojpocnfeaa
