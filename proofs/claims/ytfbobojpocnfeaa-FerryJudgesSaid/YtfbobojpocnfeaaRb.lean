/- Plain text: the reference's search in breadth. -/
import Derived.Test.YtfbobojpocnfeaaPe
namespace Go.Proofs.Ytfbobojpocnfeaa
open Go.RowKit

/-- what holds when the first i states have been looked at -/
structure RInv (g : List Nat) (seats : Int) (L : List St) (D : List Nat) (i : Nat) : Prop where
  len : D.length = L.length
  le : i ≤ L.length
  first : L[0]? = some (start g)
  d0 : D[0]? = some 0
  nodup : L.Nodup
  inb : ∀ s ∈ L, Within s.1 (full g.length)
  path : ∀ (j : Nat) (s : St), L[j]? = some s → ∃ ps, isPath g seats.toNat (start g) ps s ∧ ps.length = D[j]?.getD 0
  mono : ∀ j k : Nat, j ≤ k → k < L.length → D[j]?.getD 0 ≤ D[k]?.getD 0
  near : ∀ j : Nat, j < L.length → i < L.length → D[j]?.getD 0 ≤ D[i]?.getD 0 + 1
  done : ∀ q : Nat, q < i → ∀ s, L[q]? = some s → ∀ p, Legal g seats.toNat s p → ∃ k : Nat, L[k]? = some (next s p) ∧ D[k]?.getD 0 ≤ D[q]?.getD 0 + 1
  nog : ∀ q : Nat, q < i → ∀ s, L[q]? = some s → s ≠ goal
  dle : ∀ j : Nat, j < L.length → D[j]?.getD 0 ≤ j
theorem RInv.start (g : List Nat) (seats : Int) : RInv g seats [start g] [0] 0 where
  len := rfl
  le := Nat.zero_le _
  first := rfl
  d0 := rfl
  nodup := by simp
  inb := fun s hs => by rw [List.mem_singleton] at hs; subst hs; exact within_refl _
  path := fun j s h => by
    cases j with
    | zero => simp at h; subst h; exact ⟨[], rfl, rfl⟩
    | succ j => simp at h
  mono := fun j k hjk hk => by simp at hk; subst hk; simp at hjk; subst hjk; exact Nat.le_refl _
  near := fun j hj _ => by simp at hj; subst hj; simp
  done := fun q hq => by omega
  nog := fun q hq => by omega
  dle := fun j hj => by simp at hj; subst hj; simp
theorem RInv.reach {g : List Nat} {seats : Int} {L : List St} {D : List Nat} {i : Nat} (h : RInv g seats L D i) : ∀ (n : Nat) (ps : List Nat) (t : St), ps.length = n → isPath g seats.toNat (Ytfbobojpocnfeaa.start g) ps t → (i < L.length → ps.length ≤ D[i]?.getD 0) →
    ∃ k : Nat, L[k]? = some t ∧ D[k]?.getD 0 ≤ ps.length := by
  intro n
  induction n with
  | zero =>
    intro ps t hn hp _
    have : ps = [] := List.eq_nil_of_length_eq_zero hn
    subst this
    cases hp
    exact ⟨0, h.first, by rw [h.d0]; exact Nat.le_refl _⟩
  | succ n ih =>
    intro ps t hn hp hb
    have hne : ps ≠ [] := by rintro rfl; simp at hn
    obtain ⟨qs, p, rfl⟩ : ∃ qs p, ps = qs ++ [p] := ⟨ps.dropLast, ps.getLast hne, (List.dropLast_concat_getLast hne).symm⟩
    rw [List.length_append, List.length_singleton] at hn hb ⊢
    obtain ⟨u, h1, h2, h3⟩ := isPath_snoc hp
    obtain ⟨k, hk, hd⟩ := ih qs u (by omega) h1 (fun hi => by have := hb hi; omega)
    have hkl : k < L.length := (List.getElem?_eq_some_iff.1 hk).1
    by_cases hki : k < i
    · obtain ⟨k', hk', hd'⟩ := h.done k hki u hk p h2
      exact ⟨k', by rw [hk', h3], by omega⟩
    · have := h.mono i k (by omega) hkl
      have := hb (by omega)
      omega
/-- while the i-th state is looked at: the sets below x have been tried -/
structure RMid (g : List Nat) (seats : Int) (L : List St) (D : List Nat) (i x : Nat) (s : St) : Prop where
  inv : RInv g seats L D i
  lt : i < L.length
  at' : L[i]? = some s
  ng : s ≠ goal
  some' : ∀ p, p < x → Legal g seats.toNat s p → ∃ k : Nat, L[k]? = some (next s p) ∧ D[k]?.getD 0 ≤ D[i]?.getD 0 + 1
theorem RMid.start {g : List Nat} {seats : Int} {L : List St} {D : List Nat} {i : Nat} {s : St} (h : RInv g seats L D i) (hs : L[i]? = some s) (hne : s ≠ goal) : RMid g seats L D i 0 s :=
  ⟨h, (List.getElem?_eq_some_iff.1 hs).1, hs, hne, fun p hp => by omega⟩
theorem RMid.skip {g : List Nat} {seats : Int} {L : List St} {D : List Nat} {i x : Nat} {s : St} (h : RMid g seats L D i x s) (hn : ¬ Legal g seats.toNat s x) : RMid g seats L D i (x + 1) s :=
  ⟨h.inv, h.lt, h.at', h.ng, fun p hp hL => by
    by_cases e : p = x
    · subst e; exact absurd hL hn
    · exact h.some' p (by omega) hL⟩
theorem RMid.old {g : List Nat} {seats : Int} {L : List St} {D : List Nat} {i x : Nat} {s : St} (h : RMid g seats L D i x s) (hm : next s x ∈ L) : RMid g seats L D i (x + 1) s :=
  ⟨h.inv, h.lt, h.at', h.ng, fun p hp hL => by
    by_cases e : p = x
    · subst e
      obtain ⟨k, hk⟩ := List.getElem?_of_mem hm
      exact ⟨k, hk, h.inv.near k (List.getElem?_eq_some_iff.1 hk).1 h.lt⟩
    · exact h.some' p (by omega) hL⟩
theorem get_app {α : Type} {l : List α} {x y : α} {j : Nat} (h : (l ++ [x])[j]? = some y) : (j < l.length ∧ l[j]? = some y) ∨ (j = l.length ∧ y = x) := by
  by_cases hj : j < l.length
  · rw [List.getElem?_append_left hj] at h; exact .inl ⟨hj, h⟩
  · rw [List.getElem?_append_right (by omega)] at h
    have : j - l.length = 0 := by
      apply Classical.byContradiction
      intro hc
      rw [List.getElem?_eq_none (by simp; omega)] at h
      cases h
    rw [this] at h
    simp at h
    exact .inr ⟨by omega, h.symm⟩
theorem RMid.new {g : List Nat} {seats : Int} {L : List St} {D : List Nat} {i x : Nat} {s : St} (h : RMid g seats L D i x s) (hL : Legal g seats.toNat s x) (hm : next s x ∉ L) : RMid g seats (L ++ [next s x]) (D ++ [D[i]?.getD 0 + 1]) i (x + 1) s := by
  obtain ⟨inv, lt, hat, ng, hs⟩ := h
  have hlen := inv.len
  have dl : ∀ j, j < L.length → (D ++ [D[i]?.getD 0 + 1])[j]?.getD 0 = D[j]?.getD 0 := fun j hj => by rw [List.getElem?_append_left (by omega)]
  have dn : (D ++ [D[i]?.getD 0 + 1])[L.length]?.getD 0 = D[i]?.getD 0 + 1 := by rw [← hlen]; simp
  have ll : ∀ {j : Nat} {t : St}, L[j]? = some t → (L ++ [next s x])[j]? = some t := fun {j t} hj => by rw [List.getElem?_append_left (List.getElem?_eq_some_iff.1 hj).1]; exact hj
  have hsw : Within s.1 (full g.length) := inv.inb s (List.mem_of_getElem? hat)
  refine ⟨⟨by simp [hlen], by rw [List.length_append]; have := inv.le; omega, ll inv.first, ?_, ?_, ?_, ?_, ?_, ?_, ?_, ?_, ?_⟩, by rw [List.length_append]; omega, ll hat, ng, ?_⟩
  · have : 0 < D.length := by rw [hlen]; omega
    rw [List.getElem?_append_left this]; exact inv.d0
  · rw [List.nodup_append]
    exact ⟨inv.nodup, by simp, fun a ha b hb e => by rw [List.mem_singleton] at hb; subst hb; exact hm (by rw [← e]; exact ha)⟩
  · intro t ht
    rcases List.mem_append.1 ht with ht | ht
    · exact inv.inb t ht
    · rw [List.mem_singleton] at ht; subst ht
      exact next_within hsw hL
  · intro j t hj
    rcases get_app hj with ⟨h1, h2⟩ | ⟨rfl, rfl⟩
    · rw [dl j h1]; exact inv.path j t h2
    · obtain ⟨ps, hp, hpl⟩ := inv.path i s hat
      exact ⟨ps ++ [x], isPath_append hp ⟨hL, rfl⟩, by rw [dn, List.length_append, hpl]; rfl⟩
  · intro j k hjk hk
    rw [List.length_append, List.length_singleton] at hk
    by_cases e : k = L.length
    · subst e
      rw [dn]
      by_cases e2 : j = L.length
      · subst e2; rw [dn]; exact Nat.le_refl _
      · rw [dl j (by omega)]; exact inv.near j (by omega) lt
    · rw [dl j (by omega), dl k (by omega)]; exact inv.mono j k hjk (by omega)
  · intro j hj _
    rw [List.length_append, List.length_singleton] at hj
    rw [dl i lt]
    by_cases e : j = L.length
    · subst e; rw [dn]; exact Nat.le_refl _
    · rw [dl j (by omega)]; exact inv.near j (by omega) lt
  · intro q hq t ht p hp
    rcases get_app ht with ⟨h1, h2⟩ | ⟨rfl, rfl⟩
    · obtain ⟨k, hk, hd⟩ := inv.done q hq t h2 p hp
      exact ⟨k, ll hk, by rw [dl k (List.getElem?_eq_some_iff.1 hk).1, dl q h1]; exact hd⟩
    · omega
  · intro q hq t ht
    rcases get_app ht with ⟨h1, h2⟩ | ⟨rfl, rfl⟩
    · exact inv.nog q hq t h2
    · omega
  · intro j hj
    rw [List.length_append, List.length_singleton] at hj
    by_cases e : j = L.length
    · subst e; rw [dn]; have := inv.dle i lt; omega
    · rw [dl j (by omega)]; exact inv.dle j (by omega)
  · intro p hp hLp
    by_cases e : p = x
    · subst e
      exact ⟨L.length, by simp, by rw [dn, dl i lt]; exact Nat.le_refl _⟩
    · obtain ⟨k, hk, hd⟩ := hs p (by omega) hLp
      exact ⟨k, ll hk, by rw [dl k (List.getElem?_eq_some_iff.1 hk).1, dl i lt]; exact hd⟩
theorem RMid.finish {g : List Nat} {seats : Int} {L : List St} {D : List Nat} {i : Nat} {s : St} (h : RMid g seats L D i (full g.length + 1) s) : RInv g seats L D (i + 1) := by
  obtain ⟨inv, lt, hat, ng, hs⟩ := h
  have hsw : Within s.1 (full g.length) := inv.inb s (List.mem_of_getElem? hat)
  refine ⟨inv.len, lt, inv.first, inv.d0, inv.nodup, inv.inb, inv.path, inv.mono, fun j hj hi => ?_, fun q hq t ht p hp => ?_, fun q hq t ht => ?_, inv.dle⟩
  · have h1 := inv.near j hj lt
    have h2 := inv.mono i (i + 1) (by omega) hi
    omega
  · by_cases e : q = i
    · subst e
      rw [hat] at ht
      cases ht
      have : p ≤ full g.length := (hp.1.trans (bank_within hsw)).le
      exact hs p (by omega) hp
    · exact inv.done q (by omega) t ht p hp
  · by_cases e : q = i
    · subst e
      rw [hat] at ht
      cases ht
      exact ng
    · exact inv.nog q (by omega) t ht
/-- what the reference says of the trips -/
def TripsR (g : List Nat) (seats : Int) (r : Int) : Prop :=
  (r = -1 ∧ ∀ qs, ¬ isPath g seats.toNat (start g) qs goal) ∨ ∃ ps : List Nat, r = (ps.length : Int) ∧ isPath g seats.toNat (start g) ps goal ∧ ∀ qs, isPath g seats.toNat (start g) qs goal → ps.length ≤ qs.length
theorem RInv.none {g : List Nat} {seats : Int} {L : List St} {D : List Nat} (h : RInv g seats L D L.length) : TripsR g seats (-1) := .inl ⟨rfl, fun qs hq => by
  obtain ⟨k, hk, _⟩ := h.reach qs.length qs goal rfl hq (fun hi => by omega)
  exact h.nog k (List.getElem?_eq_some_iff.1 hk).1 goal hk rfl⟩
theorem RInv.found {g : List Nat} {seats : Int} {L : List St} {D : List Nat} {i : Nat} (h : RInv g seats L D i) (hi : L[i]? = some goal) : TripsR g seats ((D[i]?.getD 0 : Nat) : Int) := by
  obtain ⟨ps, hp, hpl⟩ := h.path i goal hi
  refine .inr ⟨ps, by rw [hpl], hp, fun qs hq => ?_⟩
  apply Classical.byContradiction
  intro hc
  obtain ⟨k, hk, hd⟩ := h.reach qs.length qs goal rfl hq (fun _ => by omega)
  have : k = i := by
    have h1 := (List.getElem?_eq_some_iff.1 hk)
    have h2 := (List.getElem?_eq_some_iff.1 hi)
    exact (List.getElem_inj h.nodup).1 (h1.2.trans h2.2.symm)
  subst this
  omega
theorem RInv.bound {g : List Nat} {seats : Int} {L : List St} {D : List Nat} {i : Nat} (h : RInv g seats L D i) : L.length ≤ 2 * (full g.length + 1) :=
  nodup_states (full g.length + 1) L h.nodup (fun s hs => by have := (h.inb s hs).le; omega)
/-- the number of a state -/
def code (f : Nat) (s : St) : Nat := s.1 + if s.2 then f + 1 else 0
theorem code_inj {f : Nat} {s t : St} (hs : s.1 ≤ f) (ht : t.1 ≤ f) (h : code f s = code f t) : s = t := by
  obtain ⟨a, b⟩ := s
  obtain ⟨c, d⟩ := t
  unfold code at h
  cases b <;> cases d <;> simp at h hs ht ⊢ <;> omega
theorem code_lt {f : Nat} {s : St} (hs : s.1 ≤ f) : code f s < 2 * (f + 1) := by
  unfold code; split <;> omega
end Go.Proofs.Ytfbobojpocnfeaa
