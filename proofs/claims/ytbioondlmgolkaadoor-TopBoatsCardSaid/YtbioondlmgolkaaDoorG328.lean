/- The program's fan: a walk. The program's newPaint: no hues. Graphs in plain text: the neighbours and the edges; the degree. Two sides of a graph, and the ring that closes, in plain text. The order of a graph and its cores, in plain text. -/
import Derived.Stop.RegionWithIn
import Derived.Deep.RegionHeld3
import Derived.Test.YtbioondlmgolkaaDoorHuFd
set_option linter.unusedVariables false
set_option linter.unusedSimpArgs false
namespace Go.Proofs.YtbioondlmgolkaaDoor.Hu
open Go.RowKit Go.Shelf
attribute [local go_sem] Oper.semAt_some shr_and1_u
theorem nodup_sub : ∀ (A L : List Nat), A.Nodup → (∀ x ∈ A, x ∈ L) → A.length ≤ L.length
  | [], _, _, _ => Nat.zero_le _
  | a :: A, L, hn, hs => by
    rw [List.nodup_cons] at hn
    have ha := hs a List.mem_cons_self
    have h1 := nodup_sub A (L.erase a) hn.2 fun x hx => (List.mem_erase_of_ne (fun e => hn.1 (by rw [← e]; exact hx))).2 (hs x (List.mem_cons_of_mem _ hx))
    rw [List.length_erase_of_mem ha] at h1
    have := List.length_pos_of_mem ha
    simp only [List.length_cons]; omega
end Go.Proofs.YtbioondlmgolkaaDoor.Hu
namespace Go.Proofs.YtbioondlmgolkaaDoor.Hu
open Go.RowKit Go.Shelf

def pr (q : Int × Int) : Nat × Nat := (q.1.toNat, q.2.toNat)
/-- the hues of the edges, in their order -/
def hl (col : Nat × Nat → Option Nat) (ps : List (Int × Int)) : List Value := ps.map fun q => .int .i64 (((col (pr q)).getD 0 : Nat) : Int)
end Go.Proofs.YtbioondlmgolkaaDoor.Hu
namespace Go.Proofs.YtbioondlmgolkaaDoor.Hu
open Go.RowKit

theorem bit_pw (k j : Nat) : (pw k).testBit j = decide (k = j) := by unfold pw; rw [Nat.testBit_two_pow]
theorem foldE_adj : ∀ (ps : List (Int × Int)) (g : List Nat), (∀ e ∈ ps, 0 ≤ e.1 ∧ e.1 < e.2 ∧ e.2 < (g.length : Int)) → ∀ v x : Nat,
    adj (ps.foldl (fun g e => addE g e.1.toNat e.2.toNat) g) v x ↔ adj g v x ∨ ∃ e ∈ ps, (e.1.toNat = v ∧ e.2.toNat = x) ∨ (e.1.toNat = x ∧ e.2.toNat = v)
  | [], g, _, v, x => by simp
  | e :: ps, g, hp, v, x => by
    have he := hp e List.mem_cons_self
    rw [List.foldl_cons, foldE_adj ps _ (fun e' he' => by rw [addE_length]; exact hp e' (List.mem_cons_of_mem _ he')) v x]
    have hadd : adj (addE g e.1.toNat e.2.toNat) v x ↔ adj g v x ∨ (e.1.toNat = v ∧ e.2.toNat = x) ∨ (e.1.toNat = x ∧ e.2.toNat = v) := by
      unfold adj
      rw [addE_at g _ _ v (by omega) (by omega) (by omega)]
      by_cases h1 : v = e.1.toNat
      · rw [if_pos h1, Nat.testBit_or, bit_pw, h1]
        simp only [Bool.or_eq_true, decide_eq_true_eq]
        constructor
        · rintro (h | h)
          · exact .inl h
          · exact .inr (.inl ⟨trivial, h⟩)
        · rintro (h | ⟨_, h⟩ | ⟨h2, h3⟩)
          · exact .inl h
          · exact .inr h
          · omega
      · rw [if_neg h1]
        by_cases h2 : v = e.2.toNat
        · rw [if_pos h2, Nat.testBit_or, bit_pw, h2]
          simp only [Bool.or_eq_true, decide_eq_true_eq]
          constructor
          · rintro (h | h)
            · exact .inl h
            · exact .inr (.inr ⟨h, trivial⟩)
          · rintro (h | ⟨h, _⟩ | ⟨h, _⟩)
            · exact .inl h
            · omega
            · exact .inr h
        · rw [if_neg h2]
          constructor
          · exact .inl
          · rintro (h | ⟨h, _⟩ | ⟨_, h⟩)
            · exact h
            · exact absurd h.symm h1
            · exact absurd h.symm h2
    rw [hadd]
    constructor
    · rintro ((h | h) | ⟨e', he', h⟩)
      · exact .inl h
      · exact .inr ⟨e, List.mem_cons_self, h⟩
      · exact .inr ⟨e', List.mem_cons_of_mem _ he', h⟩
    · rintro (h | ⟨e', he', h⟩)
      · exact .inl (.inl h)
      · rcases List.mem_cons.1 he' with rfl | he'
        · exact .inl (.inr h)
        · exact .inr ⟨e', he', h⟩
/-- neighbours are the ends of an edge -/
theorem adj_ofE {n : Nat} {ps : List (Int × Int)} (h : edgesB n ps = true) (v x : Nat) : adj (ofE n ps) v x ↔ ∃ e ∈ ps, (e.1.toNat = v ∧ e.2.toNat = x) ∨ (e.1.toNat = x ∧ e.2.toNat = v) := by
  unfold ofE
  rw [foldE_adj ps _ (fun e he => by simpa using edgesB_mem h e he)]
  have : ¬ adj (List.replicate n 0) v x := by
    unfold adj
    rw [List.getElem?_replicate]
    split <;> simp
  simp [this]
theorem adj_comm {n : Nat} {ps : List (Int × Int)} (h : edgesB n ps = true) {v x : Nat} : adj (ofE n ps) v x ↔ adj (ofE n ps) x v := by
  rw [adj_ofE h, adj_ofE h]
  constructor <;> (rintro ⟨e, he, h1 | h1⟩ <;> exact ⟨e, he, by omega⟩)
theorem adj_lt {n : Nat} {ps : List (Int × Int)} (h : edgesB n ps = true) {v x : Nat} (ha : adj (ofE n ps) v x) : v < n ∧ x < n ∧ v ≠ x := by
  obtain ⟨e, he, h1⟩ := (adj_ofE h v x).1 ha
  have := edgesB_mem h e he
  omega
end Go.Proofs.YtbioondlmgolkaaDoor.Hu
namespace Go.Proofs.YtbioondlmgolkaaDoor.Hu
open Go.RowKit

/-- edges join two different vertices, both ways -/
structure Und (g : List Nat) (n : Nat) : Prop where
  lt : ∀ x y, adj g x y → x < n ∧ y < n
  ne : ∀ x y, adj g x y → x ≠ y
  sym : ∀ x y, adj g x y → adj g y x
theorem und_ofE {n : Nat} {ps : List (Int × Int)} (h : edgesB n ps = true) : Und (ofE n ps) n :=
  ⟨fun _ _ ha => ⟨(adj_lt h ha).1, (adj_lt h ha).2.1⟩, fun _ _ ha => (adj_lt h ha).2.2, fun _ _ ha => (adj_comm h).1 ha⟩
theorem nodup_nth {l : List Nat} (h : ∀ i j, i < j → j < l.length → nth l i ≠ nth l j) : l.Nodup := by
  refine List.pairwise_iff_getElem.2 fun i j hi hj hij e => h i j hij hj ?_
  unfold nth; rw [List.getElem?_eq_getElem hi, List.getElem?_eq_getElem hj, e]
/-- the way from a vertex to its root -/
def wayF (fr : Nat → Option Nat) : Nat → Nat → List Nat
  | 0, _ => []
  | f + 1, x => x :: (match fr x with | none => [] | some y => wayF fr f y)
def way (lev : Nat → Nat) (fr : Nat → Option Nat) (x : Nat) : List Nat := wayF fr (lev x + 1) x
section
variable {g : List Nat} {n p q : Nat} {L : List Nat} {lev : Nat → Nat} {fr : Nat → Option Nat} {out : Nat}
end
end Go.Proofs.YtbioondlmgolkaaDoor.Hu
namespace Go.Proofs.YtbioondlmgolkaaDoor.Hu
open Go.RowKit

def wtn (g : List Nat) (v s : Nat) : Nat := size ((g[v]?.getD 0) &&& s)
/-- the last of the first k vertices of s that has the fewest edges to s -/
def bstK (g : List Nat) (s : Nat) : Nat → Option Nat
  | 0 => none
  | k + 1 => if s.testBit k = true ∧ (∀ b, bstK g s k = some b → wtn g k s ≤ wtn g b s) then some k else bstK g s k
def bst (g : List Nat) (n s : Nat) : Nat := (bstK g s n).getD 0
/-- what is left behind j steps -/
def lf (g : List Nat) (n : Nat) : Nat → Nat
  | 0 => full n
  | j + 1 => ldiff (lf g n j) (pw (bst g n (lf g n j)))
def pk (g : List Nat) (n j : Nat) : Nat := bst g n (lf g n j)
def loo (g : List Nat) (n : Nat) : Nat → Nat
  | 0 => 0
  | j + 1 => max (loo g n j) (wtn g (pk g n j) (lf g n j))
def ordL (g : List Nat) (n : Nat) : List Nat := ((List.range n).map (pk g n)).reverse
theorem bstK_spec {g : List Nat} {s : Nat} : ∀ (k : Nat), (∀ b, bstK g s k = some b → b < k ∧ s.testBit b = true ∧ (∀ v, v < k → s.testBit v = true → wtn g b s ≤ wtn g v s)) ∧ (bstK g s k = none → ∀ v, v < k → s.testBit v = false)
  | 0 => ⟨fun b h => (by cases h), fun _ v h => (by omega)⟩
  | k + 1 => by
    obtain ⟨h1, h2⟩ := bstK_spec (g := g) (s := s) k
    unfold bstK
    split
    · rename_i hc
      refine ⟨fun b hb => ?_, fun h => (by cases h)⟩
      cases hb
      refine ⟨by omega, hc.1, fun v hv hsv => ?_⟩
      by_cases hvk : v = k
      · subst hvk; exact Nat.le_refl _
      · cases hb : bstK g s k with
        | none => have := h2 hb v (by omega); rw [this] at hsv; cases hsv
        | some b => exact Nat.le_trans (hc.2 b hb) ((h1 b hb).2.2 v (by omega) hsv)
    · rename_i hc
      refine ⟨fun b hb => ?_, fun hb v hv => ?_⟩
      · obtain ⟨a1, a2, a3⟩ := h1 b hb
        refine ⟨by omega, a2, fun v hv hsv => ?_⟩
        by_cases hvk : v = k
        · subst hvk
          refine Nat.le_of_not_lt fun hlt => hc ⟨hsv, fun b' hb' => ?_⟩
          rw [hb] at hb'; cases hb'; omega
        · exact a3 v (by omega) hsv
      · by_cases hvk : v = k
        · subst hvk
          cases hs : s.testBit v with
          | false => rfl
          | true => exact absurd ⟨hs, fun b hb' => by rw [hb] at hb'; cases hb'⟩ hc
        · exact h2 hb v (by omega)
theorem bst_mem {g : List Nat} {n s : Nat} (h0 : s ≠ 0) (hl : ∀ x, s.testBit x = true → x < n) : bst g n s < n ∧ s.testBit (bst g n s) = true ∧ bstK g s n = some (bst g n s) ∧ ∀ v, s.testBit v = true → wtn g (bst g n s) s ≤ wtn g v s := by
  unfold bst
  cases h : bstK g s n with
  | none =>
    refine absurd (Nat.eq_of_testBit_eq fun i => ?_) h0
    rw [Nat.zero_testBit]
    by_cases hi : i < n
    · exact (bstK_spec n).2 h i hi
    · cases hb : s.testBit i with
      | false => rfl
      | true => exact absurd (hl i hb) hi
  | some b =>
    obtain ⟨h1, h2, h3⟩ := (bstK_spec n).1 b h
    exact ⟨h1, h2, rfl, fun v hv => h3 v (hl v hv) hv⟩
theorem lf_lt {g : List Nat} {n : Nat} : ∀ (j : Nat) {x : Nat}, (lf g n j).testBit x = true → x < n
  | 0, x, h => by unfold lf at h; rw [testBit_full] at h; simpa using h
  | j + 1, x, h => by
    unfold lf at h
    rw [testBit_ldiff, Bool.and_eq_true] at h
    exact lf_lt j h.1
theorem lf_card {g : List Nat} {n : Nat} : ∀ (j : Nat), j ≤ n → ((List.range n).filter (fun x => (lf g n j).testBit x)).length = n - j
  | 0, _ => by
    have : (List.range n).filter (fun x => (lf g n 0).testBit x) = List.range n := by
      rw [List.filter_eq_self]
      intro x hx
      unfold lf; rw [testBit_full]; simpa using hx
    rw [this]; simp
  | j + 1, hj => by
    have ih := lf_card (g := g) (n := n) j (by omega)
    have h0 : lf g n j ≠ 0 := fun e => by
      rw [e, List.filter_eq_nil_iff.2 (fun x _ => by simp)] at ih
      simp only [List.length_nil] at ih; omega
    obtain ⟨h1, h2, _, _⟩ := bst_mem (g := g) h0 (fun x hx => lf_lt j hx)
    have hb : bst g n (lf g n j) ∈ (List.range n).filter (fun x => (lf g n j).testBit x) := List.mem_filter.2 ⟨List.mem_range.2 h1, h2⟩
    have he : (List.range n).filter (fun x => (lf g n (j + 1)).testBit x) = ((List.range n).filter (fun x => (lf g n j).testBit x)).erase (bst g n (lf g n j)) := by
      rw [List.Nodup.erase_eq_filter (List.nodup_range.filter _), List.filter_filter]
      refine List.filter_congr fun x _ => ?_
      show (ldiff (lf g n j) (pw (bst g n (lf g n j)))).testBit x = _
      rw [testBit_ldiff, pw, Nat.testBit_two_pow]
      by_cases e : bst g n (lf g n j) = x
      · subst e; simp
      · have e' : x ≠ bst g n (lf g n j) := fun h => e h.symm
        simp [e, e']
    rw [he, List.length_erase_of_mem hb, ih]
    omega
theorem lf_zero {g : List Nat} {n j : Nat} (hj : j ≤ n) : lf g n j = 0 ↔ j = n := by
  have h := lf_card (g := g) j hj
  constructor
  · intro e
    rw [e, List.filter_eq_nil_iff.2 (fun x _ => by simp)] at h
    simp only [List.length_nil] at h; omega
  · rintro rfl
    apply Nat.eq_of_testBit_eq
    intro i
    rw [Nat.zero_testBit]
    cases hb : (lf g j j).testBit i with
    | false => rfl
    | true =>
      have : i ∈ (List.range j).filter (fun x => (lf g j j).testBit x) := List.mem_filter.2 ⟨List.mem_range.2 (lf_lt j hb), hb⟩
      have := List.length_pos_of_mem this
      omega
theorem pk_facts {g : List Nat} {n j : Nat} (hj : j < n) : pk g n j < n ∧ (lf g n j).testBit (pk g n j) = true ∧ bstK g (lf g n j) n = some (pk g n j) ∧ ∀ v, (lf g n j).testBit v = true → wtn g (pk g n j) (lf g n j) ≤ wtn g v (lf g n j) :=
  bst_mem (fun e => by have := (lf_zero (g := g) (Nat.le_of_lt hj)).1 e; omega) (fun x hx => lf_lt j hx)
end Go.Proofs.YtbioondlmgolkaaDoor.Hu
