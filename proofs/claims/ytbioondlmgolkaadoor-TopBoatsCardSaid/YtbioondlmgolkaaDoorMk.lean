/- Maps that the call makes, read as functions: what a look-up, a store and a delete do. -/
import Derived.Maps.OwnIn
import Derived.Test.YtbioondlmgolkaaDoorRg
set_option linter.unusedVariables false
set_option linter.unusedSimpArgs false
namespace Go.Proofs.YtbioondlmgolkaaDoor
open Go.RowKit

/-- how keys and elements of one type of maps stand in memory -/
structure MapKind (P : Program) (T K E : TypeId) {α β : Type} [DecidableEq α] (kv : α → Value) (vv : β → Value) (z : β) : Prop where
  ut : P.underlying T = some (.map K E)
  find : ∀ (a : α) (ks : List α) (es : List MapEntry) (w : World), es.map (fun e => e.key) = ks.map kv → (Instr.findKey K (kv a) es).run P w = .ok ((ks.findIdx? (fun k => decide (a = k))).map fun j => (j, ((es[j]?).map (fun e => e.val)).getD undef)) w
  ck : ∀ (a : α) (e : Bool) (w : World), (Instr.checkKey e 10000 K (kv a)).run P w = .ok () w
  zero : ∀ w, (zeroValue E).run P w = .ok (vv z) w
  bits : ∀ a, Instr.sameBits 10000 (kv a) (kv a) = true
theorem find_asking {P : Program} {K : TypeId} {α : Type} [DecidableEq α] {kv : α → Value} (heq : ∀ (a b : α) (w : World), (Op.equal K (kv a) (kv b)).run P w = .ok (decide (a = b)) w) (a : α) (w : World) : ∀ (ks : List α) (es : List MapEntry) (i : Nat), es.map (fun e => e.key) = ks.map kv →
    (Instr.findAsking K (kv a) es i).run P w = .ok ((ks.findIdx? (fun k => decide (a = k))).map fun j => (i + j, ((es[j]?).map (fun e => e.val)).getD undef)) w
  | [], [], i, _ => by simp [Instr.findAsking]
  | [], e :: es, i, h => by cases h
  | k :: ks, [], i, h => by cases h
  | k :: ks, e :: es, i, h => by
    simp only [List.map_cons, List.cons.injEq] at h
    simp only [Instr.findAsking, Sem.run_bind, h.1, heq, Result.andThen_ok]
    by_cases e' : a = k
    · simp [e', List.findIdx?_cons]
    · have ih := find_asking heq a w ks es (i + 1) h.2
      simp only [e', decide_false, Bool.false_eq_true, if_false, ih, List.findIdx?_cons]
      cases ks.findIdx? (fun k => decide (a = k)) with
      | none => rfl
      | some j => simp; omega
theorem find_agg {P : Program} {K : TypeId} {u : TypeDesc} {α : Type} [DecidableEq α] {kv : α → Value} (hu : P.underlying K = some u) (hagg : ∀ a, ∃ xs, kv a = .agg xs) (heq : ∀ (a b : α) (w : World), (Op.equal K (kv a) (kv b)).run P w = .ok (decide (a = b)) w)
    (a : α) (ks : List α) (es : List MapEntry) (w : World) (h : es.map (fun e => e.key) = ks.map kv) : (Instr.findKey K (kv a) es).run P w = .ok ((ks.findIdx? (fun k => decide (a = k))).map fun j => (j, ((es[j]?).map (fun e => e.val)).getD undef)) w := by
  unfold Instr.findKey
  simp only [Sem.run_bind, run_underlying hu, Result.andThen_ok]
  cases es with
  | nil =>
    have : ks = [] := by cases ks with
      | nil => rfl
      | cons => cases h
    subst this
    simp [Instr.findNow]
  | cons e es =>
    obtain ⟨xs, hxs⟩ := hagg a
    have hn : Instr.findNow u (kv a) (e :: es) 0 = none := by
      have : Instr.sameNow u (kv a) e.key = none := by rw [hxs]; cases u <;> rfl
      simp [Instr.findNow, this]
    rw [hn]
    have := find_asking heq a w ks (e :: es) 0 h
    simp only [Nat.zero_add] at this
    exact this
/-- a list of pairs as a function -/
def asFun {α β : Type} [DecidableEq α] (l : List (α × β)) (a : α) : Option β := (l.find? (fun e => decide (a = e.1))).map (·.2)
def MapL {α β : Type} (kv : α → Value) (vv : β → Value) (W : World) (M : Nat) (l : List (α × β)) : Prop :=
  ∃ es clock, W.heap[M]? = some (.map es clock) ∧ es.toList.map (fun e => e.key) = (l.map (·.1)).map kv ∧ es.toList.map (fun e => e.val) = (l.map (·.2)).map vv
def MapF {α β : Type} [DecidableEq α] (kv : α → Value) (vv : β → Value) (W : World) (M : Nat) (col : α → Option β) : Prop := ∃ l, MapL kv vv W M l ∧ (l.map (·.1)).Nodup ∧ ∀ a, asFun l a = col a
theorem MapL.lt {α β : Type} {kv : α → Value} {vv : β → Value} {W : World} {M : Nat} {l : List (α × β)} (h : MapL kv vv W M l) : M < W.heap.size := by
  obtain ⟨es, clock, hb, _⟩ := h
  exact (Array.getElem?_eq_some_iff.1 hb).1
section
variable {P : Program} {T K E : TypeId} {α β : Type} [DecidableEq α] {kv : α → Value} {vv : β → Value} {z : β}
theorem MapF.lt {W : World} {M : Nat} {col : α → Option β} (h : MapF kv vv W M col) : M < W.heap.size := h.elim fun _ h => h.1.lt
theorem MapF.kept {W W' : World} {M : Nat} {col : α → Option β} (h : MapF kv vv W M col) (hb : W'.heap[M]? = W.heap[M]?) : MapF kv vv W' M col := by
  obtain ⟨l, ⟨es, clock, h1, h2⟩, h3⟩ := h
  exact ⟨l, ⟨es, clock, hb.trans h1, h2⟩, h3⟩
theorem MapF.below {n : Nat} {W W' : World} {M : Nat} {col : α → Option β} (h : MapF kv vv W M col) (hB : Below n W W') (hn : M < n) : MapF kv vv W' M col := h.kept (hB.block M hn)
theorem MapF.grown {W W' : World} {row : Option Nat} {M : Nat} {col : α → Option β} (h : MapF kv vv W M col) (hg : W.grownBy W' row) (hne : some M ≠ row) : MapF kv vv W' M col := h.kept (hg.block M h.lt hne)
theorem MapF.made (w : World) : MapF kv vv (w.alloc (.map #[] 0)) w.heap.size (fun _ => none) := ⟨[], ⟨#[], 0, World.alloc_heap_new w _, rfl, rfl⟩, List.nodup_nil, fun _ => rfl⟩
theorem MapF.congr {W : World} {M : Nat} {c c' : α → Option β} (h : MapF kv vv W M c) (e : ∀ a, c a = c' a) : MapF kv vv W M c' := by
  obtain ⟨l, h1, h2, h3⟩ := h
  exact ⟨l, h1, h2, fun a => (h3 a).trans (e a)⟩
theorem asFun_idx (l : List (α × β)) (a : α) : asFun l a = ((l.map (·.1)).findIdx? (fun k => decide (a = k))).bind fun j => (l[j]?).map (·.2) := by
  induction l with
  | nil => rfl
  | cons e l ih =>
    unfold asFun at *
    simp only [List.find?_cons, List.map_cons, List.findIdx?_cons]
    by_cases h : a = e.1
    · simp [h]
    · simp only [h, decide_false, Bool.false_eq_true, if_false]
      rw [ih]
      cases (l.map (·.1)).findIdx? (fun k => decide (a = k)) with
      | none => rfl
      | some j => simp
theorem look_f (hk : MapKind P T K E kv vv z) (c : Bool) (a : α) (w : World) (M : Nat) (col : α → Option β) (h : MapF kv vv w M col) :
    (Instr.lookup T (.map (some M)) (kv a) c).run P w = .ok (if c then .tuple #[vv ((col a).getD z), .bool (col a).isSome] else vv ((col a).getD z)) w := by
  obtain ⟨l, ⟨es, clock, hb, h1, h2⟩, _, h4⟩ := h
  have hf := hk.find a _ es.toList w h1
  have h5 := h4 a
  rw [asFun_idx] at h5
  rw [← h5]
  unfold Instr.lookup
  simp only [Sem.run_bind, run_underlying hk.ut, Result.andThen_ok, getObj, Sem.run, hb, hk.ck, hf, Sem.run_pure]
  cases hj : (l.map (·.1)).findIdx? (fun k => decide (a = k)) with
  | none =>
    simp [Sem.run_bind, hk.zero, Result.andThen_ok]
  | some j =>
    have hlt : j < l.length := by have := (List.findIdx?_eq_some_iff_findIdx_eq.1 hj).1; simpa using this
    have hv : (es.toList.map (fun e => e.val))[j]? = some (vv (l[j]).2) := by rw [h2]; simp [List.getElem?_eq_getElem hlt]
    rw [List.getElem?_map] at hv
    simp [List.getElem?_eq_getElem hlt]
    rw [Array.getElem?_toList] at hv
    cases he : es[j]? with
    | none => rw [he] at hv; cases hv
    | some e =>
      rw [he] at hv
      simp at hv
      simp [hv]
/-- the function with one value set -/
def setF (col : α → Option β) (a : α) (b : Option β) (x : α) : Option β := if x = a then b else col x
theorem asFun_append (l : List (α × β)) (a : α) (b : β) (hno : (l.map (·.1)).findIdx? (fun k => decide (a = k)) = none) (x : α) : asFun (l ++ [(a, b)]) x = setF (asFun l) a (some b) x := by
  have hn : asFun l a = none := by rw [asFun_idx, hno]; rfl
  unfold setF asFun at *
  rw [List.find?_append]
  by_cases h : x = a
  · subst h
    have : l.find? (fun e => decide (x = e.1)) = none := by simpa using hn
    rw [this]; simp
  · rw [if_neg h]
    cases l.find? (fun e => decide (x = e.1)) with
    | none => simp [h]
    | some e => simp
theorem asFun_modify (l : List (α × β)) (a : α) (b : β) (hnd : (l.map (·.1)).Nodup) (j : Nat) (hj : (l.map (·.1)).findIdx? (fun k => decide (a = k)) = some j) (x : α) : asFun (l.modify j fun _ => (a, b)) x = setF (asFun l) a (some b) x := by
  induction l generalizing j with
  | nil => cases hj
  | cons e l ih =>
    simp only [List.map_cons, List.findIdx?_cons] at hj
    by_cases h : a = e.1
    · simp only [h, decide_true, if_true] at hj
      cases hj
      unfold setF asFun
      rw [List.modify_zero_cons, List.find?_cons, List.find?_cons]
      by_cases hx : x = a
      · subst hx; simp
      · have : ¬ x = e.1 := by rw [← h]; exact hx
        simp [hx, this]
    · simp only [h, decide_false, Bool.false_eq_true, if_false] at hj
      cases hj' : (l.map (·.1)).findIdx? (fun k => decide (a = k)) with
      | none => rw [hj'] at hj; cases hj
      | some j' =>
        rw [hj'] at hj
        obtain rfl : j' + 1 = j := by simpa using hj
        have := ih (List.nodup_cons.1 hnd).2 j' hj'
        unfold setF asFun at *
        rw [List.modify_succ_cons, List.find?_cons, List.find?_cons]
        by_cases hx : x = e.1
        · have : ¬ x = a := fun e' => h (by rw [← e', hx])
          simp [hx, this]
          intro e'; exact absurd e'.symm h
        · simp only [hx, decide_false]
          exact this
theorem keys_modify (l : List (α × β)) (a : α) (b : β) (j : Nat) (hj : (l.map (·.1)).findIdx? (fun k => decide (a = k)) = some j) : (l.modify j fun _ => (a, b)).map (·.1) = l.map (·.1) := by
  induction l generalizing j with
  | nil => cases hj
  | cons e l ih =>
    simp only [List.map_cons, List.findIdx?_cons] at hj
    by_cases h : a = e.1
    · simp only [h, decide_true, if_true] at hj
      cases hj
      simp [h]
    · simp only [h, decide_false, Bool.false_eq_true, if_false] at hj
      cases hj' : (l.map (·.1)).findIdx? (fun k => decide (a = k)) with
      | none => rw [hj'] at hj; cases hj
      | some j' =>
        rw [hj'] at hj
        obtain rfl : j' + 1 = j := by simpa using hj
        rw [List.modify_succ_cons, List.map_cons, ih j' hj', List.map_cons]
end
end Go.Proofs.YtbioondlmgolkaaDoor
