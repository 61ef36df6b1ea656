/- Maps that the call makes, read as functions: what a look-up, a store and a delete do. -/
import Derived.Maps.OwnIn
import Derived.Test.YtocnhikohfkcaaaRg
set_option linter.unusedVariables false
set_option linter.unusedSimpArgs false
namespace Go.Proofs.Ytocnhikohfkcaaa
open Go.RowKit

/-- how keys and elements of one type of maps stand in memory -/
structure MapKind (P : Program) (T K E : TypeId) {α β : Type} [DecidableEq α] (kv : α → Value) (vv : β → Value) (z : β) : Prop where
  ut : P.underlying T = some (.map K E)
  find : ∀ (a : α) (ks : List α) (es : List MapEntry) (w : World), es.map (fun e => e.key) = ks.map kv → (Instr.findKey K (kv a) es).run P w = .ok ((ks.findIdx? (fun k => decide (a = k))).map fun j => (j, ((es[j]?).map (fun e => e.val)).getD undef)) w
  ck : ∀ (a : α) (e : Bool) (w : World), (Instr.checkKey e 10000 K (kv a)).run P w = .ok () w
  zero : ∀ w, (zeroValue E).run P w = .ok (vv z) w
  bits : ∀ a, Instr.sameBits 10000 (kv a) (kv a) = true
theorem find_asking {P : Program} {K : TypeId} {α : Type} [DecidableEq α] {kv : α → Value} (heq : ∀ (a b : α) (w : World), (Op.equal K (kv a) (kv b)).run P w = .ok (decide (a = b)) w) (a : α) (w : World) : ∀ (ks : List α) (es : List MapEntry) (i : Nat), es.map (fun e => e.key) = ks.map kv →
    (Instr.findAsking K (kv a) es i).run P w = .ok ((ks.findIdx? (fun k => decide (a = k))).map fun j => (i + j, ((es[j]?).map (fun e => e.val)).getD undef)) w
  | [], [], i, _ => by simp [Instr.findAsking]
  | [], e :: es, i, h => by cases h
  | k :: ks, [], i, h => by cases h
  | k :: ks, e :: es, i, h => by
    simp only [List.map_cons, List.cons.injEq] at h
    simp only [Instr.findAsking, Sem.run_bind, h.1, heq, Result.andThen_ok]
    by_cases e' : a = k
    · simp [e', List.findIdx?_cons]
    · have ih := find_asking heq a w ks es (i + 1) h.2
      simp only [e', decide_false, Bool.false_eq_true, if_false, ih, List.findIdx?_cons]
      cases ks.findIdx? (fun k => decide (a = k)) with
      | none => rfl
      | some j => simp; omega
theorem find_agg {P : Program} {K : TypeId} {u : TypeDesc} {α : Type} [DecidableEq α] {kv : α → Value} (hu : P.underlying K = some u) (hagg : ∀ a, ∃ xs, kv a = .agg xs) (heq : ∀ (a b : α) (w : World), (Op.equal K (kv a) (kv b)).run P w = .ok (decide (a = b)) w)
    (a : α) (ks : List α) (es : List MapEntry) (w : World) (h : es.map (fun e => e.key) = ks.map kv) : (Instr.findKey K (kv a) es).run P w = .ok ((ks.findIdx? (fun k => decide (a = k))).map fun j => (j, ((es[j]?).map (fun e => e.val)).getD undef)) w := by
  unfold Instr.findKey
  simp only [Sem.run_bind, run_underlying hu, Result.andThen_ok]
  cases es with
  | nil =>
    have : ks = [] := by cases ks with
      | nil => rfl
      | cons => cases h
    subst this
    simp [Instr.findNow]
  | cons e es =>
    obtain ⟨xs, hxs⟩ := hagg a
    have hn : Instr.findNow u (kv a) (e :: es) 0 = none := by
      have : Instr.sameNow u (kv a) e.key = none := by rw [hxs]; cases u <;> rfl
      simp [Instr.findNow, this]
    rw [hn]
    have := find_asking heq a w ks (e :: es) 0 h
    simp only [Nat.zero_add] at this
    exact this
/-- a list of pairs as a function -/
def asFun {α β : Type} [DecidableEq α] (l : List (α × β)) (a : α) : Option β := (l.find? (fun e => decide (a = e.1))).map (·.2)
def MapL {α β : Type} (kv : α → Value) (vv : β → Value) (W : World) (M : Nat) (l : List (α × β)) : Prop :=
  ∃ es clock, W.heap[M]? = some (.map es clock) ∧ es.toList.map (fun e => e.key) = (l.map (·.1)).map kv ∧ es.toList.map (fun e => e.val) = (l.map (·.2)).map vv
def MapF {α β : Type} [DecidableEq α] (kv : α → Value) (vv : β → Value) (W : World) (M : Nat) (col : α → Option β) : Prop := ∃ l, MapL kv vv W M l ∧ (l.map (·.1)).Nodup ∧ ∀ a, asFun l a = col a
theorem map_erase {α β : Type} (f : α → β) : ∀ (l : List α) (j : Nat), (l.eraseIdx j).map f = (l.map f).eraseIdx j
  | [], _ => rfl
  | _ :: _, 0 => rfl
  | x :: l, j + 1 => by rw [List.eraseIdx_cons_succ, List.map_cons, map_erase f l j, List.map_cons, List.eraseIdx_cons_succ]
theorem MapL.lt {α β : Type} {kv : α → Value} {vv : β → Value} {W : World} {M : Nat} {l : List (α × β)} (h : MapL kv vv W M l) : M < W.heap.size := by
  obtain ⟨es, clock, hb, _⟩ := h
  exact (Array.getElem?_eq_some_iff.1 hb).1
section
variable {P : Program} {T K E : TypeId} {α β : Type} [DecidableEq α] {kv : α → Value} {vv : β → Value} {z : β}
theorem MapF.lt {W : World} {M : Nat} {col : α → Option β} (h : MapF kv vv W M col) : M < W.heap.size := h.elim fun _ h => h.1.lt
theorem MapF.kept {W W' : World} {M : Nat} {col : α → Option β} (h : MapF kv vv W M col) (hb : W'.heap[M]? = W.heap[M]?) : MapF kv vv W' M col := by
  obtain ⟨l, ⟨es, clock, h1, h2⟩, h3⟩ := h
  exact ⟨l, ⟨es, clock, hb.trans h1, h2⟩, h3⟩
theorem MapF.below {n : Nat} {W W' : World} {M : Nat} {col : α → Option β} (h : MapF kv vv W M col) (hB : Below n W W') (hn : M < n) : MapF kv vv W' M col := h.kept (hB.block M hn)
theorem MapF.grown {W W' : World} {row : Option Nat} {M : Nat} {col : α → Option β} (h : MapF kv vv W M col) (hg : W.grownBy W' row) (hne : some M ≠ row) : MapF kv vv W' M col := h.kept (hg.block M h.lt hne)
theorem MapF.made (w : World) : MapF kv vv (w.alloc (.map #[] 0)) w.heap.size (fun _ => none) := ⟨[], ⟨#[], 0, World.alloc_heap_new w _, rfl, rfl⟩, List.nodup_nil, fun _ => rfl⟩
theorem MapF.congr {W : World} {M : Nat} {c c' : α → Option β} (h : MapF kv vv W M c) (e : ∀ a, c a = c' a) : MapF kv vv W M c' := by
  obtain ⟨l, h1, h2, h3⟩ := h
  exact ⟨l, h1, h2, fun a => (h3 a).trans (e a)⟩
theorem asFun_idx (l : List (α × β)) (a : α) : asFun l a = ((l.map (·.1)).findIdx? (fun k => decide (a = k))).bind fun j => (l[j]?).map (·.2) := by
  induction l with
  | nil => rfl
  | cons e l ih =>
    unfold asFun at *
    simp only [List.find?_cons, List.map_cons, List.findIdx?_cons]
    by_cases h : a = e.1
    · simp [h]
    · simp only [h, decide_false, Bool.false_eq_true, if_false]
      rw [ih]
      cases (l.map (·.1)).findIdx? (fun k => decide (a = k)) with
      | none => rfl
      | some j => simp
theorem look_f (hk : MapKind P T K E kv vv z) (c : Bool) (a : α) (w : World) (M : Nat) (col : α → Option β) (h : MapF kv vv w M col) :
    (Instr.lookup T (.map (some M)) (kv a) c).run P w = .ok (if c then .tuple #[vv ((col a).getD z), .bool (col a).isSome] else vv ((col a).getD z)) w := by
  obtain ⟨l, ⟨es, clock, hb, h1, h2⟩, _, h4⟩ := h
  have hf := hk.find a _ es.toList w h1
  have h5 := h4 a
  rw [asFun_idx] at h5
  rw [← h5]
  unfold Instr.lookup
  simp only [Sem.run_bind, run_underlying hk.ut, Result.andThen_ok, getObj, Sem.run, hb, hk.ck, hf, Sem.run_pure]
  cases hj : (l.map (·.1)).findIdx? (fun k => decide (a = k)) with
  | none =>
    simp [Sem.run_bind, hk.zero, Result.andThen_ok]
  | some j =>
    have hlt : j < l.length := by have := (List.findIdx?_eq_some_iff_findIdx_eq.1 hj).1; simpa using this
    have hv : (es.toList.map (fun e => e.val))[j]? = some (vv (l[j]).2) := by rw [h2]; simp [List.getElem?_eq_getElem hlt]
    rw [List.getElem?_map] at hv
    simp [List.getElem?_eq_getElem hlt]
    rw [Array.getElem?_toList] at hv
    cases he : es[j]? with
    | none => rw [he] at hv; cases hv
    | some e =>
      rw [he] at hv
      simp at hv
      simp [hv]
/-- the function with one value set -/
def setF (col : α → Option β) (a : α) (b : Option β) (x : α) : Option β := if x = a then b else col x
theorem asFun_append (l : List (α × β)) (a : α) (b : β) (hno : (l.map (·.1)).findIdx? (fun k => decide (a = k)) = none) (x : α) : asFun (l ++ [(a, b)]) x = setF (asFun l) a (some b) x := by
  have hn : asFun l a = none := by rw [asFun_idx, hno]; rfl
  unfold setF asFun at *
  rw [List.find?_append]
  by_cases h : x = a
  · subst h
    have : l.find? (fun e => decide (x = e.1)) = none := by simpa using hn
    rw [this]; simp
  · rw [if_neg h]
    cases l.find? (fun e => decide (x = e.1)) with
    | none => simp [h]
    | some e => simp
theorem asFun_modify (l : List (α × β)) (a : α) (b : β) (hnd : (l.map (·.1)).Nodup) (j : Nat) (hj : (l.map (·.1)).findIdx? (fun k => decide (a = k)) = some j) (x : α) : asFun (l.modify j fun _ => (a, b)) x = setF (asFun l) a (some b) x := by
  induction l generalizing j with
  | nil => cases hj
  | cons e l ih =>
    simp only [List.map_cons, List.findIdx?_cons] at hj
    by_cases h : a = e.1
    · simp only [h, decide_true, if_true] at hj
      cases hj
      unfold setF asFun
      rw [List.modify_zero_cons, List.find?_cons, List.find?_cons]
      by_cases hx : x = a
      · subst hx; simp
      · have : ¬ x = e.1 := by rw [← h]; exact hx
        simp [hx, this]
    · simp only [h, decide_false, Bool.false_eq_true, if_false] at hj
      cases hj' : (l.map (·.1)).findIdx? (fun k => decide (a = k)) with
      | none => rw [hj'] at hj; cases hj
      | some j' =>
        rw [hj'] at hj
        obtain rfl : j' + 1 = j := by simpa using hj
        have := ih (List.nodup_cons.1 hnd).2 j' hj'
        unfold setF asFun at *
        rw [List.modify_succ_cons, List.find?_cons, List.find?_cons]
        by_cases hx : x = e.1
        · have : ¬ x = a := fun e' => h (by rw [← e', hx])
          simp [hx, this]
          intro e'; exact absurd e'.symm h
        · simp only [hx, decide_false]
          exact this
theorem keys_modify (l : List (α × β)) (a : α) (b : β) (j : Nat) (hj : (l.map (·.1)).findIdx? (fun k => decide (a = k)) = some j) : (l.modify j fun _ => (a, b)).map (·.1) = l.map (·.1) := by
  induction l generalizing j with
  | nil => cases hj
  | cons e l ih =>
    simp only [List.map_cons, List.findIdx?_cons] at hj
    by_cases h : a = e.1
    · simp only [h, decide_true, if_true] at hj
      cases hj
      simp [h]
    · simp only [h, decide_false, Bool.false_eq_true, if_false] at hj
      cases hj' : (l.map (·.1)).findIdx? (fun k => decide (a = k)) with
      | none => rw [hj'] at hj; cases hj
      | some j' =>
        rw [hj'] at hj
        obtain rfl : j' + 1 = j := by simpa using hj
        rw [List.modify_succ_cons, List.map_cons, ih j' hj', List.map_cons]
theorem asFun_erase (l : List (α × β)) (a : α) (hnd : (l.map (·.1)).Nodup) (j : Nat) (hj : (l.map (·.1)).findIdx? (fun k => decide (a = k)) = some j) (x : α) : asFun (l.eraseIdx j) x = setF (asFun l) a none x := by
  induction l generalizing j with
  | nil => cases hj
  | cons e l ih =>
    simp only [List.map_cons, List.findIdx?_cons] at hj
    rw [List.map_cons, List.nodup_cons] at hnd
    by_cases h : a = e.1
    · simp only [h, decide_true, if_true] at hj
      cases hj
      unfold setF asFun
      rw [List.eraseIdx_cons_zero, List.find?_cons]
      by_cases hx : x = a
      · subst hx
        have : l.find? (fun e => decide (x = e.1)) = none := by
          rw [List.find?_eq_none]
          intro y hy
          have : e.1 ≠ y.1 := fun e' => hnd.1 (by rw [e']; exact List.mem_map.2 ⟨y, hy, rfl⟩)
          simp [h, this]
        rw [this]; simp
      · have : ¬ x = e.1 := by rw [← h]; exact hx
        simp [hx, this]
    · simp only [h, decide_false, Bool.false_eq_true, if_false] at hj
      cases hj' : (l.map (·.1)).findIdx? (fun k => decide (a = k)) with
      | none => rw [hj'] at hj; cases hj
      | some j' =>
        rw [hj'] at hj
        obtain rfl : j' + 1 = j := by simpa using hj
        have := ih hnd.2 j' hj'
        unfold setF asFun at *
        rw [List.eraseIdx_cons_succ, List.find?_cons, List.find?_cons]
        by_cases hx : x = e.1
        · have : ¬ x = a := fun e' => h (by rw [← e', hx])
          simp [hx, this]
          intro e'; exact absurd e'.symm h
        · simp only [hx, decide_false]
          exact this
theorem store_f (hk : MapKind P T K E kv vv z) (a : α) (b : β) (w : World) (M : Nat) (col : α → Option β) (h : MapF kv vv w M col) :
    ∃ w', (Instr.mapUpdate T (.map (some M)) (kv a) (vv b)).run P w = .ok () w' ∧ MapF kv vv w' M (setF col a (some b)) ∧ w.grownBy w' (some M) := by
  obtain ⟨l, ⟨es, clock, hb, h1, h2⟩, h3, h4⟩ := h
  have hf := hk.find a _ es.toList w h1
  have hlt := (Array.getElem?_eq_some_iff.1 hb).1
  have hlen : es.size = l.length := by have := congrArg List.length h1; simpa using this
  cases hj : (l.map (·.1)).findIdx? (fun k => decide (a = k)) with
  | none =>
    rw [hj] at hf
    refine ⟨w.putObj M (.map (es.push { key := kv a, val := vv b, born := clock }) (clock + 1)), ?_, ⟨l ++ [(a, b)], ⟨_, _, World.putObj_heap_same hlt, by simp [h1], by simp [h2]⟩, ?_, fun x => ?_⟩, grownBy_putObj' w M _⟩
    · unfold Instr.mapUpdate
      simp only [Sem.run_bind, run_underlying hk.ut, Result.andThen_ok, getObj, setObj, Sem.run, hb, hk.ck, hf, Sem.run_pure, Option.map_none]
      try rfl
    · rw [List.map_append, List.nodup_append]
      refine ⟨h3, by simp, fun x hx y hy => ?_⟩
      simp at hy
      subst hy
      have := List.findIdx?_eq_none_iff.1 hj x hx
      intro e; subst e; simp at this
    · rw [asFun_append l a b hj]
      unfold setF
      rw [h4 x]
  | some j =>
    rw [hj] at hf
    have hjl : j < l.length := by have := (List.findIdx?_eq_some_iff_findIdx_eq.1 hj).1; simpa using this
    have hka : (l[j]).1 = a := by
      have := (List.findIdx?_eq_some_iff_getElem.1 hj).2.1
      simp at this; exact this.symm
    have hkey : ((es[j]?).map (fun e => e.key)).getD (kv a) = kv a := by
      have : (es.toList.map (fun e => e.key))[j]? = some (kv a) := by rw [h1]; simp [List.getElem?_eq_getElem hjl, hka]
      rw [List.getElem?_map, Array.getElem?_toList] at this
      rw [this]; rfl
    refine ⟨w.putObj M (.map (es.modify j fun e => { e with key := kv a, val := vv b }) clock), ?_, ⟨l.modify j fun _ => (a, b), ⟨_, _, World.putObj_heap_same hlt, ?_, ?_⟩, by rw [keys_modify l a b j hj]; exact h3, fun x => ?_⟩, grownBy_putObj' w M _⟩
    · unfold Instr.mapUpdate
      simp only [Sem.run_bind, run_underlying hk.ut, Result.andThen_ok, getObj, setObj, Sem.run, hb, hk.ck, hf, Sem.run_pure, Option.map_some, Instr.keyThatStays, hkey, hk.bits, if_true]
      try rfl
    · rw [keys_modify l a b j hj, ← h1, Array.toList_modify]
      refine List.ext_getElem? fun i => ?_
      rw [List.getElem?_map, List.getElem?_map, List.getElem?_modify]
      by_cases hij : j = i
      · subst hij
        have : (es.toList[j]?).map (fun e => e.key) = some (kv a) := by rw [← List.getElem?_map, h1]; simp [List.getElem?_eq_getElem hjl, hka]
        cases he : es.toList[j]? with
        | none => rw [he] at this; cases this
        | some e => rw [he] at this; simp at this; simp [this]
      · simp [hij]
    · rw [Array.toList_modify]
      refine List.ext_getElem? fun i => ?_
      have h2i : (es.toList[i]?).map (fun e => e.val) = (l[i]?).map (fun e => vv e.2) := by rw [← List.getElem?_map, h2]; simp; rfl
      rw [List.getElem?_map, List.getElem?_map, List.getElem?_map, List.getElem?_modify, List.getElem?_modify]
      by_cases hij : j = i
      · subst hij
        cases he : es.toList[j]? with
        | none =>
          rw [List.getElem?_eq_none_iff] at he
          simp at he
          omega
        | some e => simp [List.getElem?_eq_getElem hjl]
      · simp only [hij, if_false, Option.map_map]
        cases he : es.toList[i]? with
        | none => rw [he] at h2i; cases hl : l[i]? with
          | none => simp
          | some x => rw [hl] at h2i; cases h2i
        | some e => rw [he] at h2i; cases hl : l[i]? with
          | none => rw [hl] at h2i; cases h2i
          | some x => rw [hl] at h2i; simp at h2i; simp [h2i]
    · rw [asFun_modify l a b h3 j hj]
      unfold setF
      rw [h4 x]
theorem delete_f (hk : MapKind P T K E kv vv z) (ty : TypeId) (a : α) (w : World) (M : Nat) (col : α → Option β) (h : MapF kv vv w M col) :
    ∃ w', (Builtin.delete_ #[T, K] ty #[.map (some M), kv a]).run P w = .ok (.tuple #[]) w' ∧ MapF kv vv w' M (setF col a none) ∧ w.grownBy w' (some M) := by
  obtain ⟨l, ⟨es, clock, hb, h1, h2⟩, h3, h4⟩ := h
  have hf := hk.find a _ es.toList w h1
  have hlt := (Array.getElem?_eq_some_iff.1 hb).1
  cases hj : (l.map (·.1)).findIdx? (fun k => decide (a = k)) with
  | none =>
    rw [hj] at hf
    refine ⟨w.putObj M (.map es clock), ?_, ⟨l, ⟨_, _, World.putObj_heap_same hlt, h1, h2⟩, h3, fun x => ?_⟩, grownBy_putObj' w M _⟩
    · unfold Builtin.delete_
      simp only [List.getElem?_toArray, List.getElem?_cons_zero, List.getElem?_cons_succ, Sem.run_bind, run_underlying hk.ut, Result.andThen_ok, getObj, setObj, Sem.run, hb, hk.ck, hf, Sem.run_pure, Option.map_none]
      try rfl
    · unfold setF
      by_cases e : x = a
      · subst e; rw [if_pos rfl, asFun_idx, hj]; rfl
      · rw [if_neg e]; exact h4 x
  | some j =>
    rw [hj] at hf
    refine ⟨w.putObj M (.map (es.eraseIdxIfInBounds j) clock), ?_, ⟨l.eraseIdx j, ⟨_, _, World.putObj_heap_same hlt, ?_, ?_⟩, ?_, fun x => ?_⟩, grownBy_putObj' w M _⟩
    · unfold Builtin.delete_
      simp only [List.getElem?_toArray, List.getElem?_cons_zero, List.getElem?_cons_succ, Sem.run_bind, run_underlying hk.ut, Result.andThen_ok, getObj, setObj, Sem.run, hb, hk.ck, hf, Sem.run_pure, Option.map_some]
      try rfl
    · rw [Array.toList_eraseIdxIfInBounds, map_erase, h1, map_erase, map_erase]
    · rw [Array.toList_eraseIdxIfInBounds, map_erase, h2, map_erase, map_erase]
    · rw [map_erase]; exact h3.eraseIdx j
    · rw [asFun_erase l a h3 j hj]
      unfold setF
      rw [h4 x]
theorem wpList_store_f (hk : MapKind P T K E kv vv z) {w : World} {ops : Array Oper} {rest : List Oper} {o : Oper} {act : Act} {Q : Exit → Act → World → Prop} (hgd : o.guard = none) (m x y : Operand) (ho : o.op = Op.mapUpdate T m x y) (M : Nat) (col : α → Option β) (a : α) (b : β)
    (hm : act.eval m = .map (some M)) (hx : act.eval x = kv a) (hy : act.eval y = vv b) (hM : MapF kv vv w M col) (hK : ∀ w', MapF kv vv w' M (setF col a (some b)) → w.grownBy w' (some M) → wpList P ops Q rest (act.put o.dst undef) w') : wpList P ops Q (o :: rest) act w := by
  refine wpList_plain hgd fun K hK' => ?_
  obtain ⟨w', hr, h1, h2⟩ := store_f hk a b w M col hM
  unfold Oper.wp
  simp [execOp, ho, hm, hx, hy, hr, Result.andThen, Oper.upon]
  exact hK' _ _ (hK w' h1 h2)
theorem wpList_delete_f (hk : MapKind P T K E kv vv z) {w : World} {ops : Array Oper} {rest : List Oper} {o : Oper} {act : Act} {Q : Exit → Act → World → Prop} (hgd : o.guard = none) (m x : Operand) (ho : o.op = Op.call { callee := Callee.builtin Builtin.delete, args := #[m, x], argTypes := #[T, K] }) (M : Nat) (col : α → Option β) (a : α)
    (hm : act.eval m = .map (some M)) (hx : act.eval x = kv a) (hM : MapF kv vv w M col) (hK : ∀ w', MapF kv vv w' M (setF col a none) → w.grownBy w' (some M) → wpList P ops Q rest (act.put o.dst (.tuple #[])) w') : wpList P ops Q (o :: rest) act w := by
  refine wpList_plain hgd fun K hK' => ?_
  obtain ⟨w', hr, h1, h2⟩ := delete_f hk o.type a w M col hM
  unfold Oper.wp execOp
  simp only [ho, resolve, invoke, builtin, Sem.run_bind, Sem.run_pure, Result.andThen_ok, List.map_toArray, List.map_cons, List.map_nil, hm, hx, hr]
  exact hK' _ _ (hK w' h1 h2)
end
end Go.Proofs.Ytocnhikohfkcaaa
