/- Maps that the call makes, read as functions: what a look-up, a store and a delete do. The program's hues under way: put, take. -/
import Derived.Test.YtpknnjcbcndbbaaDoorRg
import Derived.Maps.OwnIn
set_option linter.unusedVariables false
set_option linter.unusedSimpArgs false
namespace Go.Proofs.YtpknnjcbcndbbaaDoor
open Go.RowKit

/-- how keys and elements of one type of maps stand in memory -/
structure MapKind (P : Program) (T K E : TypeId) {α β : Type} [DecidableEq α] (kv : α → Value) (vv : β → Value) (z : β) : Prop where
  ut : P.underlying T = some (.map K E)
  find : ∀ (a : α) (ks : List α) (es : List MapEntry) (w : World), es.map (fun e => e.key) = ks.map kv → (Instr.findKey K (kv a) es).run P w = .ok ((ks.findIdx? (fun k => decide (a = k))).map fun j => (j, ((es[j]?).map (fun e => e.val)).getD undef)) w
  ck : ∀ (a : α) (e : Bool) (w : World), (Instr.checkKey e 10000 K (kv a)).run P w = .ok () w
  zero : ∀ w, (zeroValue E).run P w = .ok (vv z) w
  bits : ∀ a, Instr.sameBits 10000 (kv a) (kv a) = true
theorem find_asking {P : Program} {K : TypeId} {α : Type} [DecidableEq α] {kv : α → Value} (heq : ∀ (a b : α) (w : World), (Op.equal K (kv a) (kv b)).run P w = .ok (decide (a = b)) w) (a : α) (w : World) : ∀ (ks : List α) (es : List MapEntry) (i : Nat), es.map (fun e => e.key) = ks.map kv →
    (Instr.findAsking K (kv a) es i).run P w = .ok ((ks.findIdx? (fun k => decide (a = k))).map fun j => (i + j, ((es[j]?).map (fun e => e.val)).getD undef)) w
  | [], [], i, _ => by simp [Instr.findAsking]
  | [], e :: es, i, h => by cases h
  | k :: ks, [], i, h => by cases h
  | k :: ks, e :: es, i, h => by
    simp only [List.map_cons, List.cons.injEq] at h
    simp only [Instr.findAsking, Sem.run_bind, h.1, heq, Result.andThen_ok]
    by_cases e' : a = k
    · simp [e', List.findIdx?_cons]
    · have ih := find_asking heq a w ks es (i + 1) h.2
      simp only [e', decide_false, Bool.false_eq_true, if_false, ih, List.findIdx?_cons]
      cases ks.findIdx? (fun k => decide (a = k)) with
      | none => rfl
      | some j => simp; omega
theorem find_agg {P : Program} {K : TypeId} {u : TypeDesc} {α : Type} [DecidableEq α] {kv : α → Value} (hu : P.underlying K = some u) (hagg : ∀ a, ∃ xs, kv a = .agg xs) (heq : ∀ (a b : α) (w : World), (Op.equal K (kv a) (kv b)).run P w = .ok (decide (a = b)) w)
    (a : α) (ks : List α) (es : List MapEntry) (w : World) (h : es.map (fun e => e.key) = ks.map kv) : (Instr.findKey K (kv a) es).run P w = .ok ((ks.findIdx? (fun k => decide (a = k))).map fun j => (j, ((es[j]?).map (fun e => e.val)).getD undef)) w := by
  unfold Instr.findKey
  simp only [Sem.run_bind, run_underlying hu, Result.andThen_ok]
  cases es with
  | nil =>
    have : ks = [] := by cases ks with
      | nil => rfl
      | cons => cases h
    subst this
    simp [Instr.findNow]
  | cons e es =>
    obtain ⟨xs, hxs⟩ := hagg a
    have hn : Instr.findNow u (kv a) (e :: es) 0 = none := by
      have : Instr.sameNow u (kv a) e.key = none := by rw [hxs]; cases u <;> rfl
      simp [Instr.findNow, this]
    rw [hn]
    have := find_asking heq a w ks (e :: es) 0 h
    simp only [Nat.zero_add] at this
    exact this
/-- a list of pairs as a function -/
def asFun {α β : Type} [DecidableEq α] (l : List (α × β)) (a : α) : Option β := (l.find? (fun e => decide (a = e.1))).map (·.2)
def MapL {α β : Type} (kv : α → Value) (vv : β → Value) (W : World) (M : Nat) (l : List (α × β)) : Prop :=
  ∃ es clock, W.heap[M]? = some (.map es clock) ∧ es.toList.map (fun e => e.key) = (l.map (·.1)).map kv ∧ es.toList.map (fun e => e.val) = (l.map (·.2)).map vv
def MapF {α β : Type} [DecidableEq α] (kv : α → Value) (vv : β → Value) (W : World) (M : Nat) (col : α → Option β) : Prop := ∃ l, MapL kv vv W M l ∧ (l.map (·.1)).Nodup ∧ ∀ a, asFun l a = col a
theorem map_erase {α β : Type} (f : α → β) : ∀ (l : List α) (j : Nat), (l.eraseIdx j).map f = (l.map f).eraseIdx j
  | [], _ => rfl
  | _ :: _, 0 => rfl
  | x :: l, j + 1 => by rw [List.eraseIdx_cons_succ, List.map_cons, map_erase f l j, List.map_cons, List.eraseIdx_cons_succ]
theorem MapL.lt {α β : Type} {kv : α → Value} {vv : β → Value} {W : World} {M : Nat} {l : List (α × β)} (h : MapL kv vv W M l) : M < W.heap.size := by
  obtain ⟨es, clock, hb, _⟩ := h
  exact (Array.getElem?_eq_some_iff.1 hb).1
section
variable {P : Program} {T K E : TypeId} {α β : Type} [DecidableEq α] {kv : α → Value} {vv : β → Value} {z : β}
theorem MapF.lt {W : World} {M : Nat} {col : α → Option β} (h : MapF kv vv W M col) : M < W.heap.size := h.elim fun _ h => h.1.lt
theorem MapF.kept {W W' : World} {M : Nat} {col : α → Option β} (h : MapF kv vv W M col) (hb : W'.heap[M]? = W.heap[M]?) : MapF kv vv W' M col := by
  obtain ⟨l, ⟨es, clock, h1, h2⟩, h3⟩ := h
  exact ⟨l, ⟨es, clock, hb.trans h1, h2⟩, h3⟩
theorem MapF.below {n : Nat} {W W' : World} {M : Nat} {col : α → Option β} (h : MapF kv vv W M col) (hB : Below n W W') (hn : M < n) : MapF kv vv W' M col := h.kept (hB.block M hn)
theorem MapF.grown {W W' : World} {row : Option Nat} {M : Nat} {col : α → Option β} (h : MapF kv vv W M col) (hg : W.grownBy W' row) (hne : some M ≠ row) : MapF kv vv W' M col := h.kept (hg.block M h.lt hne)
theorem MapF.made (w : World) : MapF kv vv (w.alloc (.map #[] 0)) w.heap.size (fun _ => none) := ⟨[], ⟨#[], 0, World.alloc_heap_new w _, rfl, rfl⟩, List.nodup_nil, fun _ => rfl⟩
theorem MapF.congr {W : World} {M : Nat} {c c' : α → Option β} (h : MapF kv vv W M c) (e : ∀ a, c a = c' a) : MapF kv vv W M c' := by
  obtain ⟨l, h1, h2, h3⟩ := h
  exact ⟨l, h1, h2, fun a => (h3 a).trans (e a)⟩
theorem asFun_idx (l : List (α × β)) (a : α) : asFun l a = ((l.map (·.1)).findIdx? (fun k => decide (a = k))).bind fun j => (l[j]?).map (·.2) := by
  induction l with
  | nil => rfl
  | cons e l ih =>
    unfold asFun at *
    simp only [List.find?_cons, List.map_cons, List.findIdx?_cons]
    by_cases h : a = e.1
    · simp [h]
    · simp only [h, decide_false, Bool.false_eq_true, if_false]
      rw [ih]
      cases (l.map (·.1)).findIdx? (fun k => decide (a = k)) with
      | none => rfl
      | some j => simp
theorem look_f (hk : MapKind P T K E kv vv z) (c : Bool) (a : α) (w : World) (M : Nat) (col : α → Option β) (h : MapF kv vv w M col) :
    (Instr.lookup T (.map (some M)) (kv a) c).run P w = .ok (if c then .tuple #[vv ((col a).getD z), .bool (col a).isSome] else vv ((col a).getD z)) w := by
  obtain ⟨l, ⟨es, clock, hb, h1, h2⟩, _, h4⟩ := h
  have hf := hk.find a _ es.toList w h1
  have h5 := h4 a
  rw [asFun_idx] at h5
  rw [← h5]
  unfold Instr.lookup
  simp only [Sem.run_bind, run_underlying hk.ut, Result.andThen_ok, getObj, Sem.run, hb, hk.ck, hf, Sem.run_pure]
  cases hj : (l.map (·.1)).findIdx? (fun k => decide (a = k)) with
  | none =>
    simp [Sem.run_bind, hk.zero, Result.andThen_ok]
  | some j =>
    have hlt : j < l.length := by have := (List.findIdx?_eq_some_iff_findIdx_eq.1 hj).1; simpa using this
    have hv : (es.toList.map (fun e => e.val))[j]? = some (vv (l[j]).2) := by rw [h2]; simp [List.getElem?_eq_getElem hlt]
    rw [List.getElem?_map] at hv
    simp [List.getElem?_eq_getElem hlt]
    rw [Array.getElem?_toList] at hv
    cases he : es[j]? with
    | none => rw [he] at hv; cases hv
    | some e =>
      rw [he] at hv
      simp at hv
      simp [hv]
/-- the function with one value set -/
def setF (col : α → Option β) (a : α) (b : Option β) (x : α) : Option β := if x = a then b else col x
theorem asFun_append (l : List (α × β)) (a : α) (b : β) (hno : (l.map (·.1)).findIdx? (fun k => decide (a = k)) = none) (x : α) : asFun (l ++ [(a, b)]) x = setF (asFun l) a (some b) x := by
  have hn : asFun l a = none := by rw [asFun_idx, hno]; rfl
  unfold setF asFun at *
  rw [List.find?_append]
  by_cases h : x = a
  · subst h
    have : l.find? (fun e => decide (x = e.1)) = none := by simpa using hn
    rw [this]; simp
  · rw [if_neg h]
    cases l.find? (fun e => decide (x = e.1)) with
    | none => simp [h]
    | some e => simp
theorem asFun_modify (l : List (α × β)) (a : α) (b : β) (hnd : (l.map (·.1)).Nodup) (j : Nat) (hj : (l.map (·.1)).findIdx? (fun k => decide (a = k)) = some j) (x : α) : asFun (l.modify j fun _ => (a, b)) x = setF (asFun l) a (some b) x := by
  induction l generalizing j with
  | nil => cases hj
  | cons e l ih =>
    simp only [List.map_cons, List.findIdx?_cons] at hj
    by_cases h : a = e.1
    · simp only [h, decide_true, if_true] at hj
      cases hj
      unfold setF asFun
      rw [List.modify_zero_cons, List.find?_cons, List.find?_cons]
      by_cases hx : x = a
      · subst hx; simp
      · have : ¬ x = e.1 := by rw [← h]; exact hx
        simp [hx, this]
    · simp only [h, decide_false, Bool.false_eq_true, if_false] at hj
      cases hj' : (l.map (·.1)).findIdx? (fun k => decide (a = k)) with
      | none => rw [hj'] at hj; cases hj
      | some j' =>
        rw [hj'] at hj
        obtain rfl : j' + 1 = j := by simpa using hj
        have := ih (List.nodup_cons.1 hnd).2 j' hj'
        unfold setF asFun at *
        rw [List.modify_succ_cons, List.find?_cons, List.find?_cons]
        by_cases hx : x = e.1
        · have : ¬ x = a := fun e' => h (by rw [← e', hx])
          simp [hx, this]
          intro e'; exact absurd e'.symm h
        · simp only [hx, decide_false]
          exact this
theorem keys_modify (l : List (α × β)) (a : α) (b : β) (j : Nat) (hj : (l.map (·.1)).findIdx? (fun k => decide (a = k)) = some j) : (l.modify j fun _ => (a, b)).map (·.1) = l.map (·.1) := by
  induction l generalizing j with
  | nil => cases hj
  | cons e l ih =>
    simp only [List.map_cons, List.findIdx?_cons] at hj
    by_cases h : a = e.1
    · simp only [h, decide_true, if_true] at hj
      cases hj
      simp [h]
    · simp only [h, decide_false, Bool.false_eq_true, if_false] at hj
      cases hj' : (l.map (·.1)).findIdx? (fun k => decide (a = k)) with
      | none => rw [hj'] at hj; cases hj
      | some j' =>
        rw [hj'] at hj
        obtain rfl : j' + 1 = j := by simpa using hj
        rw [List.modify_succ_cons, List.map_cons, ih j' hj', List.map_cons]
theorem asFun_erase (l : List (α × β)) (a : α) (hnd : (l.map (·.1)).Nodup) (j : Nat) (hj : (l.map (·.1)).findIdx? (fun k => decide (a = k)) = some j) (x : α) : asFun (l.eraseIdx j) x = setF (asFun l) a none x := by
  induction l generalizing j with
  | nil => cases hj
  | cons e l ih =>
    simp only [List.map_cons, List.findIdx?_cons] at hj
    rw [List.map_cons, List.nodup_cons] at hnd
    by_cases h : a = e.1
    · simp only [h, decide_true, if_true] at hj
      cases hj
      unfold setF asFun
      rw [List.eraseIdx_cons_zero, List.find?_cons]
      by_cases hx : x = a
      · subst hx
        have : l.find? (fun e => decide (x = e.1)) = none := by
          rw [List.find?_eq_none]
          intro y hy
          have : e.1 ≠ y.1 := fun e' => hnd.1 (by rw [e']; exact List.mem_map.2 ⟨y, hy, rfl⟩)
          simp [h, this]
        rw [this]; simp
      · have : ¬ x = e.1 := by rw [← h]; exact hx
        simp [hx, this]
    · simp only [h, decide_false, Bool.false_eq_true, if_false] at hj
      cases hj' : (l.map (·.1)).findIdx? (fun k => decide (a = k)) with
      | none => rw [hj'] at hj; cases hj
      | some j' =>
        rw [hj'] at hj
        obtain rfl : j' + 1 = j := by simpa using hj
        have := ih hnd.2 j' hj'
        unfold setF asFun at *
        rw [List.eraseIdx_cons_succ, List.find?_cons, List.find?_cons]
        by_cases hx : x = e.1
        · have : ¬ x = a := fun e' => h (by rw [← e', hx])
          simp [hx, this]
          intro e'; exact absurd e'.symm h
        · simp only [hx, decide_false]
          exact this
theorem store_f (hk : MapKind P T K E kv vv z) (a : α) (b : β) (w : World) (M : Nat) (col : α → Option β) (h : MapF kv vv w M col) :
    ∃ w', (Instr.mapUpdate T (.map (some M)) (kv a) (vv b)).run P w = .ok () w' ∧ MapF kv vv w' M (setF col a (some b)) ∧ w.grownBy w' (some M) := by
  obtain ⟨l, ⟨es, clock, hb, h1, h2⟩, h3, h4⟩ := h
  have hf := hk.find a _ es.toList w h1
  have hlt := (Array.getElem?_eq_some_iff.1 hb).1
  have hlen : es.size = l.length := by have := congrArg List.length h1; simpa using this
  cases hj : (l.map (·.1)).findIdx? (fun k => decide (a = k)) with
  | none =>
    rw [hj] at hf
    refine ⟨w.putObj M (.map (es.push { key := kv a, val := vv b, born := clock }) (clock + 1)), ?_, ⟨l ++ [(a, b)], ⟨_, _, World.putObj_heap_same hlt, by simp [h1], by simp [h2]⟩, ?_, fun x => ?_⟩, grownBy_putObj' w M _⟩
    · unfold Instr.mapUpdate
      simp only [Sem.run_bind, run_underlying hk.ut, Result.andThen_ok, getObj, setObj, Sem.run, hb, hk.ck, hf, Sem.run_pure, Option.map_none]
      try rfl
    · rw [List.map_append, List.nodup_append]
      refine ⟨h3, by simp, fun x hx y hy => ?_⟩
      simp at hy
      subst hy
      have := List.findIdx?_eq_none_iff.1 hj x hx
      intro e; subst e; simp at this
    · rw [asFun_append l a b hj]
      unfold setF
      rw [h4 x]
  | some j =>
    rw [hj] at hf
    have hjl : j < l.length := by have := (List.findIdx?_eq_some_iff_findIdx_eq.1 hj).1; simpa using this
    have hka : (l[j]).1 = a := by
      have := (List.findIdx?_eq_some_iff_getElem.1 hj).2.1
      simp at this; exact this.symm
    have hkey : ((es[j]?).map (fun e => e.key)).getD (kv a) = kv a := by
      have : (es.toList.map (fun e => e.key))[j]? = some (kv a) := by rw [h1]; simp [List.getElem?_eq_getElem hjl, hka]
      rw [List.getElem?_map, Array.getElem?_toList] at this
      rw [this]; rfl
    refine ⟨w.putObj M (.map (es.modify j fun e => { e with key := kv a, val := vv b }) clock), ?_, ⟨l.modify j fun _ => (a, b), ⟨_, _, World.putObj_heap_same hlt, ?_, ?_⟩, by rw [keys_modify l a b j hj]; exact h3, fun x => ?_⟩, grownBy_putObj' w M _⟩
    · unfold Instr.mapUpdate
      simp only [Sem.run_bind, run_underlying hk.ut, Result.andThen_ok, getObj, setObj, Sem.run, hb, hk.ck, hf, Sem.run_pure, Option.map_some, Instr.keyThatStays, hkey, hk.bits, if_true]
      try rfl
    · rw [keys_modify l a b j hj, ← h1, Array.toList_modify]
      refine List.ext_getElem? fun i => ?_
      rw [List.getElem?_map, List.getElem?_map, List.getElem?_modify]
      by_cases hij : j = i
      · subst hij
        have : (es.toList[j]?).map (fun e => e.key) = some (kv a) := by rw [← List.getElem?_map, h1]; simp [List.getElem?_eq_getElem hjl, hka]
        cases he : es.toList[j]? with
        | none => rw [he] at this; cases this
        | some e => rw [he] at this; simp at this; simp [this]
      · simp [hij]
    · rw [Array.toList_modify]
      refine List.ext_getElem? fun i => ?_
      have h2i : (es.toList[i]?).map (fun e => e.val) = (l[i]?).map (fun e => vv e.2) := by rw [← List.getElem?_map, h2]; simp; rfl
      rw [List.getElem?_map, List.getElem?_map, List.getElem?_map, List.getElem?_modify, List.getElem?_modify]
      by_cases hij : j = i
      · subst hij
        cases he : es.toList[j]? with
        | none =>
          rw [List.getElem?_eq_none_iff] at he
          simp at he
          omega
        | some e => simp [List.getElem?_eq_getElem hjl]
      · simp only [hij, if_false, Option.map_map]
        cases he : es.toList[i]? with
        | none => rw [he] at h2i; cases hl : l[i]? with
          | none => simp
          | some x => rw [hl] at h2i; cases h2i
        | some e => rw [he] at h2i; cases hl : l[i]? with
          | none => rw [hl] at h2i; cases h2i
          | some x => rw [hl] at h2i; simp at h2i; simp [h2i]
    · rw [asFun_modify l a b h3 j hj]
      unfold setF
      rw [h4 x]
theorem delete_f (hk : MapKind P T K E kv vv z) (ty : TypeId) (a : α) (w : World) (M : Nat) (col : α → Option β) (h : MapF kv vv w M col) :
    ∃ w', (Builtin.delete_ #[T, K] ty #[.map (some M), kv a]).run P w = .ok (.tuple #[]) w' ∧ MapF kv vv w' M (setF col a none) ∧ w.grownBy w' (some M) := by
  obtain ⟨l, ⟨es, clock, hb, h1, h2⟩, h3, h4⟩ := h
  have hf := hk.find a _ es.toList w h1
  have hlt := (Array.getElem?_eq_some_iff.1 hb).1
  cases hj : (l.map (·.1)).findIdx? (fun k => decide (a = k)) with
  | none =>
    rw [hj] at hf
    refine ⟨w.putObj M (.map es clock), ?_, ⟨l, ⟨_, _, World.putObj_heap_same hlt, h1, h2⟩, h3, fun x => ?_⟩, grownBy_putObj' w M _⟩
    · unfold Builtin.delete_
      simp only [List.getElem?_toArray, List.getElem?_cons_zero, List.getElem?_cons_succ, Sem.run_bind, run_underlying hk.ut, Result.andThen_ok, getObj, setObj, Sem.run, hb, hk.ck, hf, Sem.run_pure, Option.map_none]
      try rfl
    · unfold setF
      by_cases e : x = a
      · subst e; rw [if_pos rfl, asFun_idx, hj]; rfl
      · rw [if_neg e]; exact h4 x
  | some j =>
    rw [hj] at hf
    refine ⟨w.putObj M (.map (es.eraseIdxIfInBounds j) clock), ?_, ⟨l.eraseIdx j, ⟨_, _, World.putObj_heap_same hlt, ?_, ?_⟩, ?_, fun x => ?_⟩, grownBy_putObj' w M _⟩
    · unfold Builtin.delete_
      simp only [List.getElem?_toArray, List.getElem?_cons_zero, List.getElem?_cons_succ, Sem.run_bind, run_underlying hk.ut, Result.andThen_ok, getObj, setObj, Sem.run, hb, hk.ck, hf, Sem.run_pure, Option.map_some]
      try rfl
    · rw [Array.toList_eraseIdxIfInBounds, map_erase, h1, map_erase, map_erase]
    · rw [Array.toList_eraseIdxIfInBounds, map_erase, h2, map_erase, map_erase]
    · rw [map_erase]; exact h3.eraseIdx j
    · rw [asFun_erase l a h3 j hj]
      unfold setF
      rw [h4 x]
theorem wpList_store_f (hk : MapKind P T K E kv vv z) {w : World} {ops : Array Oper} {rest : List Oper} {o : Oper} {act : Act} {Q : Exit → Act → World → Prop} (hgd : o.guard = none) (m x y : Operand) (ho : o.op = Op.mapUpdate T m x y) (M : Nat) (col : α → Option β) (a : α) (b : β)
    (hm : act.eval m = .map (some M)) (hx : act.eval x = kv a) (hy : act.eval y = vv b) (hM : MapF kv vv w M col) (hK : ∀ w', MapF kv vv w' M (setF col a (some b)) → w.grownBy w' (some M) → wpList P ops Q rest (act.put o.dst undef) w') : wpList P ops Q (o :: rest) act w := by
  refine wpList_plain hgd fun K hK' => ?_
  obtain ⟨w', hr, h1, h2⟩ := store_f hk a b w M col hM
  unfold Oper.wp
  simp [execOp, ho, hm, hx, hy, hr, Result.andThen, Oper.upon]
  exact hK' _ _ (hK w' h1 h2)
theorem wpList_delete_f (hk : MapKind P T K E kv vv z) {w : World} {ops : Array Oper} {rest : List Oper} {o : Oper} {act : Act} {Q : Exit → Act → World → Prop} (hgd : o.guard = none) (m x : Operand) (ho : o.op = Op.call { callee := Callee.builtin Builtin.delete, args := #[m, x], argTypes := #[T, K] }) (M : Nat) (col : α → Option β) (a : α)
    (hm : act.eval m = .map (some M)) (hx : act.eval x = kv a) (hM : MapF kv vv w M col) (hK : ∀ w', MapF kv vv w' M (setF col a none) → w.grownBy w' (some M) → wpList P ops Q rest (act.put o.dst (.tuple #[])) w') : wpList P ops Q (o :: rest) act w := by
  refine wpList_plain hgd fun K hK' => ?_
  obtain ⟨w', hr, h1, h2⟩ := delete_f hk o.type a w M col hM
  unfold Oper.wp execOp
  simp only [ho, resolve, invoke, builtin, Sem.run_bind, Sem.run_pure, Result.andThen_ok, List.map_toArray, List.map_cons, List.map_nil, hm, hx, hr]
  exact hK' _ _ (hK w' h1 h2)
end
end Go.Proofs.YtpknnjcbcndbbaaDoor
namespace Go.Proofs.YtpknnjcbcndbbaaDoor
open Go.RowKit

def ekv (e : Nat × Nat) : Value := .agg #[.int .i64 (e.1 : Int), .int .i64 (e.2 : Int)]
def ivv (n : Nat) : Value := .int .i64 (n : Int)
theorem eq_edge (s t : Nat × Nat) (w : World) : (Op.equal 119 (ekv s) (ekv t)).run Tryd.prog w = .ok (decide (s = t)) w := by
  obtain ⟨a, b⟩ := s
  obtain ⟨c, d⟩ := t
  have h : Op.equal 119 (ekv (a, b)) (ekv (c, d)) = Op.equalIn (9999 + 1) 119 (ekv (a, b)) (ekv (c, d)) := rfl
  rw [h]
  unfold ekv
  rw [run_equalIn_agg _ _ _ _ _ (by kernel_rfl) (by kernel_rfl)]
  rw [show (Tryd.prog.fieldsOf 119).toList = [{ name := "i", type := 3, offset := 0, embedded := false, tag := "", pkgPath := "forcola/hue", byteOffset := 0 }, { name := "j", type := 3, offset := 1, embedded := false, tag := "", pkgPath := "forcola/hue", byteOffset := 8 }] from by kernel_rfl]
  have e3 : Tryd.prog.underlying 3 = some (.int .i64) := by kernel_rfl
  have p3 : ∀ (x y : Value) w, (part 3 #[x, y] 0).run Tryd.prog w = .ok x w := fun _ _ _ => by kernel_rfl
  have p4 : ∀ (x y : Value) w, (part 3 #[x, y] 1).run Tryd.prog w = .ok y w := fun _ _ _ => by kernel_rfl
  have hac : ∀ a c : Nat, (((a : Nat) : Int) == (c : Int)) = decide (a = c) := fun a c => by
    by_cases e : a = c
    · subst e; simp
    · rw [decide_eq_false e, beq_eq_false_iff_ne]; omega
  have q3 : ∀ (a c : Nat) w, (Op.equalIn 9999 3 (.int .i64 (a : Int)) (.int .i64 (c : Int))).run Tryd.prog w = .ok (decide (a = c)) w := fun a c w => by rw [← hac]; exact run_equalIn_int w 9998 3 _ _ _ _ e3
  simp only [Op.eqFields, Sem.run_bind, Sem.run_ite]
  rw [if_pos (by decide)]
  rw [p3, Result.andThen_ok, p3, Result.andThen_ok, q3, Result.andThen_ok]
  by_cases e : a = c
  · rw [if_neg (by simp [e]), if_pos (by decide), p4, Result.andThen_ok, p4, Result.andThen_ok, q3, Result.andThen_ok]
    by_cases e' : b = d
    · simp [e, e']
    · simp [e, e']
  · rw [if_pos (by simp [e])]; simp [e]
theorem edgeKind : MapKind Tryd.prog 114 119 3 ekv ivv 0 where
  ut := Tryd.underlying114
  find := find_agg Tryd.underlying119 (fun a => ⟨_, rfl⟩) eq_edge
  ck := fun _ _ _ => by kernel_rfl
  zero := fun _ => by kernel_rfl
  bits := fun a => by simp [Instr.sameBits, ekv]
/-- hues under way, in memory -/
structure PaintAt (W : World) (p G M : Nat) (us : Nat → Nat) (col : Nat × Nat → Option Nat) : Prop where
  box : ∃ vs, BoxN W p 117 vs ∧ vs.size = 18 ∧ vs[0]? = some (.pointer (some ⟨G, 0, none⟩)) ∧ vs[1]? = some (.map (some M)) ∧ ∀ v, v < 16 → vs[2 + v]? = some (.int .u64 (us v : Nat))
  map : MapF ekv ivv W M col
  ne : p ≠ M
  sm : ∀ v, us v < 18446744073709551616
theorem edgeOf_any (v x : Nat) (w : World) :
    Calls Tryd.prog 96 #[.int .i64 (v : Int), .int .i64 (x : Int)] w fun e w' => e = .returned (ekv (min v x, max v x)) ∧ Below w.heap.size w w' := by
  go_enter Tryd.func96, Tryd.ntmps96
  go_wp2
  · have hlt : x < v := by assumption
    exact bodyPost_ret (v := ekv (x, v)) (by simp [results, Tryd.f96, go_sem, ekv]) rfl ⟨by rw [Nat.min_eq_right (by omega), Nat.max_eq_left (by omega)], (Below.refl _ _).alloc (Nat.le_refl _) _⟩
  · have hlt : v < x := by assumption
    exact bodyPost_ret (v := ekv (v, x)) (by simp [results, Tryd.f96, go_sem, ekv]) rfl ⟨by rw [Nat.min_eq_left (by omega), Nat.max_eq_right (by omega)], (Below.refl _ _).alloc (Nat.le_refl _) _⟩
  · have hlt : ¬ x < v := by assumption
    have hlt' : ¬ v < x := by assumption
    exact bodyPost_ret (v := ekv (v, v)) (by simp [results, Tryd.f96, go_sem, ekv]) rfl ⟨by rw [show x = v by omega, Nat.min_self, Nat.max_self], (Below.refl _ _).alloc (Nat.le_refl _) _⟩
/-- an edge, the lesser end first -/
def ed (v x : Nat) : Nat × Nat := (min v x, max v x)
theorem PaintAt.lt {W : World} {p G M : Nat} {us : Nat → Nat} {col : Nat × Nat → Option Nat} (h : PaintAt W p G M us col) : p < W.heap.size := h.box.elim fun _ h => h.1.lt
theorem PaintAt.below {W W' : World} {p G M : Nat} {us : Nat → Nat} {col : Nat × Nat → Option Nat} (h : PaintAt W p G M us col) (hB : Below W.heap.size W W') : PaintAt W' p G M us col :=
  ⟨h.box.elim fun vs hv => ⟨vs, hv.1.below hB hv.1.lt, hv.2⟩, h.map.below hB h.map.lt, h.ne, h.sm⟩
theorem PaintAt.cells {W : World} {p G M : Nat} {us : Nat → Nat} {col : Nat × Nat → Option Nat} (h : PaintAt W p G M us col) : W.cell? ⟨p, 0, none⟩ = some (.pointer (some ⟨G, 0, none⟩)) ∧ W.cell? ⟨p, 1, none⟩ = some (.map (some M)) ∧ (∀ v, v < 16 → W.cell? ⟨p, 2 + v, none⟩ = some (.int .u64 (us v : Nat))) ∧ ∀ o, W.frozen? ⟨p, o, none⟩ = false := by
  obtain ⟨vs, hb, h0, h1, h2, h3⟩ := h.box
  exact ⟨by rw [hb.cell]; exact h1, by rw [hb.cell]; exact h2, fun v hv => by rw [hb.cell]; exact h3 v hv, fun o => hb.frozen o⟩
theorem Ag.of_below {ex : Nat → Prop} {W W' : World} (h : Below W.heap.size W W') : Ag ex W W' := ⟨h.os, h.tape, h.output, h.size, fun k hk _ => h.block k hk⟩
theorem heap_set_other {W : World} {M : Nat} (a : Addr) (hne : M ≠ a.block) (x : Value) : (W.setCell a x).heap[M]? = W.heap[M]? := by
  show (W.heap.modify a.block _)[M]? = _
  rw [Array.getElem?_modify]
  simp [Ne.symm hne]
theorem ofNat64 (a : Nat) (h : a < 18446744073709551616) : (BitVec.ofInt 64 (a : Int)).toNat = a := by
  rw [BitVec.ofInt_natCast, BitVec.toNat_ofNat, Nat.mod_eq_of_lt (by omega)]
theorem pow64 (h : Nat) (hh : h < 64) : IntKind.u64.wrap ((2 : Int) ^ h) = ((2 ^ h : Nat) : Int) := by
  have : (2 : Int) ^ h = ((2 ^ h : Nat) : Int) := by simp
  rw [this]
  exact u64_same _ (Nat.pow_lt_pow_right (by decide) hh)
theorem bor64 (a h : Nat) (ha : a < 18446744073709551616) (hh : h < 64) : bits .or .u64 (a : Int) (IntKind.u64.wrap ((2 : Int) ^ h)) = ((a ||| 2 ^ h : Nat) : Int) := by
  have hp : 2 ^ h < 18446744073709551616 := Nat.pow_lt_pow_right (n := 64) (by decide) hh
  have hx : a ||| 2 ^ h < 18446744073709551616 := Nat.or_lt_two_pow (n := 64) ha hp
  rw [pow64 h hh]
  show IntKind.u64.wrap ((BitVec.ofInt 64 (a : Int) ||| BitVec.ofInt 64 ((2 ^ h : Nat) : Int)).toNat : Int) = _
  rw [BitVec.toNat_or, ofNat64 a ha, ofNat64 _ hp, u64_same _ hx]
theorem bandNot64 (a h : Nat) (ha : a < 18446744073709551616) (hh : h < 64) : bits .andNot .u64 (a : Int) (IntKind.u64.wrap ((2 : Int) ^ h)) = ((ldiff a (2 ^ h) : Nat) : Int) := by
  have hp : 2 ^ h < 18446744073709551616 := Nat.pow_lt_pow_right (n := 64) (by decide) hh
  rw [pow64 h hh]
  show IntKind.u64.wrap ((BitVec.ofInt 64 (a : Int) &&& ~~~BitVec.ofInt 64 ((2 ^ h : Nat) : Int)).toNat : Int) = _
  have e : (BitVec.ofInt 64 (a : Int) &&& ~~~BitVec.ofInt 64 ((2 ^ h : Nat) : Int)).toNat = ldiff a (2 ^ h) := by
    apply Nat.eq_of_testBit_eq
    intro i
    have h1 := ofNat64 a ha
    have h2 := ofNat64 _ hp
    rw [testBit_ldiff, BitVec.toNat_and, Nat.testBit_and, h1]
    by_cases hi : i < 64
    · have : (~~~BitVec.ofInt 64 ((2 ^ h : Nat) : Int)).toNat.testBit i = !(BitVec.ofInt 64 ((2 ^ h : Nat) : Int)).toNat.testBit i := by
        rw [← BitVec.getLsbD, ← BitVec.getLsbD, BitVec.getLsbD_not]; simp [hi]
      rw [this, h2]
    · have : a.testBit i = false := Nat.testBit_lt_two_pow (Nat.lt_of_lt_of_le ha (Nat.le_trans (show 18446744073709551616 ≤ 2 ^ 64 by decide) (Nat.pow_le_pow_right (by decide) (by omega))))
      simp [this]
  rw [e, u64_same _ (Nat.lt_of_le_of_lt (ldiff_le _ _) ha)]
/-- the cells of the box, with the hues at two vertices changed -/
theorem paint_box {w2 W : World} {p G M v x : Nat} {us us' : Nat → Nat} {col : Nat × Nat → Option Nat} {vs : Array Value} (hb : BoxN W p 117 ((vs.setIfInBounds (2 + v) (.int .u64 (us' v : Nat))).setIfInBounds (2 + x) (.int .u64 (us' x : Nat)))) (hs : vs.size = 18) (h0 : vs[0]? = some (.pointer (some ⟨G, 0, none⟩))) (h1 : vs[1]? = some (.map (some M)))
    (h2 : ∀ v, v < 16 → vs[2 + v]? = some (.int .u64 (us v : Nat))) (hus : ∀ y, y ≠ v → y ≠ x → us' y = us y) (hv : v < 16) (hx : x < 16) (hvx : v ≠ x) (hM : MapF ekv ivv W M col) (hne : p ≠ M) (hsm : ∀ y, us' y < 18446744073709551616) : PaintAt W p G M us' col := by
  refine ⟨⟨_, hb, by simp [hs], ?_, ?_, fun y hy => ?_⟩, hM, hne, hsm⟩
  · rw [Array.getElem?_setIfInBounds_ne (by omega), Array.getElem?_setIfInBounds_ne (by omega)]; exact h0
  · rw [Array.getElem?_setIfInBounds_ne (by omega), Array.getElem?_setIfInBounds_ne (by omega)]; exact h1
  · by_cases e1 : y = x
    · subst e1
      rw [Array.getElem?_setIfInBounds_self_of_lt (by simp [hs]; omega)]
    · rw [Array.getElem?_setIfInBounds_ne (by omega)]
      by_cases e2 : y = v
      · subst e2
        rw [Array.getElem?_setIfInBounds_self_of_lt (by omega)]
      · rw [Array.getElem?_setIfInBounds_ne (by omega), hus y e2 e1]; exact h2 y hy
set_option maxHeartbeats 1000000 in
theorem put_any (p G M v x h : Nat) (us : Nat → Nat) (col : Nat × Nat → Option Nat) (w : World) (hP : PaintAt w p G M us col) (hv : v < 16) (hx : x < 16) (hvx : v ≠ x) (hh : h < 64) :
    Calls Tryd.prog 79 #[.pointer (some ⟨p, 0, none⟩), .int .i64 (v : Int), .int .i64 (x : Int), .int .i64 (h : Int)] w fun e w' => e = .returned (.tuple #[]) ∧ PaintAt w' p G M (fun y => if y = v ∨ y = x then us y ||| 2 ^ h else us y) (setF col (ed v x) (some h)) ∧ Ag (fun k => k = p ∨ k = M) w w' := by
  obtain ⟨c0, c1, cu, cf⟩ := hP.cells
  have hp := hP.lt
  have HC1 : ∀ d : BW w.heap.size w, d.w.cell? ⟨p, 1, none⟩ = some (.map (some M)) := fun d => d.cell hp c1
  have HE : Hid (∀ d : BW w.heap.size w, Calls Tryd.prog 96 #[.int .i64 (v : Int), .int .i64 (x : Int)] d.w fun e w' => e = .returned (ekv (ed v x)) ∧ ∃ d' : BW w.heap.size w, w' = d'.w) := fun d => Calls.bw ((edgeOf_any v x d.w).mono fun e w' ⟨h1, h2⟩ => ⟨h1, d.b.trans (h2.mono d.b.size)⟩)
  have CU := Lib.hid cu
  have CF := Lib.hid cf
  have HP := Lib.hid hP
  clear cu cf hP c0 c1
  go_enter Tryd.func79, Tryd.ntmps79
  go_wp2
  refine wp_region_bw_tail 8 (by kernel_rfl) (by kernel_rfl) ?_
  simp only [List.take_succ_cons, List.take_zero, List.drop_succ_cons, List.drop_zero]
  repeat (go_big_quiet_step ((first
    | rfl
    | (go_at_call 96; exact HE.out _))))
  refine wpQuiet_nil ?_
  rintro _ ⟨d, rfl⟩
  have hM : MapF ekv ivv d.w M col := HP.out.map.below d.b HP.out.map.lt
  have HM := Lib.hid hM
  clear hM HC1
  refine wpList_store_f edgeKind rfl (.tmp 11) (.tmp 14) (.tmp 15) rfl M col (ed v x) h rfl rfl rfl HM.out ?_
  intro w2 hM2 hg2
  obtain ⟨vs, hbx, hv0, hv1, hv2, hv3⟩ := HP.out.box
  have hb2 : BoxN w2 p 117 vs := (hbx.below d.b hbx.lt).kept hg2 (fun e => HP.out.ne (by cases e; rfl))
  have l1 := hb2.cell (2 + v)
  rw [hv3 v hv] at l1
  have f1 := hb2.frozen (2 + v)
  have l2 := hb2.cell (2 + x)
  rw [hv3 x hx] at l2
  have f2 := hb2.frozen (2 + x)
  have hvi : ((v : Nat) : Int) < 16 := by omega
  have hxi : ((x : Nat) : Int) < 16 := by omega
  have hvi0 : (0 : Int) ≤ ((v : Nat) : Int) := by omega
  have hxi0 : (0 : Int) ≤ ((x : Nat) : Int) := by omega
  have hhu : IntKind.u64.wrap ((h : Nat) : Int) = (h : Int) := u64_same h (by omega)
  have l2' : ∀ u, (w2.setCell ⟨p, 2 + v, none⟩ u).cell? ⟨p, 2 + x, none⟩ = some (.int .u64 (us x : Nat)) := fun u =>
    (World.cell?_setCell_other _ _ _ _ (fun e => by have := congrArg Addr.off e; simp at this; omega)).trans l2
  have e1 := bor64 (us v) h (HP.out.sm v) hh
  have e2 := bor64 (us x) h (HP.out.sm x) hh
  go_wp2
  go_region
  go_wp2
  go_region
  go_wp2
  refine bodyPost_end (results_none rfl _ _ _) rfl ?_
  have hor : ∀ y, us y ||| 2 ^ h < 18446744073709551616 := fun y => Nat.or_lt_two_pow (n := 64) (HP.out.sm y) (Nat.pow_lt_pow_right (by decide) hh)
  refine ⟨rfl, paint_box (w2 := w2) (us' := fun y => if y = v ∨ y = x then us y ||| 2 ^ h else us y) (v := v) (x := x) (vs := vs) ?_ hv0 hv1 hv2 hv3 (fun y h1 h2 => by simp [h1, h2]) hv hx hvx ?_ HP.out.ne (fun y => by
    show (if y = v ∨ y = x then us y ||| 2 ^ h else us y) < _
    split
    · exact hor y
    · exact HP.out.sm y), ?_⟩
  · simp only [true_or, or_true, if_true]
    exact (hb2.set (2 + v) _).set (2 + x) _
  · exact ((hM2.kept rfl).kept (heap_set_other _ (fun e => HP.out.ne e.symm) _)).kept (heap_set_other _ (fun e => HP.out.ne e.symm) _)
  · exact (((((Ag.of_below d.b).grown hg2 (fun k e => by cases e; exact .inr (.inr rfl))).set ⟨p, 2 + v, none⟩ _ (.inr (.inl rfl))).drewN 1).set ⟨p, 2 + x, none⟩ _ (.inr (.inl rfl))).drewN 1
set_option maxHeartbeats 1000000 in
theorem take_any (p G M v x h : Nat) (us : Nat → Nat) (col : Nat × Nat → Option Nat) (w : World) (hP : PaintAt w p G M us col) (hv : v < 16) (hx : x < 16) (hvx : v ≠ x) (hh : h < 64) (hc : col (ed v x) = some h) :
    Calls Tryd.prog 81 #[.pointer (some ⟨p, 0, none⟩), .int .i64 (v : Int), .int .i64 (x : Int)] w fun e w' => e = .returned (.int .i64 (h : Int)) ∧ PaintAt w' p G M (fun y => if y = v ∨ y = x then ldiff (us y) (2 ^ h) else us y) (setF col (ed v x) none) ∧ Ag (fun k => k = p ∨ k = M) w w' := by
  obtain ⟨c0, c1, cu, cf⟩ := hP.cells
  have hp := hP.lt
  have HC1 : ∀ d : BW w.heap.size w, d.w.cell? ⟨p, 1, none⟩ = some (.map (some M)) := fun d => d.cell hp c1
  have HE : Hid (∀ d : BW w.heap.size w, Calls Tryd.prog 96 #[.int .i64 (v : Int), .int .i64 (x : Int)] d.w fun e w' => e = .returned (ekv (ed v x)) ∧ ∃ d' : BW w.heap.size w, w' = d'.w) := fun d => Calls.bw ((edgeOf_any v x d.w).mono fun e w' ⟨h1, h2⟩ => ⟨h1, d.b.trans (h2.mono d.b.size)⟩)
  have HL : ∀ d : BW w.heap.size w, (Instr.lookup 114 (.map (some M)) (ekv (ed v x)) false).run Tryd.prog d.w = .ok (.int .i64 (h : Int)) d.w := fun d => by
    have := look_f edgeKind false (ed v x) d.w M col (hP.map.below d.b hP.map.lt)
    rw [hc] at this
    exact this
  have CU := Lib.hid cu
  have CF := Lib.hid cf
  have HP := Lib.hid hP
  have HC := Lib.hid hc
  clear cu cf hP c0 c1 hc
  go_enter Tryd.func81, Tryd.ntmps81
  go_wp2
  refine wp_region_bw (by kernel_rfl) (by kernel_rfl) ?_
  repeat (go_big_quiet_step ((first
    | rfl
    | (go_at_call 96; exact HE.out _))))
  refine wpQuiet_nil ?_
  rintro _ ⟨d, rfl⟩
  have HP1 := Lib.hid (HP.out.below d.b)
  have hD1 := Lib.hid d.b
  clear HC1 HE HL
  generalize d.w = w1 at *
  obtain ⟨c0, c1, cu, cf⟩ := HP1.out.cells
  have hp1 := HP1.out.lt
  have HC1 : ∀ d : BW w1.heap.size w1, d.w.cell? ⟨p, 1, none⟩ = some (.map (some M)) := fun d => d.cell hp1 c1
  have HE : Hid (∀ d : BW w1.heap.size w1, Calls Tryd.prog 96 #[.int .i64 (v : Int), .int .i64 (x : Int)] d.w fun e w' => e = .returned (ekv (ed v x)) ∧ ∃ d' : BW w1.heap.size w1, w' = d'.w) := fun d => Calls.bw ((edgeOf_any v x d.w).mono fun e w' ⟨h1, h2⟩ => ⟨h1, d.b.trans (h2.mono d.b.size)⟩)
  clear cu cf c0 c1
  go_wp2
  refine wp_region_bw_tail 7 (by kernel_rfl) (by kernel_rfl) ?_
  simp only [List.take_succ_cons, List.take_zero, List.drop_succ_cons, List.drop_zero]
  repeat (go_big_quiet_step ((first
    | rfl
    | (go_at_call 96; exact HE.out _))))
  refine wpQuiet_nil ?_
  rintro _ ⟨d2, rfl⟩
  have hM : MapF ekv ivv d2.w M col := HP1.out.map.below d2.b HP1.out.map.lt
  have HM := Lib.hid hM
  clear hM HC1
  refine wpList_delete_f edgeKind rfl (.tmp 19) (.tmp 22) rfl M col (ed v x) rfl rfl HM.out ?_
  intro w2 hM2 hg2
  obtain ⟨vs, hbx, hv0, hv1, hv2, hv3⟩ := HP1.out.box
  have hb2 : BoxN w2 p 117 vs := (hbx.below d2.b hbx.lt).kept hg2 (fun e => HP.out.ne (by cases e; rfl))
  have l1 := hb2.cell (2 + v)
  rw [hv3 v hv] at l1
  have f1 := hb2.frozen (2 + v)
  have l2 := hb2.cell (2 + x)
  rw [hv3 x hx] at l2
  have f2 := hb2.frozen (2 + x)
  have hvi : ((v : Nat) : Int) < 16 := by omega
  have hxi : ((x : Nat) : Int) < 16 := by omega
  have hvi0 : (0 : Int) ≤ ((v : Nat) : Int) := by omega
  have hxi0 : (0 : Int) ≤ ((x : Nat) : Int) := by omega
  have hhu : IntKind.u64.wrap ((h : Nat) : Int) = (h : Int) := u64_same h (by omega)
  have l2' : ∀ u, (w2.setCell ⟨p, 2 + v, none⟩ u).cell? ⟨p, 2 + x, none⟩ = some (.int .u64 (us x : Nat)) := fun u =>
    (World.cell?_setCell_other _ _ _ _ (fun e => by have := congrArg Addr.off e; simp at this; omega)).trans l2
  have e1 := bandNot64 (us v) h (HP.out.sm v) hh
  have e2 := bandNot64 (us x) h (HP.out.sm x) hh
  go_wp2
  go_region
  go_wp2
  go_region
  go_wp2
  go_ret
  refine ⟨rfl, paint_box (w2 := w2) (us' := fun y => if y = v ∨ y = x then ldiff (us y) (2 ^ h) else us y) (v := v) (x := x) (vs := vs) ?_ hv0 hv1 hv2 hv3 (fun y h1 h2 => by simp [h1, h2]) hv hx hvx ?_ HP.out.ne (fun y => by
    show (if y = v ∨ y = x then ldiff (us y) (2 ^ h) else us y) < _
    split
    · exact Nat.lt_of_le_of_lt (ldiff_le _ _) (HP.out.sm y)
    · exact HP.out.sm y), ?_⟩
  · simp only [true_or, or_true, if_true]
    exact (hb2.set (2 + v) _).set (2 + x) _
  · exact ((hM2.kept rfl).kept (heap_set_other _ (fun e => HP.out.ne e.symm) _)).kept (heap_set_other _ (fun e => HP.out.ne e.symm) _)
  · exact (((((Ag.of_below (hD1.out.trans (d2.b.mono hD1.out.size))).grown hg2 (fun k e => by cases e; exact .inr (.inr rfl))).set ⟨p, 2 + v, none⟩ _ (.inr (.inl rfl))).drewN 1).set ⟨p, 2 + x, none⟩ _ (.inr (.inl rfl))).drewN 1
end Go.Proofs.YtpknnjcbcndbbaaDoor
