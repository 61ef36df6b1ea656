/- Maps that the call makes, with their stamps: ranging over one; keys that are integers. Orders in plain text: sets as bits; two and two; the sets before, in order; canonical intervals. Boats and peaks in plain text. Small words: rows of integers, of marks, tables; taken over from chapter 7. The library's comparison of two lists of integers; the program's check of edges. Regions that draw their order, of a class of worlds: a copy that the call at the tail's head does not wait for is taken first. Tournaments in plain text: any k boats have k (k - 1) / 2 wins or more (Landau). Numbers in order, a few of them: insertion sort, copies; three numbers put in order. Walks. Triple systems and days in plain text. -/
import Derived.Maps.RangeWalk
import Derived.Test.YtocnhikohfkcaaaMk
import Derived.Test.YtocnhikohfkcaaaG302
import Derived.Test.YtocnhikohfkcaaaG305
import Derived.Test.YtocnhikohfkcaaaRg
set_option linter.unusedVariables false
set_option linter.unusedSimpArgs false
namespace Go.Proofs.Ytocnhikohfkcaaa
open Go.RowKit

set_option linter.unusedSectionVars false
section
variable {P : Program} {T K E : TypeId} {α β : Type} [DecidableEq α] {kv : α → Value} {vv : β → Value} {z : β}
/-- block M is a map of just the entries l, each with a stamp of its own -/
def MapLS (kv : α → Value) (vv : β → Value) (W : World) (M : Nat) (l : List (α × β)) : Prop :=
  (∃ es clock, W.heap[M]? = some (.map es clock) ∧ es.toList.map (fun e => e.key) = (l.map (·.1)).map kv ∧ es.toList.map (fun e => e.val) = (l.map (·.2)).map vv ∧ (∀ x ∈ es.toList, x.born < clock) ∧ (es.toList.map (fun e => e.born)).Nodup) ∧ (l.map (·.1)).Nodup
def MapG (kv : α → Value) (vv : β → Value) (W : World) (M : Nat) (col : α → Option β) : Prop := ∃ l, MapLS kv vv W M l ∧ ∀ a, asFun l a = col a
theorem MapLS.lt {W : World} {M : Nat} {l : List (α × β)} (h : MapLS kv vv W M l) : M < W.heap.size := by
  obtain ⟨⟨es, clock, hb, _⟩, _⟩ := h
  exact (Array.getElem?_eq_some_iff.1 hb).1
theorem MapG.lt {W : World} {M : Nat} {col : α → Option β} (h : MapG kv vv W M col) : M < W.heap.size := h.elim fun _ h => h.1.lt
theorem MapG.f {W : World} {M : Nat} {col : α → Option β} (h : MapG kv vv W M col) : MapF kv vv W M col := by
  obtain ⟨l, ⟨⟨es, clock, h1, h2, h3, _, _⟩, h6⟩, h7⟩ := h
  exact ⟨l, ⟨es, clock, h1, h2, h3⟩, h6, h7⟩
theorem MapLS.kept {W W' : World} {M : Nat} {l : List (α × β)} (h : MapLS kv vv W M l) (hb : W'.heap[M]? = W.heap[M]?) : MapLS kv vv W' M l := by
  obtain ⟨⟨es, clock, h1, h2⟩, h3⟩ := h
  exact ⟨⟨es, clock, hb.trans h1, h2⟩, h3⟩
theorem MapG.kept {W W' : World} {M : Nat} {col : α → Option β} (h : MapG kv vv W M col) (hb : W'.heap[M]? = W.heap[M]?) : MapG kv vv W' M col := by
  obtain ⟨l, h1, h2⟩ := h
  exact ⟨l, h1.kept hb, h2⟩
theorem MapG.below {n : Nat} {W W' : World} {M : Nat} {col : α → Option β} (h : MapG kv vv W M col) (hB : Below n W W') (hn : M < n) : MapG kv vv W' M col := h.kept (hB.block M hn)
theorem MapG.grown {W W' : World} {row : Option Nat} {M : Nat} {col : α → Option β} (h : MapG kv vv W M col) (hg : W.grownBy W' row) (hne : some M ≠ row) : MapG kv vv W' M col := h.kept (hg.block M h.lt hne)
theorem MapG.made (w : World) : MapG kv vv (w.alloc (.map #[] 0)) w.heap.size (fun _ => none) := ⟨[], ⟨⟨#[], 0, World.alloc_heap_new w _, rfl, rfl, (fun x h => by simp at h), by simp⟩, List.nodup_nil⟩, fun _ => rfl⟩
theorem MapG.congr {W : World} {M : Nat} {c c' : α → Option β} (h : MapG kv vv W M c) (e : ∀ a, c a = c' a) : MapG kv vv W M c' := by
  obtain ⟨l, h1, h2⟩ := h
  exact ⟨l, h1, fun a => (h2 a).trans (e a)⟩
theorem look_g (hk : MapKind P T K E kv vv z) (c : Bool) (a : α) (w : World) (M : Nat) (col : α → Option β) (h : MapG kv vv w M col) :
    (Instr.lookup T (.map (some M)) (kv a) c).run P w = .ok (if c then .tuple #[vv ((col a).getD z), .bool (col a).isSome] else vv ((col a).getD z)) w := look_f hk c a w M col h.f
theorem store_g (hk : MapKind P T K E kv vv z) (a : α) (b : β) (w : World) (M : Nat) (col : α → Option β) (h : MapG kv vv w M col) :
    ∃ w', (Instr.mapUpdate T (.map (some M)) (kv a) (vv b)).run P w = .ok () w' ∧ MapG kv vv w' M (setF col a (some b)) ∧ w.grownBy w' (some M) := by
  obtain ⟨l, ⟨⟨es, clock, hb, h1, h2, h5, h6⟩, h3⟩, h4⟩ := h
  have hf := hk.find a _ es.toList w h1
  have hlt := (Array.getElem?_eq_some_iff.1 hb).1
  have hlen : es.size = l.length := by have := congrArg List.length h1; simpa using this
  cases hj : (l.map (·.1)).findIdx? (fun k => decide (a = k)) with
  | none =>
    rw [hj] at hf
    refine ⟨w.putObj M (.map (es.push { key := kv a, val := vv b, born := clock }) (clock + 1)), ?_, ⟨l ++ [(a, b)], ⟨⟨_, _, World.putObj_heap_same hlt, by simp [h1], by simp [h2], fun x hx => ?_, ?_⟩, ?_⟩, fun x => ?_⟩, grownBy_putObj' w M _⟩
    · unfold Instr.mapUpdate
      simp only [Sem.run_bind, run_underlying hk.ut, Result.andThen_ok, getObj, setObj, Sem.run, hb, hk.ck, hf, Sem.run_pure, Option.map_none]
      try rfl
    · rw [Array.toList_push, List.mem_append, List.mem_singleton] at hx
      rcases hx with hx | rfl
      · exact Nat.lt_succ_of_lt (h5 x hx)
      · exact Nat.lt_succ_self _
    · rw [Array.toList_push, List.map_append, List.nodup_append]
      refine ⟨h6, by simp, fun x hx y hy => ?_⟩
      simp at hy
      subst hy
      obtain ⟨e, he, rfl⟩ := List.mem_map.1 hx
      have := h5 e he
      omega
    · rw [List.map_append, List.nodup_append]
      refine ⟨h3, by simp, fun x hx y hy => ?_⟩
      simp at hy
      subst hy
      have := List.findIdx?_eq_none_iff.1 hj x hx
      intro e; subst e; simp at this
    · rw [asFun_append l a b hj]
      unfold setF
      rw [h4 x]
  | some j =>
    rw [hj] at hf
    have hjl : j < l.length := by have := (List.findIdx?_eq_some_iff_findIdx_eq.1 hj).1; simpa using this
    have hka : (l[j]).1 = a := by
      have := (List.findIdx?_eq_some_iff_getElem.1 hj).2.1
      simp at this; exact this.symm
    have hkey : ((es[j]?).map (fun e => e.key)).getD (kv a) = kv a := by
      have : (es.toList.map (fun e => e.key))[j]? = some (kv a) := by rw [h1]; simp [List.getElem?_eq_getElem hjl, hka]
      rw [List.getElem?_map, Array.getElem?_toList] at this
      rw [this]; rfl
    have hbn : (es.modify j fun e => { e with key := kv a, val := vv b }).toList.map (fun e => e.born) = es.toList.map (fun e => e.born) := by
      rw [Array.toList_modify]
      refine List.ext_getElem? fun i => ?_
      rw [List.getElem?_map, List.getElem?_map, List.getElem?_modify]
      by_cases hij : j = i
      · subst hij
        cases es.toList[j]? <;> simp
      · simp [hij]
    refine ⟨w.putObj M (.map (es.modify j fun e => { e with key := kv a, val := vv b }) clock), ?_, ⟨l.modify j fun _ => (a, b), ⟨⟨_, _, World.putObj_heap_same hlt, ?_, ?_, fun x hx => ?_, by rw [hbn]; exact h6⟩, by rw [keys_modify l a b j hj]; exact h3⟩, fun x => ?_⟩, grownBy_putObj' w M _⟩
    · unfold Instr.mapUpdate
      simp only [Sem.run_bind, run_underlying hk.ut, Result.andThen_ok, getObj, setObj, Sem.run, hb, hk.ck, hf, Sem.run_pure, Option.map_some, Instr.keyThatStays, hkey, hk.bits, if_true]
      try rfl
    · rw [keys_modify l a b j hj, ← h1, Array.toList_modify]
      refine List.ext_getElem? fun i => ?_
      rw [List.getElem?_map, List.getElem?_map, List.getElem?_modify]
      by_cases hij : j = i
      · subst hij
        have : (es.toList[j]?).map (fun e => e.key) = some (kv a) := by rw [← List.getElem?_map, h1]; simp [List.getElem?_eq_getElem hjl, hka]
        cases he : es.toList[j]? with
        | none => rw [he] at this; cases this
        | some e => rw [he] at this; simp at this; simp [this]
      · simp [hij]
    · rw [Array.toList_modify]
      refine List.ext_getElem? fun i => ?_
      have h2i : (es.toList[i]?).map (fun e => e.val) = (l[i]?).map (fun e => vv e.2) := by rw [← List.getElem?_map, h2]; simp; rfl
      rw [List.getElem?_map, List.getElem?_map, List.getElem?_map, List.getElem?_modify, List.getElem?_modify]
      by_cases hij : j = i
      · subst hij
        cases he : es.toList[j]? with
        | none =>
          rw [List.getElem?_eq_none_iff] at he
          simp at he
          omega
        | some e => simp [List.getElem?_eq_getElem hjl]
      · simp only [hij, if_false, Option.map_map]
        cases he : es.toList[i]? with
        | none => rw [he] at h2i; cases hl : l[i]? with
          | none => simp
          | some x => rw [hl] at h2i; cases h2i
        | some e => rw [he] at h2i; cases hl : l[i]? with
          | none => rw [hl] at h2i; cases h2i
          | some x => rw [hl] at h2i; simp at h2i; simp [h2i]
    · have hm : x.born ∈ es.toList.map (fun e => e.born) := by rw [← hbn]; exact List.mem_map.2 ⟨x, hx, rfl⟩
      obtain ⟨e, he, h8⟩ := List.mem_map.1 hm
      rw [← h8]; exact h5 e he
    · rw [asFun_modify l a b h3 j hj]
      unfold setF
      rw [h4 x]
/-- a range over the map under way: what is still to come -/
def RngG (kv : α → Value) (vv : β → Value) (W : World) (M r : Nat) (todo : List (α × β)) : Prop :=
  ∃ es clock since seen c0, W.heap[M]? = some (.map es clock) ∧ (es.toList.map (fun e => e.born)).Nodup ∧ (∀ x ∈ es.toList, x.born < since) ∧ W.heap[r]? = some (.mapIter (some M) since seen c0) ∧ since ≤ c0 ∧ since ≤ clock ∧
    (leftOf es seen).toList.map (fun e => e.key) = (todo.map (·.1)).map kv ∧ (leftOf es seen).toList.map (fun e => e.val) = (todo.map (·.2)).map vv
theorem RngG.kept {W W' : World} {M r : Nat} {todo : List (α × β)} (h : RngG kv vv W M r todo) (h1 : W'.heap[M]? = W.heap[M]?) (h2 : W'.heap[r]? = W.heap[r]?) : RngG kv vv W' M r todo := by
  obtain ⟨es, clock, since, seen, c0, a1, a2, a3, a4, a5⟩ := h
  exact ⟨es, clock, since, seen, c0, h1.trans a1, a2, a3, h2.trans a4, a5⟩
theorem RngG.lt {W : World} {M r : Nat} {todo : List (α × β)} (h : RngG kv vv W M r todo) : M < W.heap.size ∧ r < W.heap.size := by
  obtain ⟨es, clock, since, seen, c0, a1, a2, a3, a4, a5⟩ := h
  exact ⟨(Array.getElem?_eq_some_iff.1 a1).1, (Array.getElem?_eq_some_iff.1 a4).1⟩
theorem RngG.ne {W : World} {M r : Nat} {todo : List (α × β)} (h : RngG kv vv W M r todo) : r ≠ M := by
  obtain ⟨es, clock, since, seen, c0, a1, a2, a3, a4, a5⟩ := h
  intro e
  rw [e, a1] at a4
  cases a4
theorem RngG.grown {W W' : World} {row : Option Nat} {M r : Nat} {todo : List (α × β)} (h : RngG kv vv W M r todo) (hg : W.grownBy W' row) (h1 : some M ≠ row) (h2 : some r ≠ row) : RngG kv vv W' M r todo := h.kept (hg.block M h.lt.1 h1) (hg.block r h.lt.2 h2)
theorem MapLS.range {t : TypeId} {w : World} {M : Nat} {l : List (α × β)} (hk : MapKind P T K E kv vv z) (h : MapLS kv vv w M l) :
    ∃ w', (Instr.range T (.map (some M))).run P w = .ok (.pointer (some ⟨w.heap.size, 0, none⟩)) w' ∧ RngG kv vv w' M w.heap.size l ∧ w.grownBy w' none ∧ w'.heap.size = w.heap.size + 1 := by
  have hlt := h.lt
  obtain ⟨⟨es, clock, hb, h1, h2, h5, h6⟩, h3⟩ := h
  have hfl : (leftOf es #[]).toList = es.toList := by
    unfold leftOf
    rw [Array.toList_filter]
    exact List.filter_eq_self.2 fun _ _ => by simp
  refine ⟨_, run_range_map w T K E M es clock hk.ut hb, ⟨es, clock, clock, #[], clock, ((MapKept.heap_alloc w _).2 M hlt).trans hb, h6, h5, (MapKept.heap_alloc w _).1, Nat.le_refl _, Nat.le_refl _, ?_, ?_⟩, World.grownBy_alloc w _ none, by simp⟩
  · rw [← h1, hfl]
  · rw [← h2, hfl]
theorem RngG.next {w : World} {M r : Nat} {todo : List (α × β)} (h : RngG kv vv w M r todo) (ty : TypeId) :
    (todo = [] ∧ (Instr.next (.pointer (some ⟨r, 0, none⟩)) false ty).run P w = .ok (.tuple #[.bool false]) w) ∨
    ∃ pre x y post w', todo = pre ++ (x, y) :: post ∧ (Instr.next (.pointer (some ⟨r, 0, none⟩)) false ty).run P w = .ok (.tuple #[.bool true, kv x, vv y]) w' ∧ RngG kv vv w' M r (pre ++ post) ∧ w.grownBy w' (some r) ∧ w'.heap.size = w.heap.size ∧
      (Instr.entry (.pointer (some ⟨r, 0, none⟩))).run P w' = .ok (.tuple #[kv x, vv y]) w' := by
  have hne := h.ne
  obtain ⟨es, clock, since, seen, c0, hb, hnd, hold, hr, hsc, hsk, h1, h2⟩ := h
  rcases run_next_at (P := P) w ty r M since c0 seen es clock hr hb hold hsc with ⟨h0, hrun⟩ | ⟨e, he, w1, hal, hrun⟩
  · refine Or.inl ⟨?_, hrun⟩
    have h3 := congrArg List.length h1
    rw [List.length_map, List.length_map, List.length_map] at h3
    have : todo.length = 0 := by rw [← h3]; simpa using h0
    exact List.length_eq_zero_iff.1 this
  · obtain ⟨hem, hes⟩ := mem_left he
    obtain ⟨pre, post, hsp⟩ := List.append_of_mem he
    rw [hsp] at h1 h2
    have hl : pre.length < todo.length := by
      have h3 := congrArg List.length h1
      simp at h3; omega
    obtain ⟨⟨x, y⟩, hxy⟩ : ∃ p, todo[pre.length]? = some p := ⟨_, List.getElem?_eq_getElem hl⟩
    have hk1 : e.key = kv x := by
      have h3 := congrArg (fun l => l[pre.length]?) h1
      simp [hxy] at h3
      exact h3
    have hk2 : e.val = vv y := by
      have h3 := congrArg (fun l => l[pre.length]?) h2
      simp [hxy] at h3
      exact h3
    have htd : todo = todo.take pre.length ++ (x, y) :: todo.drop (pre.length + 1) := by
      have := List.take_append_drop pre.length todo
      rw [List.drop_eq_getElem_cons hl] at this
      rw [List.getElem?_eq_getElem hl] at hxy
      rw [Option.some.inj hxy] at this
      exact this.symm
    have hr1 : w1.heap[r]? = some (.mapIter (some M) since seen c0) := by rcases hal with rfl | rfl <;> exact hr
    have hb1 : w1.heap[M]? = some (.map es clock) := by rcases hal with rfl | rfl <;> exact hb
    have hset := MapKept.heap_set (o' := .mapIter (some M) since (seen.push e.born) clock) hr1
    have hb' : (ChangeMaps.setBlock w1 r (.mapIter (some M) since (seen.push e.born) clock)).heap[M]? = some (.map es clock) := (hset.2 M (fun e1 => hne e1.symm)).trans hb1
    have hleft : (leftOf es (seen.push e.born)).toList = pre ++ post := by
      have hL : (leftOf es (seen.push e.born)).toList = (leftOf es seen).toList.filter fun u => !(u.born == e.born) := by
        unfold leftOf
        rw [Array.toList_filter, Array.toList_filter, List.filter_filter]
        refine List.filter_congr fun u _ => ?_
        rw [contains_push]
        cases seen.contains u.born <;> cases (u.born == e.born) <;> rfl
      have hndL : ((leftOf es seen).toList.map (fun u => u.born)).Nodup := by
        unfold leftOf
        rw [Array.toList_filter]
        exact (List.Sublist.map _ List.filter_sublist).nodup hnd
      rw [hsp, List.map_append, List.map_cons, List.nodup_append, List.nodup_cons] at hndL
      rw [hL, hsp, List.filter_append, List.filter_cons]
      have e1 : pre.filter (fun u => !(u.born == e.born)) = pre := List.filter_eq_self.2 fun u hu => by
        have := hndL.2.2 u.born (List.mem_map.2 ⟨u, hu, rfl⟩) e.born List.mem_cons_self
        simpa using this
      have e2 : post.filter (fun u => !(u.born == e.born)) = post := List.filter_eq_self.2 fun u hu => by
        have : u.born ≠ e.born := fun h => hndL.2.1.1 (List.mem_map.2 ⟨u, hu, h⟩)
        simpa using this
      rw [e1, e2]; simp
    have hpl : (todo.take pre.length).length = pre.length := by rw [List.length_take]; omega
    rw [htd] at h1 h2
    rw [List.map_append, List.map_append, List.map_append] at h1 h2
    have s1 := List.append_inj h1 (by rw [List.length_map, List.length_map, List.length_map, hpl])
    have s2 := List.append_inj h2 (by rw [List.length_map, List.length_map, List.length_map, hpl])
    rw [hk1, hk2] at hrun
    refine Or.inr ⟨_, x, y, _, _, htd, hrun, ⟨es, clock, since, seen.push e.born, clock, hb', hnd, hold, hset.1, hsk, hsk, ?_, ?_⟩, ?_, ?_, ?_⟩
    · rw [hleft, List.map_append, List.map_append, List.map_append, s1.1]
      have := s1.2
      simp only [List.map_cons, List.cons.injEq] at this
      rw [this.2]
    · rw [hleft, List.map_append, List.map_append, List.map_append, s2.1]
      have := s2.2
      simp only [List.map_cons, List.cons.injEq] at this
      rw [this.2]
    · rcases hal with rfl | rfl <;> exact ⟨rfl, rfl, rfl, by simp [ChangeMaps.setBlock], fun i _ hi => hset.2 i (fun e1 => hi (by rw [e1]))⟩
    · rcases hal with rfl | rfl <;> simp [ChangeMaps.setBlock]
    · rw [← hk1, ← hk2]
      exact run_entry_at _ r M since seen es clock e hset.1 hb' hem hnd
theorem wpList_store_g (hk : MapKind P T K E kv vv z) {w : World} {ops : Array Oper} {rest : List Oper} {o : Oper} {act : Act} {Q : Exit → Act → World → Prop} (hgd : o.guard = none) (m x y : Operand) (ho : o.op = Op.mapUpdate T m x y) (M : Nat) (col : α → Option β) (a : α) (b : β)
    (hm : act.eval m = .map (some M)) (hx : act.eval x = kv a) (hy : act.eval y = vv b) (hM : MapG kv vv w M col) (hK : ∀ w', MapG kv vv w' M (setF col a (some b)) → w.grownBy w' (some M) → wpList P ops Q rest (act.put o.dst undef) w') : wpList P ops Q (o :: rest) act w := by
  refine wpList_plain hgd fun K hK' => ?_
  obtain ⟨w', hr, h1, h2⟩ := store_g hk a b w M col hM
  unfold Oper.wp
  simp [execOp, ho, hm, hx, hy, hr, Result.andThen, Oper.upon]
  exact hK' _ _ (hK w' h1 h2)
theorem wpList_range_g (hk : MapKind P T K E kv vv z) {w : World} {ops : Array Oper} {rest : List Oper} {o : Oper} {act : Act} {Q : Exit → Act → World → Prop} (hgd : o.guard = none) (m : Operand) (ho : o.op = Op.range T m) (M : Nat) (l : List (α × β))
    (hm : act.eval m = .map (some M)) (hM : MapLS kv vv w M l)
    (hK : ∀ w', RngG kv vv w' M w.heap.size l → w.grownBy w' none → w'.heap.size = w.heap.size + 1 → wpList P ops Q rest (act.put o.dst (.pointer (some ⟨w.heap.size, 0, none⟩))) w') : wpList P ops Q (o :: rest) act w := by
  refine wpList_plain hgd fun K' hK' => ?_
  obtain ⟨w', hrun, r1, r2, r3⟩ := hM.range (t := T) hk
  unfold Oper.wp
  simp [execOp, ho, hm, hrun, Result.andThen]
  exact hK' _ _ (hK w' r1 r2 r3)
theorem wpList_next_g {w : World} {ops : Array Oper} {rest : List Oper} {o : Oper} {act : Act} {Q : Exit → Act → World → Prop} (hgd : o.guard = none) (it : Operand) (ho : o.op = Op.next it false) (M r : Nat) (todo : List (α × β))
    (hit : act.eval it = .pointer (some ⟨r, 0, none⟩)) (h : RngG kv vv w M r todo)
    (hDone : todo = [] → wpList P ops Q rest (act.put o.dst (.tuple #[.bool false])) w)
    (hMore : ∀ (pre : List (α × β)) (x : α) (y : β) (post : List (α × β)) (w' : World), todo = pre ++ (x, y) :: post → RngG kv vv w' M r (pre ++ post) → w.grownBy w' (some r) → w'.heap.size = w.heap.size →
      (Instr.entry (.pointer (some ⟨r, 0, none⟩))).run P w' = .ok (.tuple #[kv x, vv y]) w' → wpList P ops Q rest (act.put o.dst (.tuple #[.bool true, kv x, vv y])) w') : wpList P ops Q (o :: rest) act w := by
  refine wpList_plain hgd fun K' hK' => ?_
  unfold Oper.wp
  rcases h.next (P := P) o.type with ⟨h0, hrun⟩ | ⟨pre, x, y, post, w', h1, hrun, h2, h3, h4, h5⟩
  · simp [execOp, ho, hit, hrun, Result.andThen]
    exact hK' _ _ (hDone h0)
  · simp [execOp, ho, hit, hrun, Result.andThen]
    exact hK' _ _ (hMore pre x y post w' h1 h2 h3 h4 h5)
end
/-- keys that are integers -/
def kvN (n : Nat) : Value := .int .i64 (n : Int)
theorem findNow_nat (a : Nat) : ∀ (ks : List Nat) (es : List MapEntry) (i : Nat), es.map (fun e => e.key) = ks.map kvN →
    Instr.findNow (.int .i64) (kvN a) es i = some ((ks.findIdx? (fun k => decide (a = k))).map fun j => (i + j, ((es[j]?).map (fun e => e.val)).getD undef))
  | [], [], i, _ => by simp [Instr.findNow]
  | [], e :: es, i, h => by cases h
  | k :: ks, [], i, h => by cases h
  | k :: ks, e :: es, i, h => by
    simp only [List.map_cons, List.cons.injEq] at h
    unfold Instr.findNow
    rw [h.1]
    by_cases e' : a = k
    · subst e'
      have : Instr.sameNow (.int .i64) (kvN a) (kvN a) = some true := by simp [Instr.sameNow, kvN]
      rw [this]
      simp [List.findIdx?_cons]
    · have : Instr.sameNow (.int .i64) (kvN a) (kvN k) = some false := by simp [Instr.sameNow, kvN]; omega
      rw [this]
      simp only [findNow_nat a ks es (i + 1) h.2, List.findIdx?_cons, e', decide_false, Bool.false_eq_true, if_false]
      cases ks.findIdx? (fun k => decide (a = k)) with
      | none => rfl
      | some j => simp; omega
theorem natKind {P : Program} {T K E : TypeId} {β : Type} {vv : β → Value} {z : β} (ut : P.underlying T = some (.map K E)) (uk : P.underlying K = some (.int .i64)) (hz : ∀ w, (zeroValue E).run P w = .ok (vv z) w) : MapKind P T K E kvN vv z where
  ut := ut
  find := fun a ks es w h => by
    unfold Instr.findKey
    simp only [Sem.run_bind, run_underlying uk, Result.andThen_ok]
    rw [findNow_nat a ks es 0 h]
    simp
  ck := fun a e w => MapKept.run_checkKey uk (show MapKept.IsKey (.int .i64) (kvN a) from rfl) e 9999
  zero := hz
  bits := fun a => by show (IntKind.i64 == IntKind.i64 && (a : Int) == (a : Int)) = true; simp
end Go.Proofs.Ytocnhikohfkcaaa
namespace Go.Proofs.Ytocnhikohfkcaaa
open Go.RowKit

/-- the set of the numbers below n that have p -/
def bs (p : Nat → Bool) : Nat → Nat
  | 0 => 0
  | n + 1 => bs p n ||| (if p n = true then 2 ^ n else 0)
theorem bs_bit (p : Nat → Bool) : ∀ n i, (bs p n).testBit i = (decide (i < n) && p i)
  | 0, i => by unfold bs; rw [Nat.zero_testBit]; simp
  | n + 1, i => by
    unfold bs
    rw [Nat.testBit_or, bs_bit p n i]
    by_cases hp : p n = true
    · rw [if_pos hp, Nat.testBit_two_pow]
      by_cases e : n = i
      · subst e; simp [hp]
      · by_cases h : i < n
        · simp [h, e, show i < n + 1 by omega]
        · simp [h, e, show ¬ i < n + 1 by omega]
    · rw [if_neg hp, Nat.zero_testBit]
      by_cases e : n = i
      · subst e; simp [hp]
      · by_cases h : i < n
        · simp [h, show i < n + 1 by omega]
        · simp [h, show ¬ i < n + 1 by omega]
theorem bs_lt (p : Nat → Bool) : ∀ n, bs p n < 2 ^ n
  | 0 => by unfold bs; decide
  | n + 1 => by
    unfold bs
    refine Nat.or_lt_two_pow (Nat.lt_of_lt_of_le (bs_lt p n) (Nat.pow_le_pow_right (by decide) (by omega))) ?_
    split
    · exact Nat.pow_lt_pow_right (by decide) (by omega)
    · exact Nat.two_pow_pos _
theorem bs_congr {p q : Nat → Bool} : ∀ {n}, (∀ i, i < n → p i = q i) → bs p n = bs q n
  | 0, _ => rfl
  | n + 1, h => by
    unfold bs
    rw [bs_congr fun i hi => h i (by omega), h n (by omega)]
def SubS (s t : Nat) : Prop := ∀ x, s.testBit x = true → t.testBit x = true
theorem subS_size {s t : Nat} (h : SubS s t) : size s ≤ size t := by
  have key : ∀ k, szTo s k ≤ szTo t k := by
    intro k
    induction k with
    | zero => exact Nat.le_refl _
    | succ k ih =>
      have : tb s k ≤ tb t k := by
        unfold tb
        cases hs : s.testBit k with
        | false => simp
        | true => rw [h k hs]; exact Nat.le_refl _
      simp only [szTo]; omega
  exact key 64
theorem subS_eq {s t : Nat} (h : SubS s t) (hz : size s = size t) (h64 : t < 2 ^ 64) : s = t := by
  have key : ∀ k, szTo s k ≤ szTo t k ∧ (szTo s k = szTo t k → ∀ x, x < k → s.testBit x = t.testBit x) := by
    intro k
    induction k with
    | zero => exact ⟨Nat.le_refl _, fun _ x hx => by omega⟩
    | succ k ih =>
      have hk : tb s k ≤ tb t k := by
        unfold tb
        cases hs : s.testBit k with
        | false => simp
        | true => rw [h k hs]; exact Nat.le_refl _
      refine ⟨by simp only [szTo]; omega, fun he x hx => ?_⟩
      simp only [szTo] at he
      by_cases e : x = k
      · subst e
        have he : tb s x = tb t x := by omega
        unfold tb at he
        cases hs : s.testBit x <;> cases ht : t.testBit x <;> simp_all
      · exact ih.2 (by omega) x (by omega)
  refine Nat.eq_of_testBit_eq fun x => ?_
  by_cases hx : x < 64
  · exact (key 64).2 hz x hx
  · have ht : t.testBit x = false := Nat.testBit_lt_two_pow (Nat.lt_of_lt_of_le h64 (Nat.pow_le_pow_right (by decide) (by omega)))
    rw [ht]
    cases hs : s.testBit x with
    | false => rfl
    | true => rw [h x hs] at ht; cases ht
/-- r is an order of the numbers below n -/
structure OrdP (n : Nat) (r : Nat → Nat → Bool) : Prop where
  irr : ∀ x, x < n → r x x = false
  tr : ∀ x y z, x < n → y < n → z < n → r x y = true → r y z = true → r x z = true
def bef (n : Nat) (r : Nat → Nat → Bool) (y : Nat) : Nat := bs (fun x => r x y) n
def aft (n : Nat) (r : Nat → Nat → Bool) (x : Nat) : Nat := bs (fun y => r x y) n
theorem bef_bit {n : Nat} {r : Nat → Nat → Bool} {x y : Nat} : (bef n r y).testBit x = true ↔ x < n ∧ r x y = true := by unfold bef; rw [bs_bit]; simp
theorem aft_bit {n : Nat} {r : Nat → Nat → Bool} {x y : Nat} : (aft n r x).testBit y = true ↔ y < n ∧ r x y = true := by unfold aft; rw [bs_bit]; simp
def TwoTwo (n : Nat) (r : Nat → Nat → Bool) (a b c d : Nat) : Prop := a < n ∧ b < n ∧ c < n ∧ d < n ∧ r a b = true ∧ r c d = true ∧ r a d = false ∧ r c b = false
def Ovl (r : Nat → Nat → Bool) (x y : Nat) : Prop := x ≠ y ∧ r x y = false ∧ r y x = false
def ThreeOne (n : Nat) (r : Nat → Nat → Bool) (a b c d : Nat) : Prop := a < n ∧ b < n ∧ c < n ∧ d < n ∧ r a b = true ∧ r b c = true ∧ Ovl r d a ∧ Ovl r d b ∧ Ovl r d c
/-- by size, then by number -/
def LtS (s t : Nat) : Prop := size s < size t ∨ (size s = size t ∧ s < t)
theorem ltS_trans {a b c : Nat} (h : LtS a b) (k : LtS b c) : LtS a c := by unfold LtS at *; omega
theorem ltS_irr {a : Nat} (h : LtS a a) : False := by unfold LtS at h; omega
theorem ltS_tri (a b : Nat) : LtS a b ∨ a = b ∨ LtS b a := by unfold LtS; omega
/-- the different sets that are before elements, by their size -/
structure SetsL (n : Nat) (r : Nat → Nat → Bool) (L : List Nat) : Prop where
  up : L.Pairwise LtS
  mem : ∀ s, s ∈ L ↔ ∃ x, x < n ∧ s = bef n r x
theorem pairwise_ext : ∀ {l l' : List Nat}, l.Pairwise LtS → l'.Pairwise LtS → (∀ x, x ∈ l ↔ x ∈ l') → l = l'
  | [], [], _, _, _ => rfl
  | [], b :: l', _, _, h => by have := (h b).2 List.mem_cons_self; cases this
  | a :: l, [], _, _, h => by have := (h a).1 List.mem_cons_self; cases this
  | a :: l, b :: l', h1, h2, h => by
    rw [List.pairwise_cons] at h1 h2
    have e : a = b := by
      rcases List.mem_cons.1 ((h a).1 List.mem_cons_self) with e | e
      · exact e
      · rcases List.mem_cons.1 ((h b).2 List.mem_cons_self) with e' | e'
        · exact e'.symm
        · exact absurd (ltS_trans (h2.1 a e) (h1.1 b e')) ltS_irr
    subst e
    rw [pairwise_ext h1.2 h2.2 fun x => ?_]
    have hx := h x
    rw [List.mem_cons, List.mem_cons] at hx
    constructor
    · intro hm
      rcases hx.1 (.inr hm) with e | e
      · subst e; exact absurd (h1.1 x hm) ltS_irr
      · exact e
    · intro hm
      rcases hx.2 (.inr hm) with e | e
      · subst e; exact absurd (h2.1 x hm) ltS_irr
      · exact e
theorem SetsL.unique {n : Nat} {r : Nat → Nat → Bool} {L L' : List Nat} (h : SetsL n r L) (h' : SetsL n r L') : L = L' := pairwise_ext h.up h'.up fun s => (h.mem s).trans (h'.mem s).symm
def nthN (l : List Nat) (i : Nat) : Nat := l[i]?.getD 0
theorem SetsL.lt {n : Nat} {r : Nat → Nat → Bool} {L : List Nat} (h : SetsL n r L) {i j : Nat} (hij : i < j) (hj : j < L.length) : LtS (nthN L i) (nthN L j) := by
  unfold nthN
  rw [List.getElem?_eq_getElem hj, List.getElem?_eq_getElem (by omega)]
  exact List.pairwise_iff_getElem.1 h.up i j (by omega) hj hij
/-- the last of the first k sets that lack x -/
def rgtTo (L : List Nat) (x : Nat) : Nat → Nat
  | 0 => 0
  | k + 1 => if (nthN L k).testBit x = true then rgtTo L x k else k
/-- where a set stands -/
def lftS (L : List Nat) (s : Nat) : Nat := L.idxOf s
theorem no22_chain {n : Nat} {r : Nat → Nat → Bool} (h : ∀ a b c d, ¬ TwoTwo n r a b c d) {y z : Nat} (hy : y < n) (hz : z < n) : SubS (bef n r y) (bef n r z) ∨ SubS (bef n r z) (bef n r y) := Classical.byContradiction fun hc => by
  have h1 : ∃ a, (bef n r y).testBit a = true ∧ ¬ (bef n r z).testBit a = true := Classical.byContradiction fun hn => hc (.inl fun x hx => Classical.byContradiction fun hb => hn ⟨x, hx, hb⟩)
  have h2 : ∃ c, (bef n r z).testBit c = true ∧ ¬ (bef n r y).testBit c = true := Classical.byContradiction fun hn => hc (.inr fun x hx => Classical.byContradiction fun hb => hn ⟨x, hx, hb⟩)
  obtain ⟨a, a1, a2⟩ := h1
  obtain ⟨c, c1, c2⟩ := h2
  rw [bef_bit] at a1 a2 c1 c2
  refine h a y c z ⟨a1.1, hy, c1.1, hz, a1.2, c1.2, ?_, ?_⟩
  · cases e : r a z with
    | false => rfl
    | true => exact absurd ⟨a1.1, e⟩ a2
  · cases e : r c y with
    | false => rfl
    | true => exact absurd ⟨c1.1, e⟩ c2
theorem bef_lt64 {n : Nat} {r : Nat → Nat → Bool} (hn : n ≤ 64) (y : Nat) : bef n r y < 2 ^ 64 := Nat.lt_of_lt_of_le (bs_lt _ n) (Nat.pow_le_pow_right (by decide) hn)
theorem SetsL.chain {n : Nat} {r : Nat → Nat → Bool} {L : List Nat} (hn : n ≤ 64) (h : SetsL n r L) (h22 : ∀ a b c d, ¬ TwoTwo n r a b c d) {i j : Nat} (hij : i ≤ j) (hj : j < L.length) : SubS (nthN L i) (nthN L j) := by
  by_cases e : i = j
  · subst e; exact fun x hx => hx
  · have hlt := h.lt (i := i) (j := j) (by omega) hj
    have hm : ∀ k, k < L.length → nthN L k ∈ L := fun k hk => by unfold nthN; rw [List.getElem?_eq_getElem hk]; exact List.getElem_mem hk
    obtain ⟨y, hy, ey⟩ := (h.mem _).1 (hm i (by omega))
    obtain ⟨z, hz, ez⟩ := (h.mem _).1 (hm j hj)
    rw [ey, ez] at hlt ⊢
    rcases no22_chain h22 hy hz with hc | hc
    · exact hc
    · have h1 := subS_size hc
      unfold LtS at hlt
      have := subS_eq hc (by omega) (bef_lt64 hn y)
      rw [this] at hlt
      omega
theorem OrdP.bef_sub {n : Nat} {r : Nat → Nat → Bool} (O : OrdP n r) (hn : n ≤ 64) {x y : Nat} (hx : x < n) (hy : y < n) (h : r y x = true) : SubS (bef n r y) (bef n r x) ∧ size (bef n r y) < size (bef n r x) := by
  have h1 : SubS (bef n r y) (bef n r x) := fun z hz => by
    rw [bef_bit] at hz ⊢
    exact ⟨hz.1, O.tr z y x hz.1 hy hx hz.2 h⟩
  refine ⟨h1, Nat.lt_of_le_of_ne (subS_size h1) fun e => ?_⟩
  have h2 := subS_eq h1 e (bef_lt64 hn x)
  have h3 : (bef n r x).testBit y = true := bef_bit.2 ⟨hy, h⟩
  rw [← h2, bef_bit, O.irr y hy] at h3
  cases h3.2
theorem size_zero : size 0 = 0 := by
  have : ∀ k, szTo 0 k = 0 := by
    intro k
    induction k with
    | zero => rfl
    | succ k ih => simp only [szTo]; rw [ih]; simp [tb]
  exact this 64
/-- somebody has nobody before -/
theorem OrdP.least {n : Nat} {r : Nat → Nat → Bool} (O : OrdP n r) (hn : 1 ≤ n) (h64 : n ≤ 64) : ∃ x, x < n ∧ bef n r x = 0 := by
  have key : ∀ k x, x < n → size (bef n r x) ≤ k → ∃ x, x < n ∧ bef n r x = 0 := by
    intro k
    induction k with
    | zero =>
      intro x hx hk
      refine ⟨x, hx, (subS_eq (s := 0) (t := bef n r x) (fun y hy => by rw [Nat.zero_testBit] at hy; cases hy) ?_ (bef_lt64 h64 x)).symm⟩
      rw [size_zero]; omega
    | succ k ih =>
      intro x hx hk
      by_cases h0 : bef n r x = 0
      · exact ⟨x, hx, h0⟩
      · obtain ⟨y, hy⟩ : ∃ y, (bef n r x).testBit y = true := Classical.byContradiction fun hc => h0 (Nat.eq_of_testBit_eq fun i => by
          rw [Nat.zero_testBit]
          cases hb : (bef n r x).testBit i with
          | false => rfl
          | true => exact absurd ⟨i, hb⟩ hc)
        rw [bef_bit] at hy
        exact ih y hy.1 (by have := (O.bef_sub h64 hx hy.1 hy.2).2; omega)
  exact key 64 0 (by omega) (size_le _)
theorem SetsL.nodup {n : Nat} {r : Nat → Nat → Bool} {L : List Nat} (h : SetsL n r L) : L.Nodup := h.up.imp fun hlt e => by rw [e] at hlt; exact ltS_irr hlt
theorem SetsL.at {n : Nat} {r : Nat → Nat → Bool} {L : List Nat} (h : SetsL n r L) {x : Nat} (hx : x < n) : lftS L (bef n r x) < L.length ∧ nthN L (lftS L (bef n r x)) = bef n r x := by
  have hm : bef n r x ∈ L := (h.mem _).2 ⟨x, hx, rfl⟩
  have hl := List.idxOf_lt_length_of_mem hm
  refine ⟨hl, ?_⟩
  unfold nthN lftS
  rw [List.getElem?_eq_getElem hl]
  simp
theorem SetsL.idx {n : Nat} {r : Nat → Nat → Bool} {L : List Nat} (h : SetsL n r L) {k : Nat} (hk : k < L.length) : lftS L (nthN L k) = k := by
  unfold lftS nthN
  rw [List.getElem?_eq_getElem hk]
  exact h.nodup.idxOf_getElem k hk
theorem SetsL.first {n : Nat} {r : Nat → Nat → Bool} {L : List Nat} (O : OrdP n r) (hn : 1 ≤ n) (h64 : n ≤ 64) (h : SetsL n r L) : 1 ≤ L.length ∧ nthN L 0 = 0 := by
  obtain ⟨x, hx, h0⟩ := O.least hn h64
  obtain ⟨h1, h2⟩ := h.at hx
  rw [h0] at h1 h2
  refine ⟨by omega, Classical.byContradiction fun hne => ?_⟩
  by_cases e : lftS L 0 = 0
  · rw [e] at h2; exact hne h2
  · have := h.lt (i := 0) (by omega) h1
    rw [h2] at this
    unfold LtS at this
    rw [size_zero] at this
    omega
theorem rgtTo_spec {n : Nat} {r : Nat → Nat → Bool} {L : List Nat} (O : OrdP n r) (hn : 1 ≤ n) (h64 : n ≤ 64) (h : SetsL n r L) (h22 : ∀ a b c d, ¬ TwoTwo n r a b c d) (x : Nat) : ∀ k, 1 ≤ k → k ≤ L.length → rgtTo L x k < k ∧ ∀ i, i < k → ((nthN L i).testBit x = true ↔ rgtTo L x k < i)
  | 0, h1, _ => by omega
  | k + 1, _, hk => by
    unfold rgtTo
    by_cases hb : (nthN L k).testBit x = true
    · rw [if_pos hb]
      by_cases h0 : k = 0
      · subst h0
        rw [(h.first O hn h64).2, Nat.zero_testBit] at hb
        cases hb
      · obtain ⟨h1, h2⟩ := rgtTo_spec O hn h64 h h22 x k (by omega) (by omega)
        refine ⟨by omega, fun i hi => ?_⟩
        by_cases e : i = k
        · subst e; exact ⟨fun _ => h1, fun _ => hb⟩
        · exact h2 i (by omega)
    · rw [if_neg hb]
      refine ⟨by omega, fun i hi => ⟨fun hi2 => ?_, fun hlt => by omega⟩⟩
      exact absurd (h.chain h64 h22 (i := i) (j := k) (by omega) (by omega) x hi2) hb
/-- the canonical intervals of an order without a two and two represent it -/
theorem canon {n : Nat} {r : Nat → Nat → Bool} {L : List Nat} (O : OrdP n r) (hn : 1 ≤ n) (h64 : n ≤ 64) (h : SetsL n r L) (h22 : ∀ a b c d, ¬ TwoTwo n r a b c d) {x y : Nat} (hx : x < n) (hy : y < n) : r x y = true ↔ rgtTo L x L.length < lftS L (bef n r y) := by
  obtain ⟨h1, h2⟩ := h.at hy
  have h3 := (rgtTo_spec O hn h64 h h22 x L.length (h.first O hn h64).1 (Nat.le_refl _)).2 _ h1
  rw [h2, bef_bit] at h3
  exact ⟨fun hr => h3.1 ⟨hx, hr⟩, fun hlt => (h3.2 hlt).2⟩
/-- intervals make an order without a two and two -/
def ivR (l u : Nat → Int) (n : Nat) (x y : Nat) : Bool := decide (x < n) && decide (y < n) && decide (u x < l y)
theorem ivR_ord {l u : Nat → Int} {n : Nat} (h : ∀ x, x < n → l x ≤ u x) : OrdP n (ivR l u n) where
  irr := fun x hx => by unfold ivR; have := h x hx; simp; omega
  tr := fun x y z hx hy hz h1 h2 => by unfold ivR at *; simp at *; have := h y hy; omega
theorem ivR_no22 {l u : Nat → Int} {n : Nat} : ∀ a b c d, ¬ TwoTwo n (ivR l u n) a b c d := fun a b c d h => by
  obtain ⟨h1, h2, h3, h4, h5, h6, h7, h8⟩ := h
  unfold ivR at *
  simp [h1, h2, h3, h4] at h5 h6 h7 h8
  omega
/-- what is before is said by the left end -/
theorem ivR_left {l u : Nat → Int} {n : Nat} {y z : Nat} (hy : y < n) (hz : z < n) (h : l y = l z) : bef n (ivR l u n) y = bef n (ivR l u n) z := bs_congr fun x hx => by unfold ivR; rw [h]; simp [hy, hz]
end Go.Proofs.Ytocnhikohfkcaaa
namespace Go.Proofs.Ytocnhikohfkcaaa
open Go.RowKit

theorem nodup_in {α : Type} [DecidableEq α] : ∀ (A L : List α), A.Nodup → (∀ x ∈ A, x ∈ L) → A.length ≤ L.length
  | [], _, _, _ => Nat.zero_le _
  | a :: A, L, hn, hs => by
    rw [List.nodup_cons] at hn
    have ha := hs a List.mem_cons_self
    have := nodup_in A (L.erase a) hn.2 fun x hx => (List.mem_erase_of_ne (fun e => hn.1 (by subst e; exact hx))).2 (hs x (List.mem_cons_of_mem _ hx))
    rw [List.length_erase_of_mem ha] at this
    have := List.length_pos_of_mem ha
    rw [List.length_cons]; omega
section
variable (l u : Nat → Int) (m : Nat)
/-- how many intervals contain a number -/
def cntAt (v : Int) : Nat := ((List.range m).filter fun x => decide (l x ≤ v) && decide (v ≤ u x)).length
variable {l u m}
end
end Go.Proofs.Ytocnhikohfkcaaa
namespace Go.Proofs.Ytocnhikohfkcaaa
open Go.RowKit Go.Shelf
def nth (l : List Nat) (i : Nat) : Nat := l[i]?.getD 0
def iv (l : List Nat) : List Value := l.map fun (x : Nat) => Value.int .i64 (x : Int)
theorem iv_length (l : List Nat) : (iv l).length = l.length := by unfold iv; simp
theorem iv_get {l : List Nat} {i : Nat} (h : i < l.length) : (iv l)[i]? = some (.int .i64 (nth l i : Nat)) := by unfold iv nth; rw [List.getElem?_map, List.getElem?_eq_getElem h]; rfl
theorem int_eq {k : IntKind} {a b : Int} (h : a = b) : Value.int k a = .int k b := by rw [h]
theorem iv_snoc (l : List Nat) (x : Nat) : iv (l ++ [x]) = iv l ++ [.int .i64 (x : Int)] := by unfold iv; simp
theorem iv_one (l : List Nat) : ∀ u ∈ iv l, u.oneCell' = true := fun u hu => by unfold iv at hu; obtain ⟨x, _, rfl⟩ := List.mem_map.1 hu; rfl
def SrcI (w : World) (p : Option Addr) (m : Nat) (f : Nat → Int) : Prop := m ≠ 0 → ∃ b o, p = some ⟨b, o, none⟩ ∧ b < w.heap.size ∧ ∀ j, j < m → w.cell? ⟨b, o + j, none⟩ = some (.int .i64 (f j))
theorem SrcI.below {k : Nat} {w W : World} {p : Option Addr} {m : Nat} {f : Nat → Int} (h : SrcI w p m f) (hB : Below k w W) (hk : w.heap.size ≤ k) : SrcI W p m f := fun h0 => by
  obtain ⟨b, o, e, h1, h2⟩ := h h0
  exact ⟨b, o, e, Nat.lt_of_lt_of_le h1 hB.size, fun j hj => (hB.cell (p := ⟨b, o + j, none⟩) (Nat.lt_of_lt_of_le h1 hk)).trans (h2 j hj)⟩
theorem QRow.srcI {w : World} {base : Nat} {p : Option Addr} {m c : Nat} {xs : List Value} {f : Nat → Int} (h : QRow w base 3 1 (.slice p m c) m xs) (hx : ∀ j, j < m → xs[j]? = some (.int .i64 (f j))) : SrcI w p m f := fun hm => by
  obtain ⟨b, o, cap, e, _, hb, _, _, hc, _⟩ := h.at (by omega)
  cases e
  exact ⟨b, o, rfl, hb, fun j hj => (hc j (by omega)).trans (hx j hj)⟩
def BoolP (P : Prop) (e : Ending) : Prop := ∃ b, e = .returned (.bool b) ∧ (b = true ↔ P)
theorem BoolP.yes {P : Prop} (h : P) : BoolP P (.returned (.bool true)) := ⟨true, rfl, fun _ => h, fun _ => rfl⟩
theorem BoolP.no {P : Prop} (h : ¬ P) : BoolP P (.returned (.bool false)) := ⟨false, rfl, (fun h => by cases h), fun h' => absurd h' h⟩
theorem BoolP.dec {P : Prop} {e : Ending} (h : BoolP P e) {b : Bool} (hb : b = true ↔ P) : e = .returned (.bool b) := by
  obtain ⟨b', rfl, h'⟩ := h
  rw [Bool.eq_iff_iff.2 (h'.trans hb.symm)]
theorem SrcI.take {w : World} {p : Option Addr} {m k : Nat} {f : Nat → Int} (h : SrcI w p m f) (hk : k ≤ m) : SrcI w p k f := fun h0 => by
  obtain ⟨b, o, e, h1, h2⟩ := h (by omega)
  exact ⟨b, o, e, h1, fun j hj => h2 j (by omega)⟩
def ivI (h : Nat → Int) (m : Nat) : List Value := (List.range m).map fun j => .int .i64 (h j)
theorem ivI_get (h : Nat → Int) (m : Nat) : ∀ j, j < m → (ivI h m)[j]? = some (.int .i64 (h j)) := fun j hj => by
  unfold ivI; rw [List.getElem?_map, List.getElem?_range hj]; rfl
theorem ivI_len (h : Nat → Int) (m : Nat) : (ivI h m).length = m := by simp [ivI]
theorem ivI_one (h : Nat → Int) (m : Nat) : ∀ u ∈ ivI h m, u.oneCell' = true := fun u hu => by
  obtain ⟨j, _, rfl⟩ := List.mem_map.1 hu; rfl
theorem SrcI.src {w : World} {p : Option Addr} {m : Nat} {h : Nat → Int} (hs : SrcI w p m h) : Src w p m 1 (ivI h m) := by
  refine ⟨by rw [ivI_len, Nat.mul_one], fun hm => ?_⟩
  obtain ⟨b, o, rfl, _, hc⟩ := hs hm
  refine ⟨_, rfl, fun j u hu => ?_⟩
  have hj := (List.getElem?_eq_some_iff.1 hu).1
  rw [ivI_len] at hj
  rw [ivI_get h m j hj] at hu
  cases hu
  rw [Addr.add_lit]; exact hc j hj
theorem ne_or {v v' : Value} (h : ∀ k, v.ownBlock = some k → v'.ownBlock ≠ some k) : v.ownBlock = none ∨ v.ownBlock ≠ v'.ownBlock := by
  cases e : v.ownBlock with
  | none => exact .inl rfl
  | some k => exact .inr fun e' => h k e e'.symm
theorem boxN_at {W : World} {B : Nat} {t : TypeId} {vs : Array Value} (h : B = W.heap.size) : BoxN (W.alloc (.cells vs t)) B t vs := by rw [h]; exact BoxN.new rfl
def RowB (W : World) (B n : Nat) (f : Nat → Int) : Prop := ∃ vs, BoxN W B 3 vs ∧ vs.size = n ∧ ∀ j, j < n → vs[j]? = some (.int .i64 (f j))
theorem RowB.lt {W : World} {B n : Nat} {f : Nat → Int} (h : RowB W B n f) : B < W.heap.size := h.elim fun _ h => h.1.lt
theorem RowB.cell {W : World} {B n : Nat} {f : Nat → Int} (h : RowB W B n f) {x : Nat} (hx : x < n) : W.cell? ⟨B, x, none⟩ = some (.int .i64 (f x)) := by
  obtain ⟨vs, h1, h2, h3⟩ := h
  rw [h1.cell]; exact h3 x hx
theorem RowB.frozen {W : World} {B n : Nat} {f : Nat → Int} (h : RowB W B n f) (x : Nat) : W.frozen? ⟨B, x, none⟩ = false := by
  obtain ⟨vs, h1, _⟩ := h
  exact h1.frozen x
theorem RowB.obj {W : World} {B n : Nat} {f : Nat → Int} (h : RowB W B n f) : ∃ o, W.heap[B]? = some o ∧ o.isCells = true := by
  obtain ⟨vs, h1, _⟩ := h
  exact ⟨_, h1, rfl⟩
theorem RowB.block {W W' : World} {B n : Nat} {f : Nat → Int} (h : RowB W B n f) (hb : W'.heap[B]? = W.heap[B]?) : RowB W' B n f := by
  obtain ⟨vs, h1, h2⟩ := h
  exact ⟨vs, hb.trans h1, h2⟩
theorem RowB.below {W W' : World} {B n k : Nat} {f : Nat → Int} (h : RowB W B n f) (hB : Below k W W') (hk : B < k) : RowB W' B n f := h.block (hB.block B hk)
theorem RowB.ag {ex : Nat → Prop} {W W' : World} {B n : Nat} {f : Nat → Int} (h : RowB W B n f) (hA : Ag ex W W') (hk : ¬ ex B) : RowB W' B n f := h.block (hA.block B h.lt hk)
theorem RowB.set {W : World} {B n : Nat} {f : Nat → Int} (h : RowB W B n f) {x : Nat} (_hx : x < n) (v : Int) : RowB (W.setCell ⟨B, x, none⟩ (.int .i64 v)) B n (fun j => if j = x then v else f j) := by
  obtain ⟨vs, h1, h2, h3⟩ := h
  refine ⟨_, h1.set x (.int .i64 v), by simpa using h2, fun j hj => ?_⟩
  by_cases e : j = x
  · subst e; rw [Array.getElem?_setIfInBounds_self_of_lt (by omega)]; simp
  · rw [Array.getElem?_setIfInBounds_ne (Ne.symm e)]; simp only [if_neg e]; exact h3 j hj
theorem RowB.other {W : World} {B n : Nat} {f : Nat → Int} (h : RowB W B n f) {a : Addr} (hne : B ≠ a.block) (x : Value) : RowB (W.setCell a x) B n f := by
  obtain ⟨vs, h1, h2⟩ := h
  exact ⟨vs, h1.other hne x, h2⟩
theorem RowB.congr {W : World} {B n : Nat} {f f' : Nat → Int} (h : RowB W B n f) (e : ∀ x, x < n → f x = f' x) : RowB W B n f' := by
  obtain ⟨vs, h1, h2, h3⟩ := h
  exact ⟨vs, h1, h2, fun j hj => by rw [h3 j hj, e j hj]⟩
def natI (l : List Nat) (j : Nat) : Int := (nth l j : Nat)
theorem iv_nat (l : List Nat) : ivI (natI l) l.length = iv l := List.ext_getElem? fun j => by
  by_cases h : j < l.length
  · rw [ivI_get _ _ _ h, iv_get h]; rfl
  · rw [List.getElem?_eq_none (by rw [ivI_len]; omega), List.getElem?_eq_none (by rw [iv_length]; omega)]
theorem QRow.ne {W : World} {base base' : Nat} {e e' : TypeId} {size size' : Nat} {v v' : Value} {n n' : Nat} {xs xs' : List Value} (h : QRow W base e size v n xs) (h' : QRow W base' e' size' v' n' xs') (hne : e ≠ e') : ∀ k, v.ownBlock = some k → v'.ownBlock ≠ some k := fun k hk hk' => by
  rcases h.2 with ⟨rfl, _⟩ | ⟨g, o, cap, cur, rfl, _, hg, _⟩
  · cases hk
  · rcases h'.2 with ⟨rfl, _⟩ | ⟨g', o', cap', cur', rfl, _, hg', _⟩
    · cases hk'
    · cases hk
      cases hk'
      rw [hg] at hg'
      cases hg'
      exact hne rfl
/-- a slice of marks, nil where there are none -/
def SrcBl (w : World) (p : Option Addr) (m : Nat) (f : Nat → Bool) : Prop := m ≠ 0 → ∃ b o, p = some ⟨b, o, none⟩ ∧ b < w.heap.size ∧ ∀ j, j < m → w.cell? ⟨b, o + j, none⟩ = some (.bool (f j))
theorem SrcBl.below {k : Nat} {w W : World} {p : Option Addr} {m : Nat} {f : Nat → Bool} (h : SrcBl w p m f) (hB : Below k w W) (hk : w.heap.size ≤ k) : SrcBl W p m f := fun h0 => by
  obtain ⟨b, o, e, h1, h2⟩ := h h0
  exact ⟨b, o, e, Nat.lt_of_lt_of_le h1 hB.size, fun j hj => (hB.cell (p := ⟨b, o + j, none⟩) (Nat.lt_of_lt_of_le h1 hk)).trans (h2 j hj)⟩
/-- marks as cells -/
def bv (f : Nat → Bool) (m : Nat) : List Value := (List.range m).map fun j => .bool (f j)
theorem bv_get (f : Nat → Bool) (m : Nat) : ∀ j, j < m → (bv f m)[j]? = some (.bool (f j)) := fun j hj => by
  unfold bv; rw [List.getElem?_map, List.getElem?_range hj]; rfl
theorem bv_len (f : Nat → Bool) (m : Nat) : (bv f m).length = m := by simp [bv]
theorem bv_snoc (f : Nat → Bool) (m : Nat) : bv f (m + 1) = bv f m ++ [.bool (f m)] := by unfold bv; rw [List.range_succ, List.map_append]; rfl
theorem bv_one (f : Nat → Bool) (m : Nat) : ∀ u ∈ bv f m, u.oneCell' = true := fun u hu => by
  obtain ⟨j, _, rfl⟩ := List.mem_map.1 hu; rfl
theorem QRow.srcB {w : World} {base : Nat} {p : Option Addr} {m c : Nat} {f : Nat → Bool} (h : QRow w base 4 1 (.slice p m c) m (bv f m)) : SrcBl w p m f := fun hm => by
  obtain ⟨b, o, cap, e, _, hb, _, _, hc, _⟩ := h.at (by omega)
  cases e
  exact ⟨b, o, rfl, hb, fun j hj => (hc j (by omega)).trans (bv_get f m j hj)⟩
/-- a table: n rows, the i-th of ln i marks -/
def TblI (W : World) (la : Option Addr) (n : Nat) (ln : Nat → Nat) (r : Nat → Nat → Bool) : Prop := n ≠ 0 → ∃ b o, la = some ⟨b, o, none⟩ ∧ b < W.heap.size ∧ ∀ i, i < n → ∃ p c, W.cell? ⟨b, o + i, none⟩ = some (.slice p (ln i) c) ∧ SrcBl W p (ln i) (r i)
theorem TblI.below {k : Nat} {w W : World} {la : Option Addr} {n : Nat} {ln : Nat → Nat} {r : Nat → Nat → Bool} (h : TblI w la n ln r) (hB : Below k w W) (hk : w.heap.size ≤ k) : TblI W la n ln r := fun h0 => by
  obtain ⟨b, o, e, h1, h2⟩ := h h0
  refine ⟨b, o, e, Nat.lt_of_lt_of_le h1 hB.size, fun i hi => ?_⟩
  obtain ⟨p, c, h3, h4⟩ := h2 i hi
  exact ⟨p, c, (hB.cell (p := ⟨b, o + i, none⟩) (Nat.lt_of_lt_of_le h1 hk)).trans h3, h4.below hB hk⟩
/-- a table that the call has made -/
def TRow (W : World) (base : Nat) (v : Value) (n : Nat) (ln : Nat → Nat) (r : Nat → Nat → Bool) : Prop := ∃ xs, QRow W base 61 1 v n xs ∧ ∀ i, i < n → ∃ p c, xs[i]? = some (.slice p (ln i) c) ∧ QRow W base 4 1 (.slice p (ln i) c) (ln i) (bv (r i) (ln i))
theorem TRow.tbl {W : World} {base : Nat} {p : Option Addr} {c n : Nat} {ln : Nat → Nat} {r : Nat → Nat → Bool} (h : TRow W base (.slice p n c) n ln r) : TblI W p n ln r := fun hm => by
  obtain ⟨xs, h1, h2⟩ := h
  obtain ⟨b, o, cap, e, _, hb, _, _, hc, _⟩ := h1.at (by omega)
  cases e
  refine ⟨b, o, rfl, hb, fun i hi => ?_⟩
  obtain ⟨p, c, h3, h4⟩ := h2 i hi
  exact ⟨p, c, (hc i (by omega)).trans h3, h4.srcB⟩
theorem TRow.below {k base : Nat} {w W : World} {v : Value} {n : Nat} {ln : Nat → Nat} {r : Nat → Nat → Bool} (h : TRow w base v n ln r) (hB : Below k w W) (hk : w.heap.size ≤ k) : TRow W base v n ln r := by
  obtain ⟨xs, h1, h2⟩ := h
  refine ⟨xs, h1.below hB fun k' hk' => Nat.lt_of_lt_of_le (h1.lt k' hk').2 hk, fun i hi => ?_⟩
  obtain ⟨p, c, h3, h4⟩ := h2 i hi
  exact ⟨p, c, h3, h4.below hB fun k' hk' => Nat.lt_of_lt_of_le (h4.lt k' hk').2 hk⟩
theorem TRow.nil (w : World) (base : Nat) (ln : Nat → Nat) (r : Nat → Nat → Bool) : TRow w base (.slice none 0 0) 0 ln r := ⟨[], QRow.nil _ _ _ _, fun i hi => by omega⟩
theorem TRow.isSlice {W : World} {base : Nat} {v : Value} {n : Nat} {ln : Nat → Nat} {r : Nat → Nat → Bool} (h : TRow W base v n ln r) : ∃ p c, v = .slice p n c := h.elim fun _ h => h.1.isSlice
/-- behind an append to it -/
theorem TRow.push {W W' : World} {base : Nat} {v v' : Value} {n : Nat} {ln : Nat → Nat} {r : Nat → Nat → Bool} {xs : List Value} {p : Option Addr} {c : Nat}
    (h2 : ∀ i, i < n → ∃ p c, xs[i]? = some (.slice p (ln i) c) ∧ QRow W base 4 1 (.slice p (ln i) c) (ln i) (bv (r i) (ln i))) (h1 : QRow W base 61 1 v n xs)
    (hq : QRow W base 4 1 (.slice p (ln n) c) (ln n) (bv (r n) (ln n))) (hg : W.grownBy W' v.ownBlock) (h3 : QRow W' base 61 1 v' (n + 1) (xs ++ [.slice p (ln n) c])) : TRow W' base v' (n + 1) ln r := by
  have hxl := h1.1
  refine ⟨_, h3, fun i hi => ?_⟩
  by_cases e : i = n
  · subst e
    refine ⟨p, c, ?_, hq.kept hg (ne_or (hq.ne h1 (by decide)))⟩
    rw [List.getElem?_append_right (by omega)]; simp [hxl]
  · obtain ⟨p', c', h4, h5⟩ := h2 i (by omega)
    refine ⟨p', c', ?_, h5.kept hg (ne_or (h5.ne h1 (by decide)))⟩
    rw [List.getElem?_append_left (by omega)]; exact h4
end Go.Proofs.Ytocnhikohfkcaaa
namespace Go.Proofs.Ytocnhikohfkcaaa
open Go.RowKit

def cmpI (x y : Int) : Int := if x < y then -1 else if y < x then 1 else 0
def cmpL : List Int → List Int → Int
  | [], [] => 0
  | [], _ :: _ => -1
  | _ :: _, [] => 1
  | x :: xs, y :: ys => if x < y then -1 else if y < x then 1 else cmpL xs ys
theorem cmpL_drop (xs ys : List Int) : ∀ (k : Nat), (∀ j, j < k → xs[j]?.getD 0 = ys[j]?.getD 0) → k ≤ xs.length → k ≤ ys.length → cmpL xs ys = cmpL (xs.drop k) (ys.drop k)
  | 0, _, _, _ => by simp
  | k + 1, h, h1, h2 => by
    rw [cmpL_drop xs ys k (fun j hj => h j (by omega)) (by omega) (by omega)]
    have e := h k (by omega)
    rw [List.drop_eq_getElem_cons (by omega : k < xs.length), List.drop_eq_getElem_cons (by omega : k < ys.length)]
    have e1 : xs[k] = ys[k] := by simpa [List.getElem?_eq_getElem (by omega : k < xs.length), List.getElem?_eq_getElem (by omega : k < ys.length)] using e
    simp only [cmpL, e1, Int.lt_irrefl, if_false]
theorem cmpL_at (xs ys : List Int) (k : Nat) (h : ∀ j, j < k → xs[j]?.getD 0 = ys[j]?.getD 0) (h1 : k < xs.length) (h2 : k < ys.length) (hne : xs[k]?.getD 0 ≠ ys[k]?.getD 0) : cmpL xs ys = cmpI (xs[k]?.getD 0) (ys[k]?.getD 0) := by
  rw [cmpL_drop xs ys k h (by omega) (by omega), List.drop_eq_getElem_cons h1, List.drop_eq_getElem_cons h2]
  simp only [List.getElem?_eq_getElem h1, List.getElem?_eq_getElem h2, Option.getD_some] at hne ⊢
  simp only [cmpL, cmpI]
  split
  · rfl
  · split
    · rfl
    · omega

theorem isNaN_any (x : Int) (w : World) : Calls Try.prog 82 #[.int .i64 x] w fun e w' => e = .returned (.bool false) ∧ w' = w := by
  go_enter Try.func82, Try.ntmps82
  go_wp2
  go_ret
  exact ⟨rfl, rfl⟩
theorem compare_any (x y : Int) (w : World) : Calls Try.prog 68 #[.int .i64 x, .int .i64 y] w fun e w' => e = .returned (.int .i64 (cmpI x y)) ∧ w' = w := by
  have H : Hid (cmpI x y = if x < y then -1 else if y < x then 1 else 0) := rfl
  go_enter Try.func68, Try.ntmps68
  go_wp2_with (first | (go_at_call 82; refine (isNaN_any _ _).mono ?_; rintro e w' ⟨rfl, rfl⟩))
  all_goals (go_ret; refine ⟨ret_int ?_, rfl⟩; rw [H.out])
  · rw [if_pos (by assumption)]
  · rw [if_neg (by omega), if_pos (by assumption)]
  · rw [if_neg (by omega), if_neg (by omega)]
set_option maxHeartbeats 1000000 in
theorem compareL_any (b1 o1 b2 o2 c1 c2 : Nat) (xs ys : List Int) (w : World) (len : Nat) (hx : xs.length = len) (hy : ys.length = len) (hl : len ≤ 1099511627776)
    (h1 : ∀ j, j < len → w.cell? ⟨b1, o1 + j, none⟩ = some (.int .i64 (xs[j]?.getD 0))) (h2 : ∀ j, j < len → w.cell? ⟨b2, o2 + j, none⟩ = some (.int .i64 (ys[j]?.getD 0))) :
    Calls Try.prog 56 #[.slice (some ⟨b1, o1, none⟩) len c1, .slice (some ⟨b2, o2, none⟩) len c2] w fun e w' => e = .returned (.int .i64 (cmpL xs ys)) ∧ w' = w := by
  have HX := Lib.hid hx
  have HY := Lib.hid hy
  clear hx hy
  go_enter Try.func56, Try.ntmps56
  go_wp2
  go_loopw [11] (fun i wr => ∃ k : Nat, k ≤ len ∧ i = .int .i64 k ∧ Hid (∀ j, j < k → xs[j]?.getD 0 = ys[j]?.getD 0) ∧ wr = w) (fun i _ => len - (intOf i).toNat)
  case atStart => exact ⟨0, Nat.zero_le _, rfl, (fun j hj => by omega : ∀ j, j < 0 → xs[j]?.getD 0 = ys[j]?.getD 0), rfl⟩
  case round =>
    obtain ⟨k, hk, rfl, hh, rfl⟩ := hrel
    have g1 : k < len → wr.cell? ⟨b1, o1 + k, none⟩ = some (.int .i64 (xs[k]?.getD 0)) := fun h => h1 k h
    have g2 : k < len → wr.cell? ⟨b2, o2 + k, none⟩ = some (.int .i64 (ys[k]?.getD 0)) := fun h => h2 k h
    clear h1 h2
    obtain ⟨x, hx⟩ : ∃ x, x = xs[k]?.getD 0 := ⟨_, rfl⟩
    obtain ⟨y, hy⟩ : ∃ y, y = ys[k]?.getD 0 := ⟨_, rfl⟩
    rw [← hx] at g1
    rw [← hy] at g2
    have Hx := Lib.hid hx
    have Hy := Lib.hid hy
    clear hx hy
    have hcz : x = y → cmpI x y = 0 := fun e => by simp [cmpI, e]
    have hcn : x ≠ y → cmpI x y ≠ 0 := fun e => by unfold cmpI; split; · decide
                                                   · split
                                                     · decide
                                                     · omega
    have HC := And.intro hcz hcn
    clear hcz hcn
    have HC' := Lib.hid HC
    clear HC
    go_wp2_with (first | (go_at_call 68; refine (compare_any x y _).mono ?_; rintro e w' ⟨rfl, rfl⟩))
    · have hc : (cmpI x y != 0) = true := by assumption
      have hne : x ≠ y := fun e => by rw [HC'.out.1 e] at hc; simp at hc
      go_ret
      refine ⟨ret_int ?_, rfl⟩
      rw [cmpL_at xs ys k hh.out (by rw [HX.out]; assumption) (by rw [HY.out]; assumption) (by rw [← Hx.out, ← Hy.out]; exact hne), ← Hx.out, ← Hy.out]
    · have hc : (cmpI x y != 0) = false := by assumption
      have he : x = y := Classical.byContradiction fun e => by have := HC'.out.2 e; rw [bne_eq_false_iff_eq] at hc; exact this hc
      go_roundw
      case rel =>
        refine ⟨k + 1, by omega, by go_num, ?_, trivial⟩
        show ∀ j, j < k + 1 → _
        intro j hj
        by_cases e : j = k
        · rw [e, ← Hx.out, ← Hy.out, he]
        · exact hh.out j (by omega)
      case measure => simp [intOf]; omega
    · have : k = len := by omega
      subst this
      go_ret
      refine ⟨ret_int ?_, rfl⟩
      rw [cmpL_drop xs ys k hh.out (by rw [HX.out]; exact Nat.le_refl _) (by rw [HY.out]; exact Nat.le_refl _), ← HX.out, List.drop_length, HX.out, ← HY.out, List.drop_length]
      rfl
end Go.Proofs.Ytocnhikohfkcaaa
namespace Go.Proofs.Ytocnhikohfkcaaa
open Go.RowKit
section
variable {P : Program} {ops : Array Oper} {md : Region.Mode} {C : World → Prop}
/-- each operation from m on and ahead of n has one behind it, at most n, that waits for it -/
def sinkFrom (md : Region.Mode) (ops : Array Oper) (m n : Nat) : Bool :=
  (List.range n).all fun i => decide (i < m) || (List.range (n + 1)).any fun j => decide (i < j) && Region.waitsFor md ops j i
theorem tail_waits_from {m n : Nat} {listed : Array Bool} (hs : sinkFrom md ops m n = true) (hc : Region.chainB md ops n = true) (hn : n < ops.size) (inv : HeadInv md ops n listed) :
    ∀ (d i : Nat), n - i = d → i < n → m ≤ i → listed.getD i true = false → ∀ t, n ≤ t → t ∉ Region.ready md ops listed := by
  intro d
  induction d using Nat.strongRecOn with
  | _ d ih =>
    intro i hd hi hmi hun t ht hr
    obtain ⟨_, ot, hot, hall⟩ := mem_ready.1 hr
    have htlt : t < ops.size := (Array.getElem?_eq_some_iff.1 hot).1
    by_cases htn : t = n
    · subst htn
      have h1 := List.all_eq_true.1 hs i (List.mem_range.2 hi)
      simp only [Bool.or_eq_true, decide_eq_true_eq] at h1
      obtain ⟨j, hj, hj2⟩ := List.any_eq_true.1 (h1.resolve_left (by omega))
      simp only [Bool.and_eq_true, decide_eq_true_eq] at hj2
      obtain ⟨oj, hoj, e, he, hb, hon⟩ := Region.waitsFor_spec hj2.2
      have hjle : j ≤ t := by have := List.mem_range.1 hj; omega
      by_cases hjt : j = t
      · subst hjt
        have : oj = ot := Option.some.inj (hoj.symm.trans hot)
        subst this
        have h2 := hall e he hb
        rw [hon, getD_both hun] at h2
        cases h2
      · cases hl : listed.getD j false with
        | true =>
          have h2 := inv.closed j oj hoj hl e he hb
          rw [hon, getD_both hun] at h2
          cases h2
        | false =>
          have hjs : j < listed.size := by rw [inv.size]; omega
          exact ih (t - j) (by omega) j rfl (by omega) (by omega) (getD_in hjs hl) t (Nat.le_refl _) hr
    · have h1 := List.all_eq_true.1 hc t (List.mem_range.2 htlt)
      simp only [Bool.or_eq_true, decide_eq_true_eq] at h1
      rcases h1 with h1 | h1
      · omega
      · obtain ⟨o', ho', e, he, hb, hon⟩ := Region.waitsFor_spec h1
        have : o' = ot := Option.some.inj (ho'.symm.trans hot)
        subst this
        have h2 := hall e he hb
        rw [hon, getD_both (inv.tail (t - 1) (by omega) (by omega))] at h2
        cases h2
theorem headC_first_from {m n i : Nat} {oi : Oper} {v : Value} {L : Array Bool → Act → Prop} (hi : ops[i]? = some oi) (hsel : ∀ (j : Nat) (o : Oper) cs b, ops[j]? = some o → o.op ≠ .select cs b)
    (hs : sinkFrom md ops m n = true) (hc : Region.chainB md ops n = true) (hn : n < ops.size) (hin : i < n) (hmi : m ≤ i) (hdone : ∀ listed a, L listed a → ∀ j ∈ Region.ready md ops listed, n ≤ j) :
    ∀ (f : Nat) (listed : Array Bool) (a : Act), HeadInv md ops n listed →
      (∀ j oj, ops[j]? = some oj → j ≠ i → listed.getD j true = false → (∀ e ∈ oj.after, Region.binds md e = true → e.on ≠ i) → oi.apart ops oj = true) →
      i ∈ Region.ready md ops listed → YieldsIn P ops C oi v a → headC P md ops C n L f (listed.setIfInBounds i true) (a.put oi.dst v) → headC P md ops C n L (f + 1) listed a := by
  intro f
  induction f with
  | zero =>
    intro listed a inv _ hr hy H
    refine ⟨List.ne_nil_of_mem hr, fun j hj => ?_⟩
    have hjn : j < n := Nat.lt_of_not_le fun h => tail_waits_from hs hc hn inv _ i rfl hin hmi (mem_ready.1 hr).1 j h hj
    by_cases hji : j = i
    · subst hji; exact ⟨hjn, hy.qOp hi H⟩
    · exact absurd (hdone _ _ H j (ready_mono hj hji)) (by omega)
  | succ f ih =>
    intro listed a inv hfree hr hy H
    have hun := (mem_ready.1 hr).1
    refine ⟨List.ne_nil_of_mem hr, fun j hj => ?_⟩
    have hjn : j < n := Nat.lt_of_not_le fun h => tail_waits_from hs hc hn inv _ i rfl hin hmi hun j h hj
    refine ⟨hjn, ?_⟩
    by_cases hji : j = i
    · subst hji; exact hy.qOp hi H
    · have h1 := (H.2 j (ready_mono hj hji)).2
      obtain ⟨hjun, oj, hoj, hall⟩ := mem_ready.1 hj
      have hnot : ∀ e ∈ oj.after, Region.binds md e = true → e.on ≠ i := fun e he hb heq => by
        have h3 := hall e he hb
        rw [heq, getD_both hun] at h3
        cases h3
      have h2 := qOp_put hoj (hfree j oj hoj hji hjun hnot) (fun cs b => hsel i oi cs b hi) (fun cs b => hsel j oj cs b hoj) hy h1
      refine qOp_mono (fun a' h3 => ih (listed.setIfInBounds j true) a' (inv.set hj hjn) (fun k ok hk hki hu hno => ?_) (ready_mono hr (Ne.symm hji)) h3.1 ?_) h2
      · by_cases hjk : j = k
        · subst hjk; exact hfree j ok hk hki hjun hno
        · rw [getD_set_ne true hjk] at hu; exact hfree k ok hk hki hu hno
      · rw [Array.setIfInBounds_comm _ _ hji]; exact h3.2
theorem headC_lex_from {m n g : Nat} {Lq : Act → Prop} (hsel : Region.noSelect ops = true) (hs : sinkFrom md ops m n = true) (hc : Region.chainB md ops n = true) (hn : n < ops.size) :
    ∀ (l : List Oper) (k : Nat) (listed : Array Bool) (a : Act), m ≤ k → (∀ j, j < l.length → l[j]? = ops[k + j]?) → k + l.length = n → HeadInv md ops n listed →
    Region.lexHead md ops g l.length k listed = true → wpQuiet P ops C Lq l a → headC P md ops C n (fun listed' a' => Region.seqB md ops g n listed' = true ∧ Lq a') l.length listed a
  | [], k, listed, a, _, _, hk, _, hB, h => by
    obtain rfl : k = n := by simpa using hk
    exact ⟨by simpa [Region.lexHead] using hB, h⟩
  | o :: l, k, listed, a, hmk, hl, hk, inv, hB, h => by
    have h0 : ops[k]? = some o := by simpa using (hl 0 (by simp)).symm
    simp only [List.length_cons, Region.lexHead, Bool.and_eq_true] at hB
    have hkn : k < n := by simp only [List.length_cons] at hk; omega
    have hr : k ∈ Region.ready md ops listed := by simpa using hB.1.1
    have hst : qOp P ops C k (wpQuiet P ops C Lq l) a := by unfold qOp; simp only [h0]; exact h
    obtain ⟨v, hy, hK⟩ := yieldsIn_of_qOp h0 hst
    exact headC_first_from h0 (Region.noSelect_spec hsel) hs hc hn hkn hmk (fun listed' a' hL => seqB_ready hL.1) l.length listed a inv (Region.free_spec h0 hB.1.2) hr hy
      (headC_lex_from hsel hs hc hn l (k + 1) _ _ (by omega) (fun j hj => by have := hl (j + 1) (by simp; omega); simpa [Nat.add_assoc, Nat.add_comm 1 j] using this) (by simp only [List.length_cons] at hk; omega) (inv.set hr hkn) hB.2 hK)
end
/-- the region's first operation may be taken first, and then its head to n is quiet, and what waits for it follows -/
def copyTailB (md : Region.Mode) (ops : Array Oper) (n : Nat) : Bool :=
  Region.noSelect ops && decide (n < ops.size) && decide (1 ≤ n) && sinkFrom md ops 1 n && Region.chainB md ops n && Region.free md ops (Array.replicate ops.size false) 0 && (Region.ready md ops (Array.replicate ops.size false)).contains 0 &&
    Region.lexHead md ops (ops.size - n) (n - 1) 1 ((Array.replicate ops.size false).setIfInBounds 0 true)
theorem wp_region_bw_copy_tail {P : Program} {id : Nat} {Q : Exit → Act → World → Prop} {a : Act} {w : World} {l : List Oper} {o : Oper} {v : Value} (n : Nat) (hm : P.follows .mixedOrders = true) (hB : copyTailB .any (o :: l).toArray n = true)
    (hQ : ∀ c a w, Q (.panic c) (a.put o.dst v) w → Q (.panic c) a w) (hy : Yields P (o :: l).toArray o v a)
    (h : wpQuiet P (o :: l).toArray (fun W => ∃ d : BW w.heap.size w, W = d.w) (fun a' => ∀ W, (∃ d : BW w.heap.size w, W = d.w) → wpList P (o :: l).toArray Q (l.drop (n - 1)) a' W) (l.take (n - 1)) (a.put o.dst v)) : (Code.region id (o :: l).toArray true).wp P Q a w := by
  simp only [copyTailB, Bool.and_eq_true, decide_eq_true_eq] at hB
  obtain ⟨⟨⟨⟨⟨⟨⟨hsel, hn⟩, hn1⟩, hs⟩, hc⟩, hfr⟩, hrd⟩, hlex⟩ := hB
  have hC : ∃ d : BW w.heap.size w, { w with drawn := w.drawn + 1 } = d.w := ⟨BW.of _ (below_dr (Below.refl _ w) 1), rfl⟩
  generalize hops : (o :: l).toArray = ops at *
  have hsz : ops.size = l.length + 1 := by rw [← hops]; simp
  have ho0 : ops[0]? = some o := by rw [← hops]; rfl
  have htl : (l.take (n - 1)).length = n - 1 := by simp; omega
  have hdl : (l.drop (n - 1)).length = ops.size - n := by simp; omega
  have hr0 : 0 ∈ Region.ready .any ops (Array.replicate ops.size false) := by simpa using hrd
  have inv0 : HeadInv .any ops n (Array.replicate ops.size false) :=
    ⟨by simp, fun j oj _ hl => (by rw [getD_replicate_false] at hl; cases hl), fun t _ ht => getD_in (by simpa using ht) (getD_replicate_false _ _)⟩
  have H := headC_lex_from (md := .any) (g := ops.size - n) hsel hs hc hn (l.take (n - 1)) 1 _ _ (Nat.le_refl _) (fun j hj => by
    have hj' : j < n - 1 := by rw [htl] at hj; exact hj
    rw [← hops]
    simp [hj', Nat.add_comm 1 j]) (by rw [htl]; omega) (inv0.set hr0 hn1) (by rw [htl]; exact hlex) h
  refine wp_region_any hm ?_
  have H2 := headC_any (Q' := Q) (g := ops.size - n) (fun listed a' w' hw' hL => by
    rw [← hdl]
    exact wpAny_of_seq (l.drop (n - 1)) n listed a' w' (fun j => by rw [← hops]; simp; rw [show n + j = (n - 1 + j) + 1 by omega]; simp) (by rw [hdl]; exact hL.1) (hL.2 w' hw')) (l.take (n - 1)).length _ _ _ hC H
  rw [htl] at H2
  have H3 := wpAny_take ho0 hsel hfr hrd hQ hy H2
  rw [show n - 1 + (ops.size - n) + 1 = ops.size by omega] at H3
  exact H3
end Go.Proofs.Ytocnhikohfkcaaa
namespace Go.Proofs.Ytocnhikohfkcaaa
open Go.RowKit

theorem nodup_sub {α : Type} [DecidableEq α] : ∀ (a b : List α), a.Nodup → (∀ x ∈ a, x ∈ b) → a.length ≤ b.length
  | [], _, _, _ => Nat.zero_le _
  | x :: a, b, hn, hs => by
    rw [List.nodup_cons] at hn
    have hx := hs x List.mem_cons_self
    have h1 := nodup_sub a (b.erase x) hn.2 fun y hy => by
      have hne : y ≠ x := fun e => hn.1 (by rw [← e]; exact hy)
      exact (List.mem_erase_of_ne hne).2 (hs y (List.mem_cons_of_mem _ hy))
    rw [List.length_erase_of_mem hx] at h1
    have := List.length_pos_of_mem hx
    rw [List.length_cons]
    omega
/-- how many of the first n -/
def cnt (p : Nat → Bool) : Nat → Nat
  | 0 => 0
  | n + 1 => cnt p n + (p n).toNat
theorem cnt_filter (p : Nat → Bool) : ∀ n, cnt p n = ((List.range n).filter p).length
  | 0 => rfl
  | n + 1 => by
    rw [List.range_succ, List.filter_append, List.length_append]
    unfold cnt
    rw [cnt_filter p n]
    cases h : p n <;> simp [h]
theorem cnt_le (p : Nat → Bool) : ∀ n, cnt p n ≤ n
  | 0 => Nat.le_refl _
  | n + 1 => by
    have := cnt_le p n
    unfold cnt
    cases p n <;> simp <;> omega
theorem cnt_congr {p q : Nat → Bool} : ∀ {n}, (∀ i, i < n → p i = q i) → cnt p n = cnt q n
  | 0, _ => rfl
  | n + 1, h => by unfold cnt; rw [cnt_congr fun i hi => h i (by omega), h n (by omega)]
structure TourP (n : Nat) (t : Nat → Nat → Bool) : Prop where
  irr : ∀ i, i < n → t i i = false
  tot : ∀ i j, i < n → j < n → i ≠ j → t i j = !t j i
theorem sum_pairs {n : Nat} {t : Nat → Nat → Bool} (h : TourP n t) : ∀ σ : List Nat, σ.Nodup → (∀ x ∈ σ, x < n) → 2 * (σ.map fun i => (σ.filter (t i)).length).sum = σ.length * (σ.length - 1)
  | [], _, _ => rfl
  | x :: σ, hn, hl => by
    rw [List.nodup_cons] at hn
    have ih := sum_pairs h σ hn.2 fun y hy => hl y (List.mem_cons_of_mem _ hy)
    have hx := hl x List.mem_cons_self
    have e1 : ((x :: σ).filter (t x)).length = (σ.filter (t x)).length := by
      rw [List.filter_cons, h.irr x hx]; simp
    have e2 : ∀ τ : List Nat, (∀ y ∈ τ, y ∈ σ) → (τ.map fun i => ((x :: σ).filter (t i)).length).sum = (τ.map fun i => (σ.filter (t i)).length).sum + (τ.filter fun i => t i x).length := by
      intro τ
      induction τ with
      | nil => intro _; rfl
      | cons y τ ihτ =>
        intro hs
        have := ihτ fun z hz => hs z (List.mem_cons_of_mem _ hz)
        rw [List.map_cons, List.sum_cons, List.map_cons, List.sum_cons, this, List.filter_cons, List.filter_cons]
        cases hh : t y x <;> simp <;> omega
    have e3 : ∀ τ : List Nat, (∀ y ∈ τ, y ∈ σ) → (τ.filter (t x)).length + (τ.filter fun i => t i x).length = τ.length := by
      intro τ
      induction τ with
      | nil => intro _; rfl
      | cons y τ ihτ =>
        intro hs
        have := ihτ fun z hz => hs z (List.mem_cons_of_mem _ hz)
        have hy := hs y List.mem_cons_self
        have hne : y ≠ x := fun e => hn.1 (by rw [← e]; exact hy)
        have ht := h.tot y x (hl y (List.mem_cons_of_mem _ hy)) hx hne
        rw [List.filter_cons, List.filter_cons, List.length_cons, ht]
        cases hh : t x y <;> simp <;> omega
    rw [List.map_cons, List.sum_cons, e1, e2 σ fun y hy => hy, List.length_cons]
    have h3 := e3 σ fun y hy => hy
    have h4 : (σ.length + 1) * (σ.length + 1 - 1) = σ.length * (σ.length - 1) + 2 * σ.length := by
      cases σ.length with
      | zero => rfl
      | succ k =>
        simp only [Nat.add_sub_cancel]
        simp only [Nat.add_mul, Nat.mul_add, Nat.mul_one, Nat.one_mul]
        omega
    omega
/-- the scores of any boats -/
theorem landau {n : Nat} {t : Nat → Nat → Bool} (h : TourP n t) (σ : List Nat) (hn : σ.Nodup) (hl : ∀ x ∈ σ, x < n) : σ.length * (σ.length - 1) ≤ 2 * (σ.map fun i => cnt (t i) n).sum := by
  rw [← sum_pairs h σ hn hl]
  have : ∀ τ : List Nat, (τ.map fun i => (σ.filter (t i)).length).sum ≤ (τ.map fun i => cnt (t i) n).sum := by
    intro τ
    induction τ with
    | nil => exact Nat.le_refl _
    | cons y τ ih =>
      rw [List.map_cons, List.sum_cons, List.map_cons, List.sum_cons]
      have : (σ.filter (t y)).length ≤ cnt (t y) n := by
        rw [cnt_filter]
        refine nodup_sub _ _ (hn.sublist List.filter_sublist) fun z hz => ?_
        rw [List.mem_filter] at hz ⊢
        exact ⟨List.mem_range.2 (hl z hz.1), hz.2⟩
      omega
  have := this σ
  omega
theorem landau_all {n : Nat} {t : Nat → Nat → Bool} (h : TourP n t) : 2 * ((List.range n).map fun i => cnt (t i) n).sum = n * (n - 1) := by
  have := sum_pairs h (List.range n) List.nodup_range fun x hx => List.mem_range.1 hx
  rw [List.length_range] at this
  rw [← this]
  congr 2
  exact List.map_congr_left fun i _ => cnt_filter _ _
theorem perm_map_inv {α β : Type} (f : α → β) {a b : List β} (h : a.Perm b) : ∀ m : List α, b = m.map f → ∃ σ : List α, σ.Perm m ∧ a = σ.map f := by
  induction h with
  | nil =>
    intro m hm
    exact ⟨[], by rw [List.map_eq_nil_iff.1 hm.symm], rfl⟩
  | cons x _ ih =>
    intro m hm
    cases m with
    | nil => cases hm
    | cons y m =>
      rw [List.map_cons, List.cons.injEq] at hm
      obtain ⟨σ, h1, h2⟩ := ih m hm.2
      exact ⟨y :: σ, h1.cons y, by rw [List.map_cons, hm.1, h2]⟩
  | swap x y l =>
    intro m hm
    match m, hm with
    | u :: v :: m, hm =>
      simp only [List.map_cons, List.cons.injEq] at hm
      exact ⟨v :: u :: m, List.Perm.swap _ _ _, by simp only [List.map_cons]; rw [hm.1, hm.2.1, hm.2.2]⟩
  | trans _ _ ih1 ih2 =>
    intro m hm
    obtain ⟨σ, h1, h2⟩ := ih2 m hm
    obtain ⟨τ, h3, h4⟩ := ih1 σ h2
    exact ⟨τ, h3.trans h1, h4⟩
/-- a sorted list's beginnings are scores of so many boats -/
theorem landau_take {n k : Nat} {t : Nat → Nat → Bool} {ys : List Nat} (h : TourP n t) (hp : ys.Perm ((List.range n).map fun i => cnt (t i) n)) (hk : k ≤ n) : k * (k - 1) ≤ 2 * (ys.take k).sum := by
  obtain ⟨σ, h1, h2⟩ := perm_map_inv _ hp (List.range n) rfl
  subst h2
  have hl : σ.length = n := by rw [h1.length_eq, List.length_range]
  have := landau h (σ.take k) ((h1.nodup_iff.2 List.nodup_range).sublist (List.take_sublist k σ)) fun x hx => List.mem_range.1 (h1.mem_iff.1 (List.mem_of_mem_take hx))
  rw [List.length_take, hl, Nat.min_eq_left hk] at this
  rw [← List.map_take]
  exact this
theorem landau_sum {n : Nat} {t : Nat → Nat → Bool} {ys : List Nat} (h : TourP n t) (hp : ys.Perm ((List.range n).map fun i => cnt (t i) n)) : 2 * ys.sum = n * (n - 1) := by
  rw [hp.sum_nat, landau_all h]
end Go.Proofs.Ytocnhikohfkcaaa
namespace Go.Proofs.Ytocnhikohfkcaaa
open Go.RowKit Go.Shelf

theorem QRow.fits {W : World} {base : Nat} {e : TypeId} {size : Nat} {p : Option Addr} {m c : Nat} {xs : List Value} (h : QRow W base e size (.slice p m c) m xs) : m ≤ c ∧ c ≤ maxLen := by
  rcases h.2 with ⟨e, h0⟩ | ⟨g, o, cap, cur, e, _, _, h5, h6, _⟩
  · cases e; exact ⟨by omega, by decide⟩
  · cases e; exact ⟨h5, h6⟩
theorem QRow.put {W : World} {base : Nat} {g o m c k : Nat} {f : Nat → Int} (h : QRow W base 3 1 (.slice (some ⟨g, o, none⟩) m c) m (ivI f m)) (hk : k < m) (z : Int) :
    W.frozen? ⟨g, o + k, none⟩ = false ∧ QRow (W.setCell ⟨g, o + k, none⟩ (.int .i64 z)) base 3 1 (.slice (some ⟨g, o, none⟩) m c) m (ivI (fun j => if j = k then z else f j) m) := by
  rcases h.2 with ⟨e, _⟩ | ⟨g', o', cap, cur, e, h1, h2, h3, h4, h5, h6⟩
  · cases e
  · cases e
    have hb : BoxN W g 3 cur := h2
    refine ⟨hb.frozen _, by rw [ivI_len]; omega, .inr ⟨g, o, c, _, rfl, h1, hb.set (o + k) (.int .i64 z), h3, h4, by simpa using h5, fun j hj => ?_⟩⟩
    have hj' : j < m := by omega
    rw [ivI_get _ _ _ hj']
    by_cases e : j = k
    · subst e
      rw [Array.getElem?_setIfInBounds_self_of_lt (by omega)]; simp
    · rw [Array.getElem?_setIfInBounds_ne (by omega), if_neg e, h6 j hj, ivI_get _ _ _ hj']
theorem ivI_same {f f' : Nat → Int} {n : Nat} (h : ∀ k, k < n → f k = f' k) : ivI f n = ivI f' n := by
  unfold ivI
  exact List.map_congr_left fun k hk => by rw [h k (List.mem_range.1 hk)]
def SortedTo (f : Nat → Int) (i : Nat) : Prop := ∀ p q, p < q → q < i → f p ≤ f q
/-- position j is still to be put; the others up to i are in order -/
structure InsP (f : Nat → Int) (i j : Nat) : Prop where
  le : j ≤ i
  oth : ∀ p q, p < q → q ≤ i → p ≠ j → q ≠ j → f p ≤ f q
  hi : ∀ q, j < q → q ≤ i → f j ≤ f q
theorem InsP.start {f : Nat → Int} {i : Nat} (h : SortedTo f i) : InsP f i i := ⟨Nat.le_refl _, fun p q h1 h2 _ h4 => h p q h1 (by omega), fun q h1 h2 => by omega⟩
def swF (f : Nat → Int) (a b : Nat) : Nat → Int := fun k => if k = a then f b else if k = b then f a else f k
theorem InsP.swap {f : Nat → Int} {i j : Nat} (h : InsP f i (j + 1)) (hlt : f (j + 1) < f j) : InsP (swF f j (j + 1)) i j := by
  have hle := h.le
  refine ⟨by omega, fun p q h1 h2 h3 h4 => ?_, fun q h1 h2 => ?_⟩
  · unfold swF
    rw [if_neg h3, if_neg h4]
    by_cases e1 : p = j + 1
    · rw [if_pos e1, if_neg (by omega)]
      exact h.oth j q (by omega) h2 (by omega) (by omega)
    · rw [if_neg e1]
      by_cases e2 : q = j + 1
      · rw [if_pos e2]; exact h.oth p j (by omega) (by omega) (by omega) (by omega)
      · rw [if_neg e2]; exact h.oth p q h1 h2 e1 e2
  · unfold swF
    rw [if_pos rfl, if_neg (by omega)]
    by_cases e : q = j + 1
    · rw [if_pos e]; omega
    · rw [if_neg e]; exact h.hi q (by omega) h2
theorem InsP.stop {f : Nat → Int} {i j : Nat} (h : InsP f i j) (hs : j = 0 ∨ f (j - 1) ≤ f j) : SortedTo f (i + 1) := fun p q h1 h2 => by
  by_cases e1 : p = j
  · subst e1; exact h.hi q h1 (by omega)
  · by_cases e2 : q = j
    · subst e2
      rcases hs with hs | hs
      · omega
      · by_cases e3 : p = q - 1
        · subst e3; exact hs
        · exact Int.le_trans (h.oth p (q - 1) (by omega) (by have := h.le; omega) (by omega) (by omega)) hs
    · exact h.oth p q h1 (by omega) e1 e2
/-- the first n values -/
def vals (f : Nat → Int) (n : Nat) : List Int := (List.range n).map f
def trn (a b k : Nat) : Nat := if k = a then b else if k = b then a else k
theorem trn_trn (a b k : Nat) : trn a b (trn a b k) = k := by
  unfold trn
  by_cases h1 : k = a
  · rw [if_pos h1]
    by_cases h2 : b = a
    · rw [if_pos h2]; omega
    · rw [if_neg h2, if_pos rfl]; exact h1.symm
  · rw [if_neg h1]
    by_cases h2 : k = b
    · rw [if_pos h2, if_pos rfl]; exact h2.symm
    · rw [if_neg h2, if_neg h1, if_neg h2]
theorem trn_lt {a b k n : Nat} (ha : a < n) (hb : b < n) (hk : k < n) : trn a b k < n := by
  unfold trn
  split
  · exact hb
  · split
    · exact ha
    · exact hk
theorem vals_swap {f : Nat → Int} {n a b : Nat} (ha : a < n) (hb : b < n) : (vals (swF f a b) n).Perm (vals f n) := by
  have e : vals (swF f a b) n = ((List.range n).map (trn a b)).map f := by
    unfold vals
    rw [List.map_map]
    refine List.map_congr_left fun k _ => ?_
    show swF f a b k = f (trn a b k)
    unfold swF trn
    by_cases e1 : k = a
    · rw [if_pos e1, if_pos e1]
    · rw [if_neg e1, if_neg e1]
      by_cases e2 : k = b
      · rw [if_pos e2, if_pos e2]
      · rw [if_neg e2, if_neg e2]
  rw [e]
  unfold vals
  refine List.Perm.map f ?_
  refine (List.perm_ext_iff_of_nodup ?_ List.nodup_range).2 fun x => ?_
  · unfold List.Nodup
    rw [List.pairwise_map]
    exact List.Pairwise.imp (fun {x y} hxy e => hxy (by have := congrArg (trn a b) e; rwa [trn_trn, trn_trn] at this)) List.nodup_range
  · rw [List.mem_map, List.mem_range]
    constructor
    · rintro ⟨y, hy, rfl⟩
      exact trn_lt ha hb (List.mem_range.1 hy)
    · intro hx
      exact ⟨trn a b x, List.mem_range.2 (trn_lt ha hb hx), trn_trn a b x⟩
theorem ag_ofB {ex : Nat → Prop} {A B : World} (h : Below A.heap.size A B) : Ag ex A B := ⟨h.os, h.tape, h.output, h.size, fun k hk _ => h.block k hk⟩
set_option maxRecDepth 100000 in
theorem less_any (x y : Int) (w : World) : Calls Try.prog 96 #[.int .i64 x, .int .i64 y] w fun e w' => e = .returned (.bool (decide (x < y))) ∧ w' = w := by
  go_enter Try.func96, Try.ntmps96
  by_cases h : x < y
  · go_wp2_with (go_at_call 82; refine (isNaN_any _ _).mono ?_; rintro e w' ⟨rfl, rfl⟩)
    go_ret
    exact ⟨by simp [h], rfl⟩
  · go_wp2_with (go_at_call 82; refine (isNaN_any _ _).mono ?_; rintro e w' ⟨rfl, rfl⟩)
    go_ret
    exact ⟨by simp [h], rfl⟩
set_option maxRecDepth 100000 in
set_option maxHeartbeats 4000000 in
/-- insertion sort -/
theorem insort_any (base g o n c : Nat) (f0 : Nat → Int) (w : World) (hn : n ≤ 20) (hQ : QRow w base 3 1 (.slice (some ⟨g, o, none⟩) n c) n (ivI f0 n)) :
    Calls Try.prog 90 #[.slice (some ⟨g, o, none⟩) n c, .int .i64 0, .int .i64 (n : Int)] w fun e w' => e = .returned (.tuple #[]) ∧ (∃ f, QRow w' base 3 1 (.slice (some ⟨g, o, none⟩) n c) n (ivI f n) ∧ SortedTo f n ∧ (vals f n).Perm (vals f0 n)) ∧ Ag (· = g) w w' := by
  have HQ := Lib.hid hQ
  clear hQ
  go_enter Try.func90, Try.ntmps90
  go_upto_region 1 with (fail)
  go_loopw [6] (fun s8 wr => ∃ (i : Nat) (f : Nat → Int), 1 ≤ i ∧ s8 = .int .i64 (i : Int) ∧ Hid (QRow wr base 3 1 (.slice (some ⟨g, o, none⟩) n c) n (ivI f n)) ∧ Hid (SortedTo f (min i n)) ∧ Hid ((vals f n).Perm (vals f0 n)) ∧ Hid (Ag (· = g) w wr)) (fun s8 _ => n - (intOf s8).toNat)
  case atStart => exact ⟨1, f0, by omega, rfl, HQ, (fun p q h1 h2 => by omega), List.Perm.refl _, Ag.refl _ _⟩
  case round =>
    clear HQ
    obtain ⟨i, f, hi, rfl, hQ, hS, hP, hA⟩ := hrel
    by_cases hin : i < n
    · have g1 : (i : Int) < (n : Int) := by omega
      have HI0 : Hid (InsP f i i) := InsP.start (by have := hS.out; rw [Nat.min_eq_left (by omega)] at this; exact this)
      clear hS
      go_upto_region 4 with (fail)
      go_loopw [7] (fun s9 wr => ∃ (j : Nat) (f : Nat → Int), j ≤ i ∧ s9 = .int .i64 (j : Int) ∧ Hid (QRow wr base 3 1 (.slice (some ⟨g, o, none⟩) n c) n (ivI f n)) ∧ Hid (InsP f i j) ∧ Hid ((vals f n).Perm (vals f0 n)) ∧ Hid (Ag (· = g) w wr)) (fun s9 _ => (intOf s9).toNat)
      case atStart => exact ⟨i, f, by omega, rfl, hQ, HI0, hP, hA⟩
      case round =>
        clear hQ HI0 hP hA
        obtain ⟨j, f, hji, rfl, hQ, hI, hP, hA⟩ := hrel
        have HQB : Hid (∀ d : BW wr.heap.size wr, QRow d.w base 3 1 (.slice (some ⟨g, o, none⟩) n c) n (ivI f n)) := fun d => hQ.out.below d.b (fun k hk => (hQ.out.lt k hk).2)
        have HAB : Hid (∀ d : BW wr.heap.size wr, Ag (· = g) w d.w) := fun d => hA.out.trans (ag_ofB d.b)
        have NEXT : Hid (SortedTo f (i + 1) → ∀ d : BW wr.heap.size wr, ∃ (i_1 : Nat) (f : Nat → Int), 1 ≤ i_1 ∧ Value.int .i64 ((i : Int) + 1) = .int .i64 (i_1 : Int) ∧ Hid (QRow d.w base 3 1 (.slice (some ⟨g, o, none⟩) n c) n (ivI f n)) ∧ Hid (SortedTo f (min i_1 n)) ∧ Hid ((vals f n).Perm (vals f0 n)) ∧ Hid (Ag (· = g) w d.w)) := fun h d => ⟨i + 1, f, by omega, int_eq (by omega), HQB.out d, by rw [Nat.min_eq_left (by omega)]; exact h, hP, HAB.out d⟩
        by_cases hj0 : j = 0
        · have HS2 := Lib.hid (NEXT.out (hI.out.stop (.inl hj0)))
          have g2 : ¬ (0 : Int) < (j : Int) := by omega
          clear NEXT hQ hI hP hA
          go_wp2
          refine wp_region_bw (by kernel_rfl) (by kernel_rfl) ?_
          repeat (go_big_quiet_step (rfl))
          refine wpQuiet_nil ?_
          rintro _ ⟨d, rfl⟩
          go_wp2
          exact ⟨HS2.out d, by simp [intOf]; omega⟩
        · obtain ⟨jj, hjj⟩ : ∃ jj, Hid (j = jj + 1) := ⟨j - 1, by unfold Hid; omega⟩
          have g2 : 0 < j := by omega
          have g2d : decide (0 < j) = true := by simpa using g2
          have hjn : j < n := by omega
          have e0 : (j : Int) - 1 = (jj : Int) := by have := hjj.out; omega
          have hjjn : jj < n := by have := hjj.out; omega
          obtain ⟨gb, ob, cap2, e, hb1, hb2, _, _, hc, _⟩ := hQ.out.at (by omega)
          cases e
          have c1 := (hc j (by omega)).trans (ivI_get f n j hjn)
          have c2 := (hc jj (by omega)).trans (ivI_get f n jj hjjn)
          have r1 : ∀ d : BW wr.heap.size wr, d.w.cell? ⟨g, o + j, none⟩ = some (.int .i64 (f j)) := fun d => d.cell hb2 c1
          have r2 : ∀ d : BW wr.heap.size wr, d.w.cell? ⟨g, o + jj, none⟩ = some (.int .i64 (f jj)) := fun d => d.cell hb2 c2
          have HST : Hid (¬ f j < f jj → SortedTo f (i + 1)) := fun h => hI.out.stop (.inr (by rw [show j - 1 = jj by have := hjj.out; omega]; omega))
          have HSW : Hid (f j < f jj → InsP (swF f jj j) i jj) := fun h => by
            have h1 := hjj.out
            have h2 := hI.out
            rw [h1] at h2 h ⊢
            exact h2.swap h
          have HCM : Hid (∀ d : BW wr.heap.size wr, Calls Try.prog 96 #[.int .i64 (f j), .int .i64 (f jj)] d.w fun e w' => e = .returned (.bool (decide (f j < f jj))) ∧ ∃ d' : BW wr.heap.size wr, w' = d'.w) := fun d => Calls.bw ((less_any (f j) (f jj) d.w).mono fun e w' h => ⟨h.1, by rw [h.2]; exact d.b⟩)
          have HPS : Hid ((vals (swF f jj j) n).Perm (vals f0 n)) := (vals_swap hjjn hjn).trans hP.out
          have HPT : Hid (∀ d : BW wr.heap.size wr, d.w.frozen? ⟨g, o + jj, none⟩ = false ∧ d.w.frozen? ⟨g, o + j, none⟩ = false ∧ QRow ((d.w.setCell ⟨g, o + j, none⟩ (.int .i64 (f jj))).setCell ⟨g, o + jj, none⟩ (.int .i64 (f j))) base 3 1 (.slice (some ⟨g, o, none⟩) n c) n (ivI (swF f jj j) n)) := fun d => by
            have h1 := (HQB.out d).put hjjn (f j)
            have h2 := (HQB.out d).put hjn (f jj)
            have h3 := h2.2.put hjjn (f j)
            refine ⟨h1.1, h2.1, ?_⟩
            rw [show ivI (swF f jj j) n = ivI (fun k => if k = jj then f j else (fun k => if k = j then f jj else f k) k) n from ivI_same fun k hk => by
              unfold swF
              by_cases e1 : k = jj
              · rw [if_pos e1]
              · rw [if_neg e1]]
            exact h3.2
          have hne : jj ≠ j := by have := hjj.out; omega
          clear hQ hI hP hA hc c1 c2
          generalize f j = z1 at *
          generalize f jj = z2 at *
          by_cases hlt : z1 < z2
          · have q1 : decide (z1 < z2) = true := by simpa using hlt
            rw [q1] at HCM
            have HI2 := Lib.hid (HSW.out hlt)
            clear NEXT HST HSW
            go_wp2
            refine wp_region_bw (by kernel_rfl) (by kernel_rfl) ?_
            repeat (go_big_quiet_step ((first
              | rfl
              | (go_at_call 96; with_reducible exact HCM.out _))))
            refine wpQuiet_nil ?_
            rintro _ ⟨d, rfl⟩
            have d1 := r1 d
            have d2 := r2 d
            have f1 := (HPT.out d).1
            have f2 := (HPT.out d).2.1
            have HQ3 := Lib.hid (HPT.out d).2.2
            have HA3 : Hid (Ag (· = g) w ((d.w.setCell ⟨g, o + j, none⟩ (.int .i64 z2)).setCell ⟨g, o + jj, none⟩ (.int .i64 z1))) := ((HAB.out d).set ⟨g, o + j, none⟩ _ (.inr rfl)).set ⟨g, o + jj, none⟩ _ (.inr rfl)
            clear r1 r2 HPT HQB HAB HCM
            obtain ⟨wA, hwA⟩ : ∃ wA, Hid (wA = d.w) := ⟨_, rfl⟩
            rw [← hwA.out] at d1 d2 f1 f2 HQ3 HA3 ⊢
            clear hwA
            have f3 : ∀ v, (wA.setCell ⟨g, o + j, none⟩ v).cell? ⟨g, o + jj, none⟩ = some (.int .i64 z2) := fun v => (World.cell?_setCell_other _ _ _ _ (fun e => by have := congrArg Addr.off e; simp at this; omega)).trans d2
            go_wp2
            go_region
            go_wp2
            go_roundw
            case rel => exact ⟨jj, swF f jj j, by omega, by go_num, HQ3.out, HI2, HPS, HA3.out.drewN 1⟩
            case measure => simp [intOf]; omega
          · have q1 : decide (z1 < z2) = false := by simpa using hlt
            rw [q1] at HCM
            have HS2 := Lib.hid (NEXT.out (HST.out hlt))
            clear NEXT HST HSW HPT HPS
            go_wp2
            refine wp_region_bw (by kernel_rfl) (by kernel_rfl) ?_
            repeat (go_big_quiet_step ((first
              | rfl
              | (go_at_call 96; with_reducible exact HCM.out _))))
            refine wpQuiet_nil ?_
            rintro _ ⟨d, rfl⟩
            go_wp2
            exact ⟨HS2.out d, by simp [intOf]; omega⟩
    · have g1 : ¬ (i : Int) < (n : Int) := by omega
      have HS2 : Hid (SortedTo f n) := by have := hS.out; rw [Nat.min_eq_right (by omega)] at this; exact this
      clear hS
      go_wp2
      go_end0
      exact ⟨rfl, ⟨f, hQ.out, HS2.out, hP.out⟩, hA.out⟩
end Go.Proofs.Ytocnhikohfkcaaa
namespace Go.Proofs.Ytocnhikohfkcaaa

/-- three numbers -/
abbrev Z3 := Int × Int × Int
abbrev N3 := Nat × Nat × Nat
def zc (t : N3) : Z3 := ((t.1 : Int), (t.2.1 : Int), (t.2.2 : Int))
def RisesP (n : Nat) (t : Z3) : Prop := 0 ≤ t.1 ∧ t.1 < t.2.1 ∧ t.2.1 < t.2.2 ∧ t.2.2 < (n : Int)
instance (n : Nat) (t : Z3) : Decidable (RisesP n t) := by unfold RisesP; infer_instance
/-- the three pairs of a triple -/
def prs (t : Z3) : List (Int × Int) := [(t.1, t.2.1), (t.1, t.2.2), (t.2.1, t.2.2)]
/-- each two are together in just one -/
structure TogP (n : Nat) (l : List Z3) : Prop where
  up : ∀ t ∈ l, RisesP n t
  nd : (l.flatMap prs).Nodup
  len : 6 * l.length = n * (n - 1)
def lt3 (a b : Z3) : Bool := decide (a.1 < b.1) || (decide (a.1 = b.1) && (decide (a.2.1 < b.2.1) || (decide (a.2.1 = b.2.1) && decide (a.2.2 < b.2.2))))
theorem lt3_iff {a b : Z3} : lt3 a b = true ↔ a.1 < b.1 ∨ (a.1 = b.1 ∧ (a.2.1 < b.2.1 ∨ (a.2.1 = b.2.1 ∧ a.2.2 < b.2.2))) := by unfold lt3; simp
theorem lt3_irr (a : Z3) : lt3 a a = false := by unfold lt3; simp
theorem lt3_tri {a b : Z3} (h1 : lt3 a b = false) (h2 : lt3 b a = false) : a = b := by
  have h1' : ¬ lt3 a b = true := by rw [h1]; simp
  have h2' : ¬ lt3 b a = true := by rw [h2]; simp
  rw [lt3_iff] at h1' h2'
  obtain ⟨a1, a2, a3⟩ := a
  obtain ⟨b1, b2, b3⟩ := b
  simp only at h1' h2'
  have e1 : a1 = b1 := by omega
  have e2 : a2 = b2 := by omega
  have e3 : a3 = b3 := by omega
  rw [e1, e2, e3]
/-- a triple system -/
structure SysP (n : Nat) (l : List Z3) : Prop where
  tog : TogP n l
  srt : l.Pairwise (fun a b => lt3 a b = true)
theorem TogP.perm {n : Nat} {l l' : List Z3} (h : TogP n l) (p : l'.Perm l) : TogP n l' where
  up t ht := h.up t (p.mem_iff.1 ht)
  nd := (p.flatMap_right prs).nodup_iff.2 h.nd
  len := by rw [p.length_eq]; exact h.len
theorem TogP.nodup {n : Nat} {l : List Z3} (h : TogP n l) : l.Nodup := by
  have : ∀ l : List Z3, (l.flatMap prs).Nodup → l.Nodup := by
    intro l
    induction l with
    | nil => intro _; exact List.nodup_nil
    | cons t l ih =>
      intro hn
      rw [List.flatMap_cons, List.nodup_append] at hn
      rw [List.nodup_cons]
      refine ⟨fun hm => ?_, ih hn.2.1⟩
      have h1 : (t.1, t.2.1) ∈ prs t := by unfold prs; simp
      exact hn.2.2 _ h1 _ (List.mem_flatMap.2 ⟨t, hm, h1⟩) rfl
  exact this l h.nd
/-- put in order it is a triple system -/
theorem TogP.sys {n : Nat} {l l' : List Z3} (h : TogP n l) (p : l'.Perm l) (hs : l'.Pairwise (fun a b => lt3 b a = false)) : SysP n l' := by
  have h' := h.perm p
  refine ⟨h', ?_⟩
  have hn := h'.nodup
  clear h h' p
  induction l' with
  | nil => exact List.Pairwise.nil
  | cons t l ih =>
    rw [List.pairwise_cons] at hs ⊢
    rw [List.nodup_cons] at hn
    refine ⟨fun a ha => ?_, ih hs.2 hn.2⟩
    cases e : lt3 t a with
    | true => rfl
    | false =>
      have := lt3_tri e (hs.1 a ha)
      subst this
      exact (hn.1 ha).elim
/-- days -/
structure DaysP (n : Nat) (ds : List (List Z3)) : Prop where
  tog : TogP n ds.flatten
  nd : ∀ d ∈ ds, (d.flatMap fun t => [t.1, t.2.1, t.2.2]).Nodup
  len : ∀ d ∈ ds, 3 * d.length = n
/-- tests that the kernel can run -/
def codes (n : Nat) (l : List N3) : List Nat := l.flatMap fun t => [t.1 * n + t.2.1, t.1 * n + t.2.2, t.2.1 * n + t.2.2]
def noDup : List Nat → Bool
  | [] => true
  | x :: l => !l.elem x && noDup l
theorem noDup_ok : ∀ {l : List Nat}, noDup l = true → l.Nodup
  | [], _ => List.nodup_nil
  | x :: l, h => by
    unfold noDup at h
    rw [Bool.and_eq_true] at h
    rw [List.nodup_cons]
    refine ⟨fun hm => ?_, noDup_ok h.2⟩
    have := h.1
    rw [List.elem_eq_true_of_mem hm] at this
    cases this
def togN (n : Nat) (l : List N3) : Bool := (l.all fun t => decide (t.1 < t.2.1 ∧ t.2.1 < t.2.2 ∧ t.2.2 < n)) && noDup (codes n l) && decide (6 * l.length = n * (n - 1))
theorem nodup_of_map {α β : Type} (f : α → β) : ∀ {l : List α}, (l.map f).Nodup → l.Nodup
  | [], _ => List.nodup_nil
  | a :: l, h => by
    rw [List.map_cons, List.nodup_cons] at h
    rw [List.nodup_cons]
    exact ⟨fun hm => h.1 (List.mem_map.2 ⟨a, hm, rfl⟩), nodup_of_map f h.2⟩
theorem togN_ok {n : Nat} {l : List N3} (h : togN n l = true) : TogP n (l.map zc) := by
  unfold togN at h
  rw [Bool.and_eq_true, Bool.and_eq_true, List.all_eq_true] at h
  obtain ⟨⟨h1, h2⟩, h3⟩ := h
  refine ⟨fun t ht => ?_, ?_, ?_⟩
  · obtain ⟨s, hs, rfl⟩ := List.mem_map.1 ht
    have := of_decide_eq_true (h1 s hs)
    unfold RisesP zc
    simp only
    omega
  · refine nodup_of_map (fun p : Int × Int => p.1.toNat * n + p.2.toNat) ?_
    have e : ((l.map zc).flatMap prs).map (fun p : Int × Int => p.1.toNat * n + p.2.toNat) = codes n l := by
      unfold codes
      clear h1 h2 h3
      induction l with
      | nil => rfl
      | cons t l ih =>
        rw [List.map_cons, List.flatMap_cons, List.flatMap_cons, List.map_append, ih]
        unfold prs zc
        simp
    rw [e]
    exact noDup_ok h2
  · rw [List.length_map]; exact of_decide_eq_true h3
def daysN (n : Nat) (ds : List (List N3)) : Bool := togN n ds.flatten && ds.all fun d => noDup (d.flatMap fun t => [t.1, t.2.1, t.2.2]) && decide (3 * d.length = n)
theorem daysN_ok {n : Nat} {ds : List (List N3)} (h : daysN n ds = true) : DaysP n (ds.map fun d => d.map zc) := by
  unfold daysN at h
  rw [Bool.and_eq_true, List.all_eq_true] at h
  refine ⟨?_, fun d hd => ?_, fun d hd => ?_⟩
  · have e : (ds.map fun d => d.map zc).flatten = ds.flatten.map zc := by rw [List.map_flatten]
    rw [e]
    exact togN_ok h.1
  · obtain ⟨u, hu, rfl⟩ := List.mem_map.1 hd
    have := h.2 u hu
    rw [Bool.and_eq_true] at this
    refine nodup_of_map (fun z : Int => z.toNat) ?_
    have e : ((u.map zc).flatMap fun t => [t.1, t.2.1, t.2.2]).map (fun z : Int => z.toNat) = u.flatMap fun t => [t.1, t.2.1, t.2.2] := by
      clear hd this hu
      induction u with
      | nil => rfl
      | cons t l ih =>
        rw [List.map_cons, List.flatMap_cons, List.flatMap_cons, List.map_append, ih]
        unfold zc
        simp
    rw [e]
    exact noDup_ok this.1
  · obtain ⟨u, hu, rfl⟩ := List.mem_map.1 hd
    have := h.2 u hu
    rw [Bool.and_eq_true] at this
    rw [List.length_map]
    exact of_decide_eq_true this.2
/-- three numbers in order -/
def put3 (a b c : Nat) : N3 :=
  if b < a then (if c < b then (c, b, a) else if c < a then (b, c, a) else (b, a, c))
  else (if c < a then (c, a, b) else if c < b then (a, c, b) else (a, b, c))
def nx (row m : Nat) : Nat := (row + 1) % 3 * m
def boseR (m x y row : Nat) : N3 := put3 (x + row * m) (y + row * m) ((x + y) * ((m + 1) / 2) % m + nx row m)
def boseX (m x : Nat) : List N3 := put3 x (x + m) (x + 2 * m) :: (List.range x).flatMap fun y => (List.range 3).map fun row => boseR m x y row
/-- three rows of an odd number -/
def boseL (n : Nat) : List N3 := (List.range (n / 3)).flatMap (boseX (n / 3))
def skS (m x y : Nat) : Nat := if (x + y) % m % 2 = 0 then (x + y) % m / 2 else ((x + y) % m - 1) / 2 + m / 2
def skR (n m x row : Nat) : List N3 := (if x < m / 2 then [put3 (n - 1) (x + m / 2 + row * m) (x + nx row m)] else []) ++ (List.range x).map fun y => put3 (x + row * m) (y + row * m) (skS m x y + nx row m)
def skX (n m x : Nat) : List N3 := (if x < m / 2 then [put3 x (x + m) (x + 2 * m)] else []) ++ (List.range 3).flatMap (skR n m x)
/-- three rows of an even number, and one more -/
def skolemL (n : Nat) : List N3 := (List.range (n / 3)).flatMap (skX n (n / 3))
theorem bose_tog {n : Nat} (h : n = 3 ∨ n = 9 ∨ n = 15 ∨ n = 21 ∨ n = 27) : TogP n ((boseL n).map zc) := by
  rcases h with rfl | rfl | rfl | rfl | rfl
  · exact togN_ok (by decide +kernel)
  · exact togN_ok (by decide +kernel)
  · exact togN_ok (by decide +kernel)
  · exact togN_ok (by decide +kernel)
  · exact togN_ok (by decide +kernel)
theorem skolem_tog {n : Nat} (h : n = 7 ∨ n = 13 ∨ n = 19 ∨ n = 25) : TogP n ((skolemL n).map zc) := by
  rcases h with rfl | rfl | rfl | rfl
  · exact togN_ok (by decide +kernel)
  · exact togN_ok (by decide +kernel)
  · exact togN_ok (by decide +kernel)
  · exact togN_ok (by decide +kernel)
/-- seven days -/
def sA (day i : Nat) : Nat := (day + i) % 7
def sB (day i : Nat) : Nat := 7 + (day + i) % 7
def schoolD (day : Nat) : List N3 := [put3 14 (sA day 0) (sB day 0), put3 (sA day 1) (sA day 2) (sA day 4), put3 (sA day 5) (sB day 2) (sB day 3), put3 (sA day 3) (sB day 4) (sB day 6), put3 (sA day 6) (sB day 1) (sB day 5)]
def schoolL : List (List N3) := (List.range 7).map schoolD
theorem school_days : DaysP 15 (schoolL.map fun d => d.map zc) := daysN_ok (by decide +kernel)
/-- digit by digit -/
def plF (n x y : Nat) : Nat → Nat → Nat → Nat
  | 0, out, _ => out
  | k + 1, out, place => if place < n then plF n x y k (out + (x / place + y / place) % 3 * place) (place * 3) else out
def pl3 (n x y : Nat) : Nat := plF n x y 4 0 1
def hiF (d : Nat) : Nat → Nat → Nat
  | 0, high => high
  | k + 1, high => if high * 3 ≤ d then hiF d k (high * 3) else high
def hi3 (d : Nat) : Nat := hiF d 4 1
/-- one day: the marks and the triples behind x -/
def dayF (n d : Nat) : Nat → List Nat × List N3
  | 0 => ([], [])
  | x + 1 =>
    let r := dayF n d x
    if r.1.elem x then r else (r.1 ++ [x, pl3 n x d, pl3 n (pl3 n x d) d], r.2 ++ [put3 x (pl3 n x d) (pl3 n (pl3 n x d) d)])
def linesF (n : Nat) : Nat → List (List N3)
  | 0 => []
  | d + 1 => if d = 0 ∨ d / hi3 d ≠ 1 then linesF n d else linesF n d ++ [(dayF n d n).2]
/-- lines of the space over three numbers -/
def linesL (n : Nat) : List (List N3) := linesF n n
theorem lines_days {n : Nat} (h : n = 3 ∨ n = 9 ∨ n = 27) : DaysP n ((linesL n).map fun d => d.map zc) := by
  rcases h with rfl | rfl | rfl
  · exact daysN_ok (by decide +kernel)
  · exact daysN_ok (by decide +kernel)
  · exact daysN_ok (by decide +kernel)
end Go.Proofs.Ytocnhikohfkcaaa
