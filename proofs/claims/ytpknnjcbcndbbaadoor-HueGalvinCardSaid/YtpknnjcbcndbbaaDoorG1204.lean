/- Maps that the call makes, with their stamps: ranging over one; keys that are integers. The closures of the stable pairing: the one that asks, and the order of the list. slices.Clone, by a walk; numbers that go down while edges are paired. -/
import Derived.Test.YtpknnjcbcndbbaaDoorA09
import Derived.Maps.RangeWalk
import Derived.Test.YtpknnjcbcndbbaaDoorG1203
import Derived.Test.YtpknnjcbcndbbaaDoorA12
import Derived.Deep.QuietTactic
import Derived.BigQuiet
import Derived.Test.YtpknnjcbcndbbaaDoorE01
import Derived.Test.YtpknnjcbcndbbaaDoorA10
import Derived.Test.YtpknnjcbcndbbaaDoorA06
set_option linter.unusedVariables false
set_option linter.unusedSimpArgs false
namespace Go.Proofs.YtpknnjcbcndbbaaDoor
open Go.RowKit

set_option linter.unusedSectionVars false
section
variable {P : Program} {T K E : TypeId} {α β : Type} [DecidableEq α] {kv : α → Value} {vv : β → Value} {z : β}
/-- block M is a map of just the entries l, each with a stamp of its own -/
def MapLS (kv : α → Value) (vv : β → Value) (W : World) (M : Nat) (l : List (α × β)) : Prop :=
  (∃ es clock, W.heap[M]? = some (.map es clock) ∧ es.toList.map (fun e => e.key) = (l.map (·.1)).map kv ∧ es.toList.map (fun e => e.val) = (l.map (·.2)).map vv ∧ (∀ x ∈ es.toList, x.born < clock) ∧ (es.toList.map (fun e => e.born)).Nodup) ∧ (l.map (·.1)).Nodup
def MapG (kv : α → Value) (vv : β → Value) (W : World) (M : Nat) (col : α → Option β) : Prop := ∃ l, MapLS kv vv W M l ∧ ∀ a, asFun l a = col a
theorem MapLS.lt {W : World} {M : Nat} {l : List (α × β)} (h : MapLS kv vv W M l) : M < W.heap.size := by
  obtain ⟨⟨es, clock, hb, _⟩, _⟩ := h
  exact (Array.getElem?_eq_some_iff.1 hb).1
theorem MapG.lt {W : World} {M : Nat} {col : α → Option β} (h : MapG kv vv W M col) : M < W.heap.size := h.elim fun _ h => h.1.lt
theorem MapG.f {W : World} {M : Nat} {col : α → Option β} (h : MapG kv vv W M col) : MapF kv vv W M col := by
  obtain ⟨l, ⟨⟨es, clock, h1, h2, h3, _, _⟩, h6⟩, h7⟩ := h
  exact ⟨l, ⟨es, clock, h1, h2, h3⟩, h6, h7⟩
theorem MapLS.kept {W W' : World} {M : Nat} {l : List (α × β)} (h : MapLS kv vv W M l) (hb : W'.heap[M]? = W.heap[M]?) : MapLS kv vv W' M l := by
  obtain ⟨⟨es, clock, h1, h2⟩, h3⟩ := h
  exact ⟨⟨es, clock, hb.trans h1, h2⟩, h3⟩
theorem MapG.kept {W W' : World} {M : Nat} {col : α → Option β} (h : MapG kv vv W M col) (hb : W'.heap[M]? = W.heap[M]?) : MapG kv vv W' M col := by
  obtain ⟨l, h1, h2⟩ := h
  exact ⟨l, h1.kept hb, h2⟩
theorem MapG.below {n : Nat} {W W' : World} {M : Nat} {col : α → Option β} (h : MapG kv vv W M col) (hB : Below n W W') (hn : M < n) : MapG kv vv W' M col := h.kept (hB.block M hn)
theorem MapG.grown {W W' : World} {row : Option Nat} {M : Nat} {col : α → Option β} (h : MapG kv vv W M col) (hg : W.grownBy W' row) (hne : some M ≠ row) : MapG kv vv W' M col := h.kept (hg.block M h.lt hne)
theorem MapG.made (w : World) : MapG kv vv (w.alloc (.map #[] 0)) w.heap.size (fun _ => none) := ⟨[], ⟨⟨#[], 0, World.alloc_heap_new w _, rfl, rfl, (fun x h => by simp at h), by simp⟩, List.nodup_nil⟩, fun _ => rfl⟩
theorem MapG.congr {W : World} {M : Nat} {c c' : α → Option β} (h : MapG kv vv W M c) (e : ∀ a, c a = c' a) : MapG kv vv W M c' := by
  obtain ⟨l, h1, h2⟩ := h
  exact ⟨l, h1, fun a => (h2 a).trans (e a)⟩
theorem look_g (hk : MapKind P T K E kv vv z) (c : Bool) (a : α) (w : World) (M : Nat) (col : α → Option β) (h : MapG kv vv w M col) :
    (Instr.lookup T (.map (some M)) (kv a) c).run P w = .ok (if c then .tuple #[vv ((col a).getD z), .bool (col a).isSome] else vv ((col a).getD z)) w := look_f hk c a w M col h.f
theorem store_g (hk : MapKind P T K E kv vv z) (a : α) (b : β) (w : World) (M : Nat) (col : α → Option β) (h : MapG kv vv w M col) :
    ∃ w', (Instr.mapUpdate T (.map (some M)) (kv a) (vv b)).run P w = .ok () w' ∧ MapG kv vv w' M (setF col a (some b)) ∧ w.grownBy w' (some M) := by
  obtain ⟨l, ⟨⟨es, clock, hb, h1, h2, h5, h6⟩, h3⟩, h4⟩ := h
  have hf := hk.find a _ es.toList w h1
  have hlt := (Array.getElem?_eq_some_iff.1 hb).1
  have hlen : es.size = l.length := by have := congrArg List.length h1; simpa using this
  cases hj : (l.map (·.1)).findIdx? (fun k => decide (a = k)) with
  | none =>
    rw [hj] at hf
    refine ⟨w.putObj M (.map (es.push { key := kv a, val := vv b, born := clock }) (clock + 1)), ?_, ⟨l ++ [(a, b)], ⟨⟨_, _, World.putObj_heap_same hlt, by simp [h1], by simp [h2], fun x hx => ?_, ?_⟩, ?_⟩, fun x => ?_⟩, grownBy_putObj' w M _⟩
    · unfold Instr.mapUpdate
      simp only [Sem.run_bind, run_underlying hk.ut, Result.andThen_ok, getObj, setObj, Sem.run, hb, hk.ck, hf, Sem.run_pure, Option.map_none]
      try rfl
    · rw [Array.toList_push, List.mem_append, List.mem_singleton] at hx
      rcases hx with hx | rfl
      · exact Nat.lt_succ_of_lt (h5 x hx)
      · exact Nat.lt_succ_self _
    · rw [Array.toList_push, List.map_append, List.nodup_append]
      refine ⟨h6, by simp, fun x hx y hy => ?_⟩
      simp at hy
      subst hy
      obtain ⟨e, he, rfl⟩ := List.mem_map.1 hx
      have := h5 e he
      omega
    · rw [List.map_append, List.nodup_append]
      refine ⟨h3, by simp, fun x hx y hy => ?_⟩
      simp at hy
      subst hy
      have := List.findIdx?_eq_none_iff.1 hj x hx
      intro e; subst e; simp at this
    · rw [asFun_append l a b hj]
      unfold setF
      rw [h4 x]
  | some j =>
    rw [hj] at hf
    have hjl : j < l.length := by have := (List.findIdx?_eq_some_iff_findIdx_eq.1 hj).1; simpa using this
    have hka : (l[j]).1 = a := by
      have := (List.findIdx?_eq_some_iff_getElem.1 hj).2.1
      simp at this; exact this.symm
    have hkey : ((es[j]?).map (fun e => e.key)).getD (kv a) = kv a := by
      have : (es.toList.map (fun e => e.key))[j]? = some (kv a) := by rw [h1]; simp [List.getElem?_eq_getElem hjl, hka]
      rw [List.getElem?_map, Array.getElem?_toList] at this
      rw [this]; rfl
    have hbn : (es.modify j fun e => { e with key := kv a, val := vv b }).toList.map (fun e => e.born) = es.toList.map (fun e => e.born) := by
      rw [Array.toList_modify]
      refine List.ext_getElem? fun i => ?_
      rw [List.getElem?_map, List.getElem?_map, List.getElem?_modify]
      by_cases hij : j = i
      · subst hij
        cases es.toList[j]? <;> simp
      · simp [hij]
    refine ⟨w.putObj M (.map (es.modify j fun e => { e with key := kv a, val := vv b }) clock), ?_, ⟨l.modify j fun _ => (a, b), ⟨⟨_, _, World.putObj_heap_same hlt, ?_, ?_, fun x hx => ?_, by rw [hbn]; exact h6⟩, by rw [keys_modify l a b j hj]; exact h3⟩, fun x => ?_⟩, grownBy_putObj' w M _⟩
    · unfold Instr.mapUpdate
      simp only [Sem.run_bind, run_underlying hk.ut, Result.andThen_ok, getObj, setObj, Sem.run, hb, hk.ck, hf, Sem.run_pure, Option.map_some, Instr.keyThatStays, hkey, hk.bits, if_true]
      try rfl
    · rw [keys_modify l a b j hj, ← h1, Array.toList_modify]
      refine List.ext_getElem? fun i => ?_
      rw [List.getElem?_map, List.getElem?_map, List.getElem?_modify]
      by_cases hij : j = i
      · subst hij
        have : (es.toList[j]?).map (fun e => e.key) = some (kv a) := by rw [← List.getElem?_map, h1]; simp [List.getElem?_eq_getElem hjl, hka]
        cases he : es.toList[j]? with
        | none => rw [he] at this; cases this
        | some e => rw [he] at this; simp at this; simp [this]
      · simp [hij]
    · rw [Array.toList_modify]
      refine List.ext_getElem? fun i => ?_
      have h2i : (es.toList[i]?).map (fun e => e.val) = (l[i]?).map (fun e => vv e.2) := by rw [← List.getElem?_map, h2]; simp; rfl
      rw [List.getElem?_map, List.getElem?_map, List.getElem?_map, List.getElem?_modify, List.getElem?_modify]
      by_cases hij : j = i
      · subst hij
        cases he : es.toList[j]? with
        | none =>
          rw [List.getElem?_eq_none_iff] at he
          simp at he
          omega
        | some e => simp [List.getElem?_eq_getElem hjl]
      · simp only [hij, if_false, Option.map_map]
        cases he : es.toList[i]? with
        | none => rw [he] at h2i; cases hl : l[i]? with
          | none => simp
          | some x => rw [hl] at h2i; cases h2i
        | some e => rw [he] at h2i; cases hl : l[i]? with
          | none => rw [hl] at h2i; cases h2i
          | some x => rw [hl] at h2i; simp at h2i; simp [h2i]
    · have hm : x.born ∈ es.toList.map (fun e => e.born) := by rw [← hbn]; exact List.mem_map.2 ⟨x, hx, rfl⟩
      obtain ⟨e, he, h8⟩ := List.mem_map.1 hm
      rw [← h8]; exact h5 e he
    · rw [asFun_modify l a b h3 j hj]
      unfold setF
      rw [h4 x]
/-- a range over the map under way: what is still to come -/
def RngG (kv : α → Value) (vv : β → Value) (W : World) (M r : Nat) (todo : List (α × β)) : Prop :=
  ∃ es clock since seen c0, W.heap[M]? = some (.map es clock) ∧ (es.toList.map (fun e => e.born)).Nodup ∧ (∀ x ∈ es.toList, x.born < since) ∧ W.heap[r]? = some (.mapIter (some M) since seen c0) ∧ since ≤ c0 ∧ since ≤ clock ∧
    (leftOf es seen).toList.map (fun e => e.key) = (todo.map (·.1)).map kv ∧ (leftOf es seen).toList.map (fun e => e.val) = (todo.map (·.2)).map vv
theorem RngG.kept {W W' : World} {M r : Nat} {todo : List (α × β)} (h : RngG kv vv W M r todo) (h1 : W'.heap[M]? = W.heap[M]?) (h2 : W'.heap[r]? = W.heap[r]?) : RngG kv vv W' M r todo := by
  obtain ⟨es, clock, since, seen, c0, a1, a2, a3, a4, a5⟩ := h
  exact ⟨es, clock, since, seen, c0, h1.trans a1, a2, a3, h2.trans a4, a5⟩
theorem RngG.lt {W : World} {M r : Nat} {todo : List (α × β)} (h : RngG kv vv W M r todo) : M < W.heap.size ∧ r < W.heap.size := by
  obtain ⟨es, clock, since, seen, c0, a1, a2, a3, a4, a5⟩ := h
  exact ⟨(Array.getElem?_eq_some_iff.1 a1).1, (Array.getElem?_eq_some_iff.1 a4).1⟩
theorem RngG.ne {W : World} {M r : Nat} {todo : List (α × β)} (h : RngG kv vv W M r todo) : r ≠ M := by
  obtain ⟨es, clock, since, seen, c0, a1, a2, a3, a4, a5⟩ := h
  intro e
  rw [e, a1] at a4
  cases a4
theorem RngG.grown {W W' : World} {row : Option Nat} {M r : Nat} {todo : List (α × β)} (h : RngG kv vv W M r todo) (hg : W.grownBy W' row) (h1 : some M ≠ row) (h2 : some r ≠ row) : RngG kv vv W' M r todo := h.kept (hg.block M h.lt.1 h1) (hg.block r h.lt.2 h2)
theorem MapLS.range {t : TypeId} {w : World} {M : Nat} {l : List (α × β)} (hk : MapKind P T K E kv vv z) (h : MapLS kv vv w M l) :
    ∃ w', (Instr.range T (.map (some M))).run P w = .ok (.pointer (some ⟨w.heap.size, 0, none⟩)) w' ∧ RngG kv vv w' M w.heap.size l ∧ w.grownBy w' none ∧ w'.heap.size = w.heap.size + 1 := by
  have hlt := h.lt
  obtain ⟨⟨es, clock, hb, h1, h2, h5, h6⟩, h3⟩ := h
  have hfl : (leftOf es #[]).toList = es.toList := by
    unfold leftOf
    rw [Array.toList_filter]
    exact List.filter_eq_self.2 fun _ _ => by simp
  refine ⟨_, run_range_map w T K E M es clock hk.ut hb, ⟨es, clock, clock, #[], clock, ((MapKept.heap_alloc w _).2 M hlt).trans hb, h6, h5, (MapKept.heap_alloc w _).1, Nat.le_refl _, Nat.le_refl _, ?_, ?_⟩, World.grownBy_alloc w _ none, by simp⟩
  · rw [← h1, hfl]
  · rw [← h2, hfl]
theorem RngG.next {w : World} {M r : Nat} {todo : List (α × β)} (h : RngG kv vv w M r todo) (ty : TypeId) :
    (todo = [] ∧ (Instr.next (.pointer (some ⟨r, 0, none⟩)) false ty).run P w = .ok (.tuple #[.bool false]) w) ∨
    ∃ pre x y post w', todo = pre ++ (x, y) :: post ∧ (Instr.next (.pointer (some ⟨r, 0, none⟩)) false ty).run P w = .ok (.tuple #[.bool true, kv x, vv y]) w' ∧ RngG kv vv w' M r (pre ++ post) ∧ w.grownBy w' (some r) ∧ w'.heap.size = w.heap.size ∧
      (Instr.entry (.pointer (some ⟨r, 0, none⟩))).run P w' = .ok (.tuple #[kv x, vv y]) w' := by
  have hne := h.ne
  obtain ⟨es, clock, since, seen, c0, hb, hnd, hold, hr, hsc, hsk, h1, h2⟩ := h
  rcases run_next_at (P := P) w ty r M since c0 seen es clock hr hb hold hsc with ⟨h0, hrun⟩ | ⟨e, he, w1, hal, hrun⟩
  · refine Or.inl ⟨?_, hrun⟩
    have h3 := congrArg List.length h1
    rw [List.length_map, List.length_map, List.length_map] at h3
    have : todo.length = 0 := by rw [← h3]; simpa using h0
    exact List.length_eq_zero_iff.1 this
  · obtain ⟨hem, hes⟩ := mem_left he
    obtain ⟨pre, post, hsp⟩ := List.append_of_mem he
    rw [hsp] at h1 h2
    have hl : pre.length < todo.length := by
      have h3 := congrArg List.length h1
      simp at h3; omega
    obtain ⟨⟨x, y⟩, hxy⟩ : ∃ p, todo[pre.length]? = some p := ⟨_, List.getElem?_eq_getElem hl⟩
    have hk1 : e.key = kv x := by
      have h3 := congrArg (fun l => l[pre.length]?) h1
      simp [hxy] at h3
      exact h3
    have hk2 : e.val = vv y := by
      have h3 := congrArg (fun l => l[pre.length]?) h2
      simp [hxy] at h3
      exact h3
    have htd : todo = todo.take pre.length ++ (x, y) :: todo.drop (pre.length + 1) := by
      have := List.take_append_drop pre.length todo
      rw [List.drop_eq_getElem_cons hl] at this
      rw [List.getElem?_eq_getElem hl] at hxy
      rw [Option.some.inj hxy] at this
      exact this.symm
    have hr1 : w1.heap[r]? = some (.mapIter (some M) since seen c0) := by rcases hal with rfl | rfl <;> exact hr
    have hb1 : w1.heap[M]? = some (.map es clock) := by rcases hal with rfl | rfl <;> exact hb
    have hset := MapKept.heap_set (o' := .mapIter (some M) since (seen.push e.born) clock) hr1
    have hb' : (ChangeMaps.setBlock w1 r (.mapIter (some M) since (seen.push e.born) clock)).heap[M]? = some (.map es clock) := (hset.2 M (fun e1 => hne e1.symm)).trans hb1
    have hleft : (leftOf es (seen.push e.born)).toList = pre ++ post := by
      have hL : (leftOf es (seen.push e.born)).toList = (leftOf es seen).toList.filter fun u => !(u.born == e.born) := by
        unfold leftOf
        rw [Array.toList_filter, Array.toList_filter, List.filter_filter]
        refine List.filter_congr fun u _ => ?_
        rw [contains_push]
        cases seen.contains u.born <;> cases (u.born == e.born) <;> rfl
      have hndL : ((leftOf es seen).toList.map (fun u => u.born)).Nodup := by
        unfold leftOf
        rw [Array.toList_filter]
        exact (List.Sublist.map _ List.filter_sublist).nodup hnd
      rw [hsp, List.map_append, List.map_cons, List.nodup_append, List.nodup_cons] at hndL
      rw [hL, hsp, List.filter_append, List.filter_cons]
      have e1 : pre.filter (fun u => !(u.born == e.born)) = pre := List.filter_eq_self.2 fun u hu => by
        have := hndL.2.2 u.born (List.mem_map.2 ⟨u, hu, rfl⟩) e.born List.mem_cons_self
        simpa using this
      have e2 : post.filter (fun u => !(u.born == e.born)) = post := List.filter_eq_self.2 fun u hu => by
        have : u.born ≠ e.born := fun h => hndL.2.1.1 (List.mem_map.2 ⟨u, hu, h⟩)
        simpa using this
      rw [e1, e2]; simp
    have hpl : (todo.take pre.length).length = pre.length := by rw [List.length_take]; omega
    rw [htd] at h1 h2
    rw [List.map_append, List.map_append, List.map_append] at h1 h2
    have s1 := List.append_inj h1 (by rw [List.length_map, List.length_map, List.length_map, hpl])
    have s2 := List.append_inj h2 (by rw [List.length_map, List.length_map, List.length_map, hpl])
    rw [hk1, hk2] at hrun
    refine Or.inr ⟨_, x, y, _, _, htd, hrun, ⟨es, clock, since, seen.push e.born, clock, hb', hnd, hold, hset.1, hsk, hsk, ?_, ?_⟩, ?_, ?_, ?_⟩
    · rw [hleft, List.map_append, List.map_append, List.map_append, s1.1]
      have := s1.2
      simp only [List.map_cons, List.cons.injEq] at this
      rw [this.2]
    · rw [hleft, List.map_append, List.map_append, List.map_append, s2.1]
      have := s2.2
      simp only [List.map_cons, List.cons.injEq] at this
      rw [this.2]
    · rcases hal with rfl | rfl <;> exact ⟨rfl, rfl, rfl, by simp [ChangeMaps.setBlock], fun i _ hi => hset.2 i (fun e1 => hi (by rw [e1]))⟩
    · rcases hal with rfl | rfl <;> simp [ChangeMaps.setBlock]
    · rw [← hk1, ← hk2]
      exact run_entry_at _ r M since seen es clock e hset.1 hb' hem hnd
theorem wpList_store_g (hk : MapKind P T K E kv vv z) {w : World} {ops : Array Oper} {rest : List Oper} {o : Oper} {act : Act} {Q : Exit → Act → World → Prop} (hgd : o.guard = none) (m x y : Operand) (ho : o.op = Op.mapUpdate T m x y) (M : Nat) (col : α → Option β) (a : α) (b : β)
    (hm : act.eval m = .map (some M)) (hx : act.eval x = kv a) (hy : act.eval y = vv b) (hM : MapG kv vv w M col) (hK : ∀ w', MapG kv vv w' M (setF col a (some b)) → w.grownBy w' (some M) → wpList P ops Q rest (act.put o.dst undef) w') : wpList P ops Q (o :: rest) act w := by
  refine wpList_plain hgd fun K hK' => ?_
  obtain ⟨w', hr, h1, h2⟩ := store_g hk a b w M col hM
  unfold Oper.wp
  simp [execOp, ho, hm, hx, hy, hr, Result.andThen, Oper.upon]
  exact hK' _ _ (hK w' h1 h2)
theorem wpList_range_g (hk : MapKind P T K E kv vv z) {w : World} {ops : Array Oper} {rest : List Oper} {o : Oper} {act : Act} {Q : Exit → Act → World → Prop} (hgd : o.guard = none) (m : Operand) (ho : o.op = Op.range T m) (M : Nat) (l : List (α × β))
    (hm : act.eval m = .map (some M)) (hM : MapLS kv vv w M l)
    (hK : ∀ w', RngG kv vv w' M w.heap.size l → w.grownBy w' none → w'.heap.size = w.heap.size + 1 → wpList P ops Q rest (act.put o.dst (.pointer (some ⟨w.heap.size, 0, none⟩))) w') : wpList P ops Q (o :: rest) act w := by
  refine wpList_plain hgd fun K' hK' => ?_
  obtain ⟨w', hrun, r1, r2, r3⟩ := hM.range (t := T) hk
  unfold Oper.wp
  simp [execOp, ho, hm, hrun, Result.andThen]
  exact hK' _ _ (hK w' r1 r2 r3)
theorem wpList_next_g {w : World} {ops : Array Oper} {rest : List Oper} {o : Oper} {act : Act} {Q : Exit → Act → World → Prop} (hgd : o.guard = none) (it : Operand) (ho : o.op = Op.next it false) (M r : Nat) (todo : List (α × β))
    (hit : act.eval it = .pointer (some ⟨r, 0, none⟩)) (h : RngG kv vv w M r todo)
    (hDone : todo = [] → wpList P ops Q rest (act.put o.dst (.tuple #[.bool false])) w)
    (hMore : ∀ (pre : List (α × β)) (x : α) (y : β) (post : List (α × β)) (w' : World), todo = pre ++ (x, y) :: post → RngG kv vv w' M r (pre ++ post) → w.grownBy w' (some r) → w'.heap.size = w.heap.size →
      (Instr.entry (.pointer (some ⟨r, 0, none⟩))).run P w' = .ok (.tuple #[kv x, vv y]) w' → wpList P ops Q rest (act.put o.dst (.tuple #[.bool true, kv x, vv y])) w') : wpList P ops Q (o :: rest) act w := by
  refine wpList_plain hgd fun K' hK' => ?_
  unfold Oper.wp
  rcases h.next (P := P) o.type with ⟨h0, hrun⟩ | ⟨pre, x, y, post, w', h1, hrun, h2, h3, h4, h5⟩
  · simp [execOp, ho, hit, hrun, Result.andThen]
    exact hK' _ _ (hDone h0)
  · simp [execOp, ho, hit, hrun, Result.andThen]
    exact hK' _ _ (hMore pre x y post w' h1 h2 h3 h4 h5)
end
/-- keys that are integers -/
def kvN (n : Nat) : Value := .int .i64 (n : Int)
theorem findNow_nat (a : Nat) : ∀ (ks : List Nat) (es : List MapEntry) (i : Nat), es.map (fun e => e.key) = ks.map kvN →
    Instr.findNow (.int .i64) (kvN a) es i = some ((ks.findIdx? (fun k => decide (a = k))).map fun j => (i + j, ((es[j]?).map (fun e => e.val)).getD undef))
  | [], [], i, _ => by simp [Instr.findNow]
  | [], e :: es, i, h => by cases h
  | k :: ks, [], i, h => by cases h
  | k :: ks, e :: es, i, h => by
    simp only [List.map_cons, List.cons.injEq] at h
    unfold Instr.findNow
    rw [h.1]
    by_cases e' : a = k
    · subst e'
      have : Instr.sameNow (.int .i64) (kvN a) (kvN a) = some true := by simp [Instr.sameNow, kvN]
      rw [this]
      simp [List.findIdx?_cons]
    · have : Instr.sameNow (.int .i64) (kvN a) (kvN k) = some false := by simp [Instr.sameNow, kvN]; omega
      rw [this]
      simp only [findNow_nat a ks es (i + 1) h.2, List.findIdx?_cons, e', decide_false, Bool.false_eq_true, if_false]
      cases ks.findIdx? (fun k => decide (a = k)) with
      | none => rfl
      | some j => simp; omega
theorem natKind {P : Program} {T K E : TypeId} {β : Type} {vv : β → Value} {z : β} (ut : P.underlying T = some (.map K E)) (uk : P.underlying K = some (.int .i64)) (hz : ∀ w, (zeroValue E).run P w = .ok (vv z) w) : MapKind P T K E kvN vv z where
  ut := ut
  find := fun a ks es w h => by
    unfold Instr.findKey
    simp only [Sem.run_bind, run_underlying uk, Result.andThen_ok]
    rw [findNow_nat a ks es 0 h]
    simp
  ck := fun a e w => MapKept.run_checkKey uk (show MapKept.IsKey (.int .i64) (kvN a) from rfl) e 9999
  zero := hz
  bits := fun a => by show (IntKind.i64 == IntKind.i64 && (a : Int) == (a : Int)) = true; simp
end Go.Proofs.YtpknnjcbcndbbaaDoor
namespace Go.Proofs.YtpknnjcbcndbbaaDoor
open Go.RowKit Go.Shelf

/-- the end of the i-th edge on the side s, and the other one -/
def askV (s : Nat) (ps : List (Int × Int)) (i : Nat) : Nat := if s.testBit (pr (qa ps i)).1 then (pr (qa ps i)).1 else (pr (qa ps i)).2
def askW (s : Nat) (ps : List (Int × Int)) (i : Nat) : Nat := if s.testBit (pr (qa ps i)).1 then (pr (qa ps i)).2 else (pr (qa ps i)).1
set_option maxRecDepth 100000 in
set_option maxHeartbeats 1000000 in
theorem asker_any (s G n b4 b6 i : Nat) (a : Option Addr) (cap : Nat) (g : List Nat) (ps : List (Int × Int)) (w : World) (h4 : w.cell? ⟨b4, 0, none⟩ = some (.pointer (some ⟨G, 0, none⟩))) (h6 : w.cell? ⟨b6, 0, none⟩ = some (.int .i64 (s : Int))) (hg : GraphAt w G n a cap ps.length g) (hE : Pairs w a ps) (hok : EdgesOK g ps) (hs : Sm s) (hi : i < ps.length) :
    Calls Tryd.prog 102 #[.int .i64 (i : Int), .pointer (some ⟨b4, 0, none⟩), .pointer (some ⟨b6, 0, none⟩)] w fun e w' => e = .returned (.tuple #[.int .i64 (askV s ps i : Nat), .int .i64 (askW s ps i : Nat)]) ∧ ∃ q, w' = w.drewN q := by
  obtain ⟨x, y, e1, hxy, hy16, -, -⟩ := hok.edge i hi
  have c1 := hg.e
  obtain ⟨b, o, rfl, hb, hc⟩ := hE (fun e => by rw [e] at hi; simp at hi)
  have hck := hc i hi
  rw [e1] at hck
  have k1 : w.cell? ⟨b, o + i * 2, none⟩ = some (.int .i64 (x : Int)) := hck.1
  have k2 : w.cell? ⟨b, o + i * 2 + 1, none⟩ = some (.int .i64 (y : Int)) := hck.2
  have hqa : qa ps i = ((x : Int), (y : Int)) := by unfold qa; rw [e1]; rfl
  have hv : Hid (askV s ps i = if s.testBit x then x else y) := by unfold askV pr; rw [hqa]; rfl
  have hw : Hid (askW s ps i = if s.testBit x then y else x) := by unfold askW pr; rw [hqa]; rfl
  generalize askV s ps i = v at *
  generalize askW s ps i = u at *
  generalize hlen : ps.length = len at *
  have g1 : (i : Int) < (len : Int) := by omega
  have g0 : (0 : Int) ≤ (i : Int) := by omega
  have hwx : IntKind.u64.wrap (x : Int) = (x : Int) := u64_same _ (by omega)
  clear hc hck hg hE hok hqa e1 hlen hi
  go_enter Tryd.func102, Tryd.ntmps102
  go_upto_region 1 with (fail)
  go_quiet (fail)
  cases hbit : s.testBit x with
  | true =>
    go_wp2
    refine bodyPost_ret (v := .tuple #[.int .i64 (x : Int), .int .i64 (y : Int)]) (by simp [results, Tryd.f102, go_sem]) rfl ?_
    rw [hv.out, hw.out, hbit]
    exact ⟨rfl, _, rfl⟩
  | false =>
    go_wp2
    refine bodyPost_ret (v := .tuple #[.int .i64 (y : Int), .int .i64 (x : Int)]) (by simp [results, Tryd.f102, go_sem]) rfl ?_
    rw [hv.out, hw.out, hbit]
    exact ⟨rfl, _, rfl⟩
set_option maxRecDepth 100000 in
set_option maxHeartbeats 1000000 in
theorem cmp_any (b7 m c x y : Nat) (p : Option Addr) (od : Nat → Nat) (w : World) (h7 : w.cell? ⟨b7, 0, none⟩ = some (.slice p m c)) (hs : SrcI w p m (fun j => (od j : Int))) (hx : x < m) (hy : y < m) (hm : m ≤ 1099511627776) (hod : ∀ j, od j ≤ 64) :
    Calls Tryd.prog 105 #[.int .i64 (x : Int), .int .i64 (y : Int), .pointer (some ⟨b7, 0, none⟩)] w fun e w' => e = .returned (.int .i64 ((od y : Int) - (od x : Int))) ∧ ∃ q, w' = w.drewN q := by
  obtain ⟨b, o, rfl, hb, hc⟩ := hs (by omega)
  have k1 : w.cell? ⟨b, o + x, none⟩ = some (.int .i64 (od x : Int)) := hc x hx
  have k2 : w.cell? ⟨b, o + y, none⟩ = some (.int .i64 (od y : Int)) := hc y hy
  have hx1 := hod x
  have hy1 := hod y
  have g1 : (x : Int) < (m : Int) := by omega
  have g2 : (y : Int) < (m : Int) := by omega
  have hwr : wrap64 ((od y : Int) - (od x : Int)) = (od y : Int) - (od x : Int) := IntWalk.wrap64_in _ (by omega)
  generalize od x = u at *
  generalize od y = v at *
  clear hc hod
  go_enter Tryd.func105, Tryd.ntmps105
  go_upto_region 1 with (fail)
  go_quiet (fail)
  go_wp2
  refine bodyPost_ret (v := .int .i64 ((v : Int) - (u : Int))) (by simp [results, Tryd.f105, go_sem, hwr]) rfl ?_
  exact ⟨rfl, _, rfl⟩
end Go.Proofs.YtpknnjcbcndbbaaDoor
namespace Go.Proofs.YtpknnjcbcndbbaaDoor
open Go.RowKit Go.Shelf

def natI (l : List Nat) (j : Nat) : Int := (nth l j : Nat)
theorem iv_nat (l : List Nat) : ivI (natI l) l.length = iv l := List.ext_getElem? fun j => by
  by_cases h : j < l.length
  · rw [ivI_get _ _ _ h, iv_get h]; rfl
  · rw [List.getElem?_eq_none (by rw [ivI_len]; omega), List.getElem?_eq_none (by rw [iv_length]; omega)]
set_option maxRecDepth 100000 in
set_option maxHeartbeats 1000000 in
theorem clone_any (p : Option Addr) (c : Nat) (l : List Nat) (w : World) (hs : SrcI w p l.length (natI l)) (hl : l.length ≤ 1099511627776) :
    Calls Tryd.prog 103 #[.slice p l.length c] w fun e w' => ∃ v, e = .returned v ∧ QRow w' w.heap.size 3 1 v l.length (iv l) ∧ Below w.heap.size w w' := by
  obtain ⟨i0, hi, hz0, hz1, hz2⟩ := info_parts info3
  have hE : ∀ W (p : Option Addr) (m c : Nat), (binOp .eql 25 (.slice p m c) (.slice none 0 0)).run Tryd.prog W = .ok (.bool p.isNone) W := fun W p m c => run_eql_slice_nil W 25 3 p m c Tryd.underlying25
  have HS : Hid (Src w p l.length 1 (iv l)) := by rw [← iv_nat]; exact hs.src
  have HONE := Lib.hid (iv_one l)
  have HS0 : Hid (Src (w.alloc (.cells #[] 3)) p l.length 1 (iv l)) := by rw [← iv_nat]; exact (hs.below ((Below.refl w.heap.size w).alloc (Nat.le_refl _) _) (Nat.le_refl _)).src
  cases p with
  | none =>
    have h0 : l.length = 0 := Classical.byContradiction fun h => by
      obtain ⟨b, o, e, _⟩ := hs h; cases e
    have hl0 : l = [] := List.length_eq_zero_iff.1 h0
    subst hl0
    clear hs HS HONE HS0
    go_enter Tryd.func103, Tryd.ntmps103
    go_wp2
    go_ret
    exact ⟨_, rfl, QRow.nil _ _ _ _, Below.refl _ _⟩
  | some ad =>
    clear hs
    generalize hlen : l.length = len at *
    go_enter Tryd.func103, Tryd.ntmps103
    go_upto_region 3 with (fail)
    have HQ0 : Hid (QRow (w.alloc (.cells #[] 3)) w.heap.size 3 1 (.slice (some ⟨w.heap.size, 0, none⟩) 0 0) 0 []) := ⟨rfl, .inr ⟨w.heap.size, 0, 0, #[], rfl, Nat.le_refl _, World.alloc_heap_new w _, Nat.le_refl _, Nat.zero_le _, Nat.le_refl _, fun j hj => by omega⟩⟩
    have HB0 : Hid (Below w.heap.size w (w.alloc (.cells #[] 3))) := (Below.refl _ _).alloc (Nat.le_refl _) _
    generalize hW : w.alloc (.cells #[] 3) = w1 at *
    have hsz : w.heap.size ≤ w1.heap.size := HB0.out.size
    go_wp2_with (at_builtin; go_must (refine wpList_append_qq _ rfl (.tmp 5) (.tmp 6) 25 rfl w.heap.size 3 i0 (.int .i64 0) 1 8 Tryd.underlying25 hi hz0 hz1 hz2 rfl (by decide) _ 0 [] rfl HQ0.out (some ad) len c (iv l) rfl HS0.out HONE.out (by unfold maxLen; omega) (by omega) hsz ?_); intro v6 w6 hq6 hg6 ho6; have HB6 : Hid (Below w.heap.size w w6) := Below.grown HB0.out hg6 hsz (fun kk e => by cases e; exact Nat.le_refl _); have HQ6 : Hid (QRow w6 w.heap.size 3 1 v6 len (iv l)) := (by rw [Nat.zero_add, List.nil_append] at hq6; exact hq6); clear hq6 hg6 ho6)
    go_ret
    exact ⟨_, rfl, HQ6.out, HB6.out⟩
/-- what is left to be done: edges that are not refused, places that are free -/
def gmu (left : List Nat) (has : Nat → Option Nat) (ref : Nat → Option Bool) : Nat := cn (fun k => decide (ref (nth left k) ≠ some true)) left.length + cn (fun w => (has w).isNone) 16
theorem gmu_refuse {left : List Nat} {has : Nat → Option Nat} {ref : Nat → Option Bool} {i : Nat} (hi : i ∈ left) (hr : ref i ≠ some true) : gmu left has (setF ref i (some true)) < gmu left has ref := by
  obtain ⟨k, hk, hki⟩ := List.getElem_of_mem hi
  have hn : nth left k = i := by unfold nth; rw [List.getElem?_eq_getElem hk, hki]; rfl
  unfold gmu
  have := cn_lt (p := fun k => decide (setF ref i (some true) (nth left k) ≠ some true)) (q := fun k => decide (ref (nth left k) ≠ some true)) (j := k) (n := left.length) (fun u _ hu => by
    rw [decide_eq_true_iff] at hu ⊢
    unfold setF at hu
    by_cases e : nth left u = i
    · rw [if_pos e] at hu; exact absurd rfl hu
    · rw [if_neg e] at hu; exact hu) hk (by rw [hn]; unfold setF; simp) (by rw [hn]; simpa using hr)
  omega
theorem gmu_take {left : List Nat} {has : Nat → Option Nat} {ref : Nat → Option Bool} {w i : Nat} (hw : w < 16) (h : has w = none) : gmu left (setF has w (some i)) ref < gmu left has ref := by
  unfold gmu
  have := cn_lt (p := fun u => (setF has w (some i) u).isNone) (q := fun u => (has u).isNone) (j := w) (n := 16) (fun u _ hu => by
    unfold setF at hu
    by_cases e : u = w
    · subst e; rw [h]; rfl
    · rw [if_neg e] at hu; exact hu) hw (by unfold setF; simp) (by rw [h]; rfl)
  omega
theorem gmu_swap {left : List Nat} {has : Nat → Option Nat} {ref : Nat → Option Bool} {w i old : Nat} (ho : old ∈ left) (hr : ref old ≠ some true) : gmu left (setF has w (some i)) (setF ref old (some true)) < gmu left has ref := by
  refine Nat.lt_of_le_of_lt ?_ (gmu_refuse (has := has) ho hr)
  unfold gmu
  have := cn_le (p := fun u => (setF has w (some i) u).isNone) (q := fun u => (has u).isNone) (n := 16) fun u _ hu => by
    unfold setF at hu
    by_cases e : u = w
    · rw [if_pos e] at hu; cases hu
    · rw [if_neg e] at hu; exact hu
  omega
theorem askW_lt {g : List Nat} {ps : List (Int × Int)} (E : EdgesOK g ps) (s : Nat) {i : Nat} (hi : i < ps.length) : askV s ps i < 16 ∧ askW s ps i < 16 := by
  obtain ⟨x, y, e1, hxy, hy16, -, -⟩ := E.edge i hi
  have hqa : qa ps i = ((x : Int), (y : Int)) := by unfold qa; rw [e1]; rfl
  unfold askV askW pr
  rw [hqa]
  simp only [Int.toNat_natCast]
  constructor <;> split <;> omega
end Go.Proofs.YtpknnjcbcndbbaaDoor
