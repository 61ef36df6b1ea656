/- An entry of a map that the call has made: 'm[k] += v'. Ascent lists by their endings: plain. Keys that are endings. Ascents$1: walk. Ascents: walk. Regions that draw their order, of a class of worlds: a copy that the call at the tail's head does not wait for is taken first. The program's iterator over the pairs that overlap: its contract. -/
import Derived.WideKeyEntry
import Derived.Test.YtbioondlmgolkaaG508
import Derived.Test.YtbioondlmgolkaaG512
import Derived.Deep.LoopGhost
import Derived.BigQuiet
import Derived.Test.YtbioondlmgolkaaRg
import Derived.RangeFuncNested
import Derived.Test.YtbioondlmgolkaaOb
set_option linter.unusedVariables false
set_option linter.unusedSimpArgs false
namespace Go.Proofs.Ytbioondlmgolkaa
open Go.RowKit Go.WideElems

set_option linter.unusedSectionVars false
section
variable {P : Program} {T K E : TypeId} {α β : Type} [DecidableEq α] {kv : α → Value} {vv : β → Value} {z : β}
theorem modify_same {es : Array MapEntry} {j : Nat} {f g : MapEntry → MapEntry} (h : ∀ e, es.toList[j]? = some e → f e = g e) : es.modify j f = es.modify j g := by
  apply Array.ext'
  rw [Array.toList_modify, Array.toList_modify]
  refine List.ext_getElem? fun i => ?_
  rw [List.getElem?_modify, List.getElem?_modify]
  by_cases e : j = i
  · subst e
    cases he : es.toList[j]? with
    | none => simp
    | some x => simp [h x he]
  · simp [e]
theorem entry_g (hk : MapKind P T K E kv vv z) (a : α) (w : World) (M : Nat) (col : α → Option β) (h : MapG kv vv w M col) :
    ∃ (st : Nat) (W1 : World), (Instr.mapEntry T (.map (some M)) (kv a)).run P w = .ok (.tuple #[vv ((col a).getD z), goInt st]) W1 ∧ MapG kv vv W1 M (setF col a (some ((col a).getD z))) ∧ w.grownBy W1 (some M) ∧
      ∀ (b : β) (W2 : World), W2.heap[M]? = W1.heap[M]? → ∃ W3, (Instr.entryStore T (.map (some M)) (goInt st) (vv b)).run P W2 = .ok () W3 ∧ MapG kv vv W3 M (setF col a (some b)) ∧ W2.grownBy W3 (some M) := by
  have hG := h
  obtain ⟨l, ⟨⟨es, clock, hb, h1, h2, h5, h6⟩, h3⟩, h4⟩ := h
  have hf := hk.find a _ es.toList w h1
  have hlt := (Array.getElem?_eq_some_iff.1 hb).1
  have hlen : es.size = l.length := by have := congrArg List.length h1; simpa using this
  cases hj : (l.map (·.1)).findIdx? (fun k => decide (a = k)) with
  | none =>
    rw [hj] at hf
    have hca : col a = none := by
      rw [← h4 a, asFun_idx, hj]; rfl
    have hu : ∀ b : β, (Instr.mapUpdate T (.map (some M)) (kv a) (vv b)).run P w = .ok () (w.putObj M (.map (es.push { key := kv a, val := vv b, born := clock }) (clock + 1))) := fun b => by
      unfold Instr.mapUpdate
      simp only [Sem.run_bind, run_underlying hk.ut, Result.andThen_ok, getObj, setObj, Sem.run, hb, hk.ck, hf, Sem.run_pure, Option.map_none]
      try rfl
    have hG2 : ∀ b : β, ∃ w', w' = w.putObj M (.map (es.push { key := kv a, val := vv b, born := clock }) (clock + 1)) ∧ MapG kv vv w' M (setF col a (some b)) := fun b => by
      obtain ⟨w', hr, hg, _⟩ := store_g hk a b w M col hG
      rw [hu b] at hr
      cases hr
      exact ⟨_, rfl, hg⟩
    refine ⟨clock, w.putObj M (.map (es.push { key := kv a, val := vv z, born := clock }) (clock + 1)), ?_, ?_, grownBy_putObj' w M _, fun b W2 hW2 => ?_⟩
    · unfold Instr.mapEntry
      rw [hca]
      simp only [Sem.run_bind, run_underlying hk.ut, Result.andThen_ok, getObj, setObj, Sem.run, hb, hk.ck, hf, Sem.run_pure, Option.map_none, hk.zero]
      try rfl
    · rw [hca]
      obtain ⟨_, rfl, hg⟩ := hG2 z
      exact hg
    · rw [World.putObj_heap_same hlt] at hW2
      have hlt2 := (Array.getElem?_eq_some_iff.1 hW2).1
      have hidx : (es.push ⟨kv a, vv z, clock⟩).findIdx? (fun e => ((e.born : Nat) : Int) == ((clock : Nat) : Int)) = some es.size := by
        rw [findIdx_arr]
        exact findIdx_born (l := (es.push ⟨kv a, vv z, clock⟩).toList) (j := es.size) (e0 := ⟨kv a, vv z, clock⟩) (by
          simp only [Array.toList_push, List.map_append, List.map_cons, List.map_nil]
          refine List.nodup_append.2 ⟨h6, by simp, fun x hx c hc e1 => ?_⟩
          simp only [List.mem_singleton] at hc
          obtain ⟨y, hy, rfl⟩ := List.mem_map.1 hx
          have := h5 y hy
          omega) (by simp)
      have hmod : (es.push ⟨kv a, vv z, clock⟩).modify es.size (fun e => { e with val := vv b }) = es.push ⟨kv a, vv b, clock⟩ := by
        apply Array.ext'
        rw [Array.toList_modify, Array.toList_push, Array.toList_push, ← Array.length_toList, modify_last]
      refine ⟨W2.putObj M (.map (es.push { key := kv a, val := vv b, born := clock }) (clock + 1)), ?_, ?_, grownBy_putObj' W2 M _⟩
      · rw [← hmod]
        simp [Instr.entryStore, MapKept.run_getObj_map hW2, asInt, asIntOf, goInt, hidx, MapKept.run_setObj_map _ hW2, Result.andThen]
        rfl
      · obtain ⟨_, rfl, hg⟩ := hG2 b
        exact hg.kept (by rw [World.putObj_heap_same hlt2, World.putObj_heap_same hlt])
  | some j =>
    rw [hj] at hf
    have hjl : j < l.length := by have := (List.findIdx?_eq_some_iff_findIdx_eq.1 hj).1; simpa using this
    have hka : (l[j]).1 = a := by
      have := (List.findIdx?_eq_some_iff_getElem.1 hj).2.1
      simp at this; exact this.symm
    obtain ⟨e0, he0⟩ : ∃ e0, es.toList[j]? = some e0 := ⟨_, List.getElem?_eq_getElem (by rw [Array.length_toList]; omega)⟩
    have hk0 : e0.key = kv a := by
      have : (es.toList.map (fun e => e.key))[j]? = some (kv a) := by rw [h1]; simp [List.getElem?_eq_getElem hjl, hka]
      rw [List.getElem?_map, he0] at this
      simpa using this
    have hv0 : e0.val = vv (l[j]).2 := by
      have : (es.toList.map (fun e => e.val))[j]? = some (vv (l[j]).2) := by rw [h2]; simp [List.getElem?_eq_getElem hjl]
      rw [List.getElem?_map, he0] at this
      simpa using this
    have he0' : es[j]? = some e0 := by rw [← Array.getElem?_toList]; exact he0
    have hca : col a = some (l[j]).2 := by
      rw [← h4 a, asFun_idx, hj]; simp [List.getElem?_eq_getElem hjl]
    have hu : ∀ b : β, (Instr.mapUpdate T (.map (some M)) (kv a) (vv b)).run P w = .ok () (w.putObj M (.map (es.modify j fun e => { e with key := kv a, val := vv b }) clock)) := fun b => by
      unfold Instr.mapUpdate
      simp only [Sem.run_bind, run_underlying hk.ut, Result.andThen_ok, getObj, setObj, Sem.run, hb, hk.ck, hf, Sem.run_pure, Option.map_some, Instr.keyThatStays, he0', hk0, Option.getD_some, hk.bits, if_true]
      try rfl
    have hG2 : ∀ b : β, ∃ w', w' = w.putObj M (.map (es.modify j fun e => { e with key := kv a, val := vv b }) clock) ∧ MapG kv vv w' M (setF col a (some b)) := fun b => by
      obtain ⟨w', hr, hg, _⟩ := store_g hk a b w M col hG
      rw [hu b] at hr
      cases hr
      exact ⟨_, rfl, hg⟩
    have hid : es.modify j (fun e => { e with key := kv a }) = es.modify j (fun e => { e with key := kv a, val := vv (l[j]).2 }) := modify_same fun e he => by
      rw [he0] at he
      cases he
      rw [← hv0]
    have hbn : (es.modify j (fun e => { e with key := kv a })).toList.map (fun e => e.born) = es.toList.map (fun e => e.born) := by
      rw [Array.toList_modify]
      refine List.ext_getElem? fun i => ?_
      rw [List.getElem?_map, List.getElem?_map, List.getElem?_modify]
      by_cases hij : j = i
      · subst hij
        cases es.toList[j]? <;> simp
      · simp [hij]
    refine ⟨e0.born, w.putObj M (.map (es.modify j fun e => { e with key := kv a }) clock), ?_, ?_, grownBy_putObj' w M _, fun b W2 hW2 => ?_⟩
    · unfold Instr.mapEntry
      rw [hca]
      simp only [Sem.run_bind, run_underlying hk.ut, Result.andThen_ok, getObj, setObj, Sem.run, hb, hk.ck, hf, Sem.run_pure, Option.map_some, Instr.keyThatStays, he0', hk0, Option.getD_some, hk.bits, if_true, he0, hv0]
      try rfl
    · rw [hca, hid]
      obtain ⟨_, rfl, hg⟩ := hG2 (l[j]).2
      exact hg
    · rw [World.putObj_heap_same hlt] at hW2
      have hlt2 := (Array.getElem?_eq_some_iff.1 hW2).1
      have hidx : (es.modify j (fun e => { e with key := kv a })).findIdx? (fun e => ((e.born : Nat) : Int) == ((e0.born : Nat) : Int)) = some j := by
        rw [findIdx_arr]
        exact findIdx_born (e0 := { e0 with key := kv a }) (by rw [hbn]; exact h6) (by rw [Array.toList_modify, List.getElem?_modify]; simp [he0])
      have hmod : (es.modify j (fun e => { e with key := kv a })).modify j (fun e => { e with val := vv b }) = es.modify j (fun e => { e with key := kv a, val := vv b }) := by
        apply Array.ext'
        rw [Array.toList_modify, Array.toList_modify, Array.toList_modify]
        refine List.ext_getElem? fun i => ?_
        rw [List.getElem?_modify, List.getElem?_modify, List.getElem?_modify]
        by_cases hij : j = i
        · subst hij
          cases es.toList[j]? <;> simp
        · simp [hij]
      refine ⟨W2.putObj M (.map (es.modify j fun e => { e with key := kv a, val := vv b }) clock), ?_, ?_, grownBy_putObj' W2 M _⟩
      · rw [← hmod]
        simp [Instr.entryStore, MapKept.run_getObj_map hW2, asInt, asIntOf, goInt, hidx, MapKept.run_setObj_map _ hW2, Result.andThen]
        rfl
      · obtain ⟨_, rfl, hg⟩ := hG2 b
        exact hg.kept (by rw [World.putObj_heap_same hlt2, World.putObj_heap_same hlt])
end
end Go.Proofs.Ytbioondlmgolkaa
namespace Go.Proofs.Ytbioondlmgolkaa
open Go.RowKit

/-- the endings of the lists that are longer by one -/
def nexts (e : Nat × Nat) : List (Nat × Nat) := (List.range (e.2 + 2)).map fun v => if e.1 < v then (v, e.2 + 1) else (v, e.2)
/-- the endings of the ascent lists of k + 1 elements -/
def ascE : Nat → List (Nat × Nat)
  | 0 => [(0, 0)]
  | k + 1 => (ascE k).flatMap nexts
theorem ascE_mem : ∀ (k : Nat) (e : Nat × Nat), e ∈ ascE k → e.2 ≤ k ∧ e.1 ≤ k
  | 0, e, h => by
    rw [ascE, List.mem_singleton] at h
    subst h; exact ⟨Nat.le_refl _, Nat.le_refl _⟩
  | k + 1, e, h => by
    rw [ascE, List.mem_flatMap] at h
    obtain ⟨d, hd, he⟩ := h
    have h1 := ascE_mem k d hd
    unfold nexts at he
    obtain ⟨v, hv, rfl⟩ := List.mem_map.1 he
    have hv := List.mem_range.1 hv
    split <;> (dsimp only; omega)
theorem flat_len {α β : Type} {f : α → List β} {n : Nat} : ∀ (l : List α), (∀ x ∈ l, (f x).length ≤ n) → (l.flatMap f).length ≤ l.length * n
  | [], _ => by simp
  | x :: l, h => by
    rw [List.flatMap_cons, List.length_append, List.length_cons, Nat.succ_mul]
    have h1 := h x List.mem_cons_self
    have h2 := flat_len l fun y hy => h y (List.mem_cons_of_mem _ hy)
    omega
theorem ascE_len : ∀ k, k ≤ 13 → (ascE k).length ≤ 15 ^ k
  | 0, _ => by decide
  | k + 1, hk => by
    have ih := ascE_len k (by omega)
    rw [ascE, Nat.pow_succ]
    refine Nat.le_trans (flat_len (n := 15) _ fun e he => ?_) (Nat.mul_le_mul_right 15 ih)
    have := ascE_mem k e he
    unfold nexts
    rw [List.length_map, List.length_range]; omega
theorem ascE_small {k : Nat} (hk : k ≤ 13) : (ascE k).length ≤ 1946195068359375 := Nat.le_trans (ascE_len k hk) (Nat.le_trans (Nat.pow_le_pow_right (by decide) hk) (by decide))
/-- the map holds how often each ending is there -/
def CntP (col : Nat × Nat → Option Nat) (E : List (Nat × Nat)) : Prop := ∀ e, (col e).getD 0 = E.count e
theorem CntP.perm {col : Nat × Nat → Option Nat} {E E' : List (Nat × Nat)} (h : CntP col E) (p : E.Perm E') : CntP col E' := fun e => (h e).trans (p.count_eq e)
theorem CntP.add {col : Nat × Nat → Option Nat} {E : List (Nat × Nat)} (h : CntP col E) (e : Nat × Nat) (c : Nat) : CntP (setF col e (some ((col e).getD 0 + c))) (E ++ List.replicate c e) := fun d => by
  rw [List.count_append, List.count_replicate]
  unfold setF
  by_cases hd : d = e
  · subst hd; simp [h d]
  · rw [if_neg hd, h d]
    have : (e == d) = false := by simpa using fun h => hd h.symm
    simp [this]
def exC (p : (Nat × Nat) × Nat) : List (Nat × Nat) := List.replicate p.2 p.1
def stC (p : (Nat × Nat) × Nat) : List (Nat × Nat) := (nexts p.1).flatMap fun e => List.replicate p.2 e
theorem count_ex : ∀ (l : List ((Nat × Nat) × Nat)), (l.map (·.1)).Nodup → ∀ e, (l.flatMap exC).count e = (asFun l e).getD 0
  | [], _, e => by simp [asFun]
  | p :: l, h, e => by
    rw [List.map_cons, List.nodup_cons] at h
    have ih := count_ex l h.2 e
    rw [List.flatMap_cons, List.count_append, ih]
    unfold exC asFun
    rw [List.count_replicate, List.find?_cons]
    by_cases he : e = p.1
    · subst he
      have hn : l.find? (fun x => decide (p.1 = x.1)) = none := by
        rw [List.find?_eq_none]
        intro x hx
        have : p.1 ≠ x.1 := fun e => h.1 (by rw [e]; exact List.mem_map.2 ⟨x, hx, rfl⟩)
        simpa using this
      simp [hn]
    · have : (p.1 == e) = false := by simpa using fun h => he h.symm
      simp [he, this]
theorem CntP.ex {col : Nat × Nat → Option Nat} {E : List (Nat × Nat)} {l : List ((Nat × Nat) × Nat)} (h : CntP col E) (hn : (l.map (·.1)).Nodup) (hl : ∀ e, asFun l e = col e) : E.Perm (l.flatMap exC) :=
  List.perm_iff_count.2 fun e => by rw [count_ex l hn e, hl e, h e]
theorem flatMap_cons_perm {α β : Type} (f : α → β) (g : α → List β) : ∀ l : List α, (l.flatMap fun e => f e :: g e).Perm (l.map f ++ l.flatMap g)
  | [] => List.Perm.refl _
  | x :: l => by
    rw [List.flatMap_cons, List.map_cons, List.flatMap_cons, List.cons_append, List.cons_append]
    refine List.Perm.cons _ ?_
    refine (List.Perm.append_left (g x) (flatMap_cons_perm f g l)).trans ?_
    rw [← List.append_assoc, ← List.append_assoc]
    exact List.Perm.append_right _ List.perm_append_comm
theorem stC_perm (p : (Nat × Nat) × Nat) : (stC p).Perm ((exC p).flatMap nexts) := by
  obtain ⟨e, c⟩ := p
  unfold stC exC
  dsimp only
  induction c with
  | zero => simp
  | succ c ih =>
    rw [List.replicate_succ, List.flatMap_cons]
    have h1 : ((nexts e).flatMap fun d => List.replicate (c + 1) d) = (nexts e).flatMap fun d => d :: List.replicate c d := by
      congr 1
    rw [h1]
    refine (flatMap_cons_perm (fun d => d) (fun d => List.replicate c d) (nexts e)).trans ?_
    rw [List.map_id']
    exact List.Perm.append_left _ ih
theorem flatMap_perm {α β : Type} {f g : α → List β} : ∀ (l : List α), (∀ x ∈ l, (f x).Perm (g x)) → (l.flatMap f).Perm (l.flatMap g)
  | [], _ => List.Perm.refl _
  | x :: l, h => by
    rw [List.flatMap_cons, List.flatMap_cons]
    exact (h x List.mem_cons_self).append (flatMap_perm l fun y hy => h y (List.mem_cons_of_mem _ hy))
/-- all entries' steps -/
theorem step_perm {col : Nat × Nat → Option Nat} {k : Nat} {l l' : List ((Nat × Nat) × Nat)} (h : CntP col (ascE k)) (hn : (l.map (·.1)).Nodup) (hl : ∀ e, asFun l e = col e) (hp : l'.Perm l) : (l'.flatMap stC).Perm (ascE (k + 1)) := by
  have h1 := h.ex hn hl
  rw [ascE]
  refine (hp.flatMap_right stC).trans ((flatMap_perm l fun p _ => stC_perm p).trans ?_)
  rw [← List.flatMap_assoc]
  exact (h1.flatMap_right nexts).symm
theorem entry_in {col : Nat × Nat → Option Nat} {k : Nat} {l : List ((Nat × Nat) × Nat)} (h : CntP col (ascE k)) (hn : (l.map (·.1)).Nodup) (hl : ∀ e, asFun l e = col e) {p : (Nat × Nat) × Nat} (hp : p ∈ l) (hc : 0 < p.2) : p.1.2 ≤ k ∧ p.1.1 ≤ k :=
  ascE_mem k p.1 ((h.ex hn hl).mem_iff.2 (List.mem_flatMap.2 ⟨p, hp, List.mem_replicate.2 ⟨by omega, rfl⟩⟩))
theorem sum_ex : ∀ l : List ((Nat × Nat) × Nat), (l.map (·.2)).sum = (l.flatMap exC).length
  | [] => rfl
  | p :: l => by rw [List.map_cons, List.sum_cons, List.flatMap_cons, List.length_append, sum_ex l]; simp [exC]
end Go.Proofs.Ytbioondlmgolkaa
namespace Go.Proofs.Ytbioondlmgolkaa
open Go.RowKit
def ekv (e : Nat × Nat) : Value := .agg #[.int .i64 (e.1 : Int), .int .i64 (e.2 : Int)]
def ivv (n : Nat) : Value := .int .i64 (n : Int)
theorem eq_edge (s t : Nat × Nat) (w : World) : (Op.equal 138 (ekv s) (ekv t)).run Try.prog w = .ok (decide (s = t)) w := by
  obtain ⟨a, b⟩ := s
  obtain ⟨c, d⟩ := t
  have h : Op.equal 138 (ekv (a, b)) (ekv (c, d)) = Op.equalIn (9999 + 1) 138 (ekv (a, b)) (ekv (c, d)) := rfl
  rw [h]
  unfold ekv
  rw [run_equalIn_agg _ _ _ _ _ (by kernel_rfl) (by kernel_rfl)]
  rw [show (Try.prog.fieldsOf 138).toList = [{ name := "last", type := 3, offset := 0, embedded := false, tag := "", pkgPath := "forcola/shift", byteOffset := 0 }, { name := "ascents", type := 3, offset := 1, embedded := false, tag := "", pkgPath := "forcola/shift", byteOffset := 8 }] from by kernel_rfl]
  have e3 : Try.prog.underlying 3 = some (.int .i64) := by kernel_rfl
  have p3 : ∀ (x y : Value) w, (part 3 #[x, y] 0).run Try.prog w = .ok x w := fun _ _ _ => by kernel_rfl
  have p4 : ∀ (x y : Value) w, (part 3 #[x, y] 1).run Try.prog w = .ok y w := fun _ _ _ => by kernel_rfl
  have hac : ∀ a c : Nat, (((a : Nat) : Int) == (c : Int)) = decide (a = c) := fun a c => by
    by_cases e : a = c
    · subst e; simp
    · rw [decide_eq_false e, beq_eq_false_iff_ne]; omega
  have q3 : ∀ (a c : Nat) w, (Op.equalIn 9999 3 (.int .i64 (a : Int)) (.int .i64 (c : Int))).run Try.prog w = .ok (decide (a = c)) w := fun a c w => by rw [← hac]; exact run_equalIn_int w 9998 3 _ _ _ _ e3
  simp only [Op.eqFields, Sem.run_bind, Sem.run_ite]
  rw [if_pos (by decide)]
  rw [p3, Result.andThen_ok, p3, Result.andThen_ok, q3, Result.andThen_ok]
  by_cases e : a = c
  · rw [if_neg (by simp [e]), if_pos (by decide), p4, Result.andThen_ok, p4, Result.andThen_ok, q3, Result.andThen_ok]
    by_cases e' : b = d
    · simp [e, e']
    · simp [e, e']
  · rw [if_pos (by simp [e])]; simp [e]
theorem edgeKind : MapKind Try.prog 139 138 2 ekv ivv 0 where
  ut := Try.underlying139
  find := find_agg Try.underlying138 (fun a => ⟨_, rfl⟩) eq_edge
  ck := fun _ _ _ => by kernel_rfl
  zero := fun _ => by kernel_rfl
  bits := fun a => by simp [Instr.sameBits, ekv]
end Go.Proofs.Ytbioondlmgolkaa
namespace Go.Proofs.Ytbioondlmgolkaa
open Go.RowKit Go.Shelf

theorem asFun_mem2 : ∀ {l : List ((Nat × Nat) × Nat)}, (l.map (·.1)).Nodup → ∀ {a : Nat × Nat} {b : Nat}, asFun l a = some b ↔ (a, b) ∈ l
  | [], _, a, b => by simp [asFun]
  | e :: l, hn, a, b => by
    rw [List.map_cons, List.nodup_cons] at hn
    have ih := asFun_mem2 hn.2 (a := a) (b := b)
    unfold asFun at *
    rw [List.find?_cons]
    by_cases h : a = e.1
    · simp only [h, decide_true, Option.map_some, Option.some.injEq, List.mem_cons]
      constructor
      · intro h2; left; rw [← h2]
      · rintro (h2 | h2)
        · rw [← h2]
        · exact absurd (List.mem_map.2 ⟨_, h2, rfl⟩) hn.1
    · simp only [h, decide_false, List.mem_cons]
      rw [ih]
      constructor
      · exact .inr
      · rintro (h2 | h2)
        · exact absurd (by rw [← h2]) h
        · exact h2
/-- the map at block M holds the endings of lists of k + 1 elements -/
def AscM (W : World) (M k : Nat) : Prop := ∃ col, MapG ekv ivv W M col ∧ CntP col (ascE k) ∧ ∀ e b, col e = some b → 0 < b
set_option maxRecDepth 100000 in
set_option maxHeartbeats 4000000 in
theorem step_any (b4 M k : Nat) (w : World) (hk : k + 1 ≤ 13) (h4 : w.cell? ⟨b4, 0, none⟩ = some (.map (some M))) (hM : AscM w M k) :
    Calls Try.prog 67 #[.pointer (some ⟨b4, 0, none⟩)] w fun e w' => ∃ M', e = .returned (.map (some M')) ∧ w.heap.size ≤ M' ∧ AscM w' M' (k + 1) ∧ Below w.heap.size w w' := by
  obtain ⟨col0, hM0, hC0, hP0⟩ := hM
  obtain ⟨l, hl1, hl2⟩ := hM0
  have HND := Lib.hid hl1.2
  have HL2 := Lib.hid hl2
  have HC0 := Lib.hid hC0
  have HP0 := Lib.hid hP0
  have hmm := @run_makeMap Try.prog
  have HBX : Hid (Below w.heap.size w (w.alloc (.map #[] 0))) := (Below.refl _ w).alloc (Nat.le_refl _) _
  have HMN : Hid (MapG ekv ivv (w.alloc (.map #[] 0)) w.heap.size (fun _ => none)) := MapG.made w
  have HML := Lib.hid (hl1.kept (W' := w.alloc (.map #[] 0)) (HBX.out.block M hl1.lt))
  have hMw : M < w.heap.size := hl1.lt
  have HC4 := Lib.hid ((cell_kept h4 (World.grownBy_alloc w (.map #[] 0) none) (fun r e => by cases e)))
  clear hl1 hl2 hC0 hP0 h4
  go_enter Try.func67, Try.ntmps67
  go_upto_region 2 with (fail)
  obtain ⟨M2, hM2⟩ : ∃ M2, Hid (M2 = w.heap.size) := ⟨_, rfl⟩
  rw [← hM2.out] at HMN
  simp only [← hM2.out]
  generalize w.alloc (.map #[] 0) = X at *
  have c4 := HC4.out
  have hwX : w.heap.size ≤ X.heap.size := HBX.out.size
  have hM2X : M2 < X.heap.size := HMN.out.lt
  go_upto_region 3 with (refine wpList_range_g edgeKind rfl (.tmp 8) rfl M l rfl HML.out ?_; intro w5 hR5 hg5 hs5; have HR5 := Lib.hid hR5; have HG5 := Lib.hid hg5; have HS5 := Lib.hid hs5; clear hR5 hg5 hs5)
  obtain ⟨q, hq⟩ : ∃ q, Hid (q = X.heap.size) := ⟨_, rfl⟩
  rw [← hq.out] at HR5
  simp only [← hq.out, Act.put, List.setIfInBounds_toArray, List.set_cons_succ, List.set_cons_zero]
  have HM5 : Hid (MapG ekv ivv w5 M2 (fun _ => none)) := HMN.out.grown HG5.out (by simp)
  have HB5 : Hid (Below w.heap.size w w5) := Below.grown HBX.out HG5.out hwX (fun kk e => by cases e)
  clear HML HG5 HMN
  go_loopg [5] l.length (fun gk s5 wq => ∃ (done todo : List ((Nat × Nat) × Nat)) (col : Nat × Nat → Option Nat), todo.length ≤ gk ∧ Hid ((done ++ todo).Perm l) ∧ Hid (RngG ekv ivv wq M q todo) ∧ Hid (MapG ekv ivv wq M2 col) ∧ Hid (CntP col (done.flatMap stC)) ∧ Hid (∀ e b, col e = some b → 0 < b) ∧ Hid (Below w.heap.size w wq))
  case atStart => exact ⟨[], l, _, Nat.le_refl _, List.Perm.refl _, HR5, HM5, (fun e => rfl), (fun e b h => by cases h), HB5⟩
  case round =>
    clear HR5 HM5 HB5
    obtain ⟨done, todo, col, htl, hperm, hR, hMW, hC, hP, hB⟩ := hrel
    go_wp2_with (first | (refine wpList_next_g rfl (.tmp 9) rfl M q todo rfl hR.out ?_ ?_))
    · intro h0
      subst h0
      have hP1 := hperm.out
      rw [List.append_nil] at hP1
      have HF := Lib.hid (hC.out.perm (step_perm HC0.out HND.out HL2.out hP1))
      clear hP1
      go_wp2
      go_ret
      exact ⟨M2, rfl, by have := hM2.out; omega, ⟨col, hMW.out, HF.out, hP.out⟩, hB.out⟩
    · intro pa l1 a1 c post w6 htd hR6 hg6 hs6 hen
      have hen' : (Instr.entry (.pointer (some ⟨q, 0, none⟩))).run Try.prog w6 = .ok (.tuple #[.agg #[.int .i64 (l1 : Int), .int .i64 (a1 : Int)], .int .i64 (c : Int)]) w6 := hen
      have hcp : ((l1, a1), c) ∈ l := hperm.out.mem_iff.1 (List.mem_append_right _ (by rw [htd]; exact List.mem_append_right _ List.mem_cons_self))
      have hc0 : 0 < c := HP0.out (l1, a1) c (by rw [← HL2.out]; exact (asFun_mem2 HND.out).2 hcp)
      have hin := entry_in HC0.out HND.out HL2.out hcp hc0
      have HR6 := Lib.hid hR6
      have HB6 : Hid (Below w.heap.size w w6) := Below.grown hB.out hg6 hB.out.size (fun kk e => by cases e; have := hq.out; omega)
      have HM6 : Hid (MapG ekv ivv w6 M2 col) := hMW.out.grown hg6 (fun e => by cases e; have := hq.out; omega)
      have HPL : Hid (((done ++ [((l1, a1), c)]) ++ (pa ++ post)).Perm l) := by
        refine List.Perm.trans ?_ hperm.out
        rw [htd, List.append_assoc]
        exact List.Perm.append_left _ (show (((l1, a1), c) :: (pa ++ post)).Perm (pa ++ ((l1, a1), c) :: post) from List.perm_middle.symm)
      have htl6 : (pa ++ post).length + 1 = todo.length := by rw [htd]; simp; omega
      have hTOT : Hid (∀ v, v ≤ a1 + 2 → (done.flatMap stC ++ ((nexts (l1, a1)).take v).flatMap (List.replicate c)).length ≤ 1946195068359375) := fun v _ => by
        have h1 := (step_perm HC0.out HND.out HL2.out HPL.out).length_eq
        rw [List.flatMap_append, List.flatMap_append, List.length_append, List.length_append, List.flatMap_cons, List.flatMap_nil, List.append_nil] at h1
        have h2 := ascE_small hk
        have h3 : (((nexts (l1, a1)).take v).flatMap (List.replicate c)).length ≤ (stC ((l1, a1), c)).length := by
          show _ ≤ ((nexts (l1, a1)).flatMap (List.replicate c)).length
          have h4 : (nexts (l1, a1)).flatMap (List.replicate c) = ((nexts (l1, a1)).take v).flatMap (List.replicate c) ++ ((nexts (l1, a1)).drop v).flatMap (List.replicate c) := by
            rw [← List.flatMap_append, List.take_append_drop]
          rw [h4, List.length_append]; omega
        rw [List.length_append]; omega
      have HBX6 : Hid (BoxN (w6.alloc (.cells #[.int .i64 (l1 : Int), .int .i64 (a1 : Int)] 138)) w6.heap.size 138 #[.int .i64 (l1 : Int), .int .i64 (a1 : Int)]) := BoxN.new rfl
      have HR7 := Lib.hid (HR6.out.grown (World.grownBy_alloc w6 (.cells #[.int .i64 (l1 : Int), .int .i64 (a1 : Int)] 138) none) (by simp) (by simp))
      have HM7 := Lib.hid (HM6.out.grown (World.grownBy_alloc w6 (.cells #[.int .i64 (l1 : Int), .int .i64 (a1 : Int)] 138) none) (by simp))
      have HB7 := Lib.hid (HB6.out.alloc HB6.out.size (.cells #[.int .i64 (l1 : Int), .int .i64 (a1 : Int)] 138))
      have hqM : q < w6.heap.size ∧ M2 < w6.heap.size := ⟨HR6.out.lt.2, HM6.out.lt⟩
      clear htd hR6 hg6 hs6 hen hR hMW hB hcp hperm
      go_upto_region 6 with (fail)
      obtain ⟨b3, hb3⟩ : ∃ b3, Hid (b3 = w6.heap.size) := ⟨_, rfl⟩
      rw [← hb3.out] at HBX6
      simp only [← hb3.out]
      generalize w6.alloc (.cells #[.int .i64 (l1 : Int), .int .i64 (a1 : Int)] 138) = X7 at *
      have h37 : b3 < X7.heap.size := HBX6.out.lt
      have hqb : q < b3 := by rw [hb3.out]; exact hqM.1
      have hMb : M2 < b3 := by rw [hb3.out]; exact hqM.2
      go_loopw [5] (fun s5 wq => ∃ (v : Nat) (col : Nat × Nat → Option Nat), v ≤ a1 + 2 ∧ s5 = .int .i64 (v : Int) ∧ Hid (MapG ekv ivv wq M2 col) ∧ Hid (CntP col (done.flatMap stC ++ ((nexts (l1, a1)).take v).flatMap (List.replicate c))) ∧ Hid (∀ e b, col e = some b → 0 < b) ∧ Hid (Ag (· = M2) X7 wq)) (fun s5 _ => a1 + 2 - (intOf s5).toNat)
      case atStart => exact ⟨0, col, by omega, rfl, HM7, (by show CntP _ _; simpa using hC.out), hP, Ag.refl _ _⟩
      case round =>
        obtain ⟨v, col, hv, rfl, hMW, hCC, hPP, hA⟩ := hrel
        have h3B := hA.out.boxN HBX6.out (by omega)
        have d0 := h3B.cell 0
        have d1 := h3B.cell 1
        by_cases hva : v < a1 + 2
        · have g1 : (v : Int) ≤ (a1 : Int) + 1 := by omega
          have g0 : (v : Int) < 1000 := by omega
          have HNX : Hid (((nexts (l1, a1)).take (v + 1)).flatMap (List.replicate c) = ((nexts (l1, a1)).take v).flatMap (List.replicate c) ++ List.replicate c (if l1 < v then (v, a1 + 1) else (v, a1))) := by
            have hlen : v < (nexts (l1, a1)).length := by unfold nexts; rw [List.length_map, List.length_range]; exact hva
            rw [List.take_succ_eq_append_getElem hlen, List.flatMap_append, List.flatMap_cons, List.flatMap_nil, List.append_nil]
            congr 2
            have : (nexts (l1, a1))[v]? = some (if l1 < v then (v, a1 + 1) else (v, a1)) := by
              unfold nexts; rw [List.getElem?_map, List.getElem?_range hva]; rfl
            exact (List.getElem?_eq_some_iff.1 this).2
          by_cases hlv : l1 < v
          · have g3 : (l1 : Int) < (v : Int) := by omega
            rw [if_pos hlv] at HNX
            have HBY : Hid (BoxN (wr.alloc (.cells #[.int .i64 (v : Int), .int .i64 ((a1 : Int) + 1)] 138)) wr.heap.size 138 #[.int .i64 (v : Int), .int .i64 ((a1 : Int) + 1)]) := BoxN.new rfl
            have HMY := Lib.hid (hMW.out.grown (World.grownBy_alloc wr (.cells #[.int .i64 (v : Int), .int .i64 ((a1 : Int) + 1)] 138) none) (by simp))
            have HAY := Lib.hid (hA.out.grown (World.grownBy_alloc wr (.cells #[.int .i64 (v : Int), .int .i64 ((a1 : Int) + 1)] 138) none) (fun k e => by cases e))
            clear hMW hA
            go_upto_region 11 with (fail)
            obtain ⟨b6, hb6⟩ : ∃ b6, Hid (b6 = wr.heap.size) := ⟨_, rfl⟩
            rw [← hb6.out] at HBY
            simp only [← hb6.out]
            generalize wr.alloc (.cells #[.int .i64 (v : Int), .int .i64 ((a1 : Int) + 1)] 138) = Y at *
            have e0 := HBY.out.cell 0
            have e1 := HBY.out.cell 1
            have hck : ekv (v, a1 + 1) = .agg #[.int .i64 (v : Int), .int .i64 ((a1 : Int) + 1)] := rfl
            have hl : (Instr.lookup 139 (.map (some M2)) (.agg #[.int .i64 (v : Int), .int .i64 ((a1 : Int) + 1)]) false).run Try.prog Y.drew = .ok (.int .i64 (((col (v, a1 + 1)).getD 0 : Nat) : Int)) Y.drew := look_g edgeKind false (v, a1 + 1) Y.drew M2 col (HMY.out.kept rfl)
            obtain ⟨st, W1, hE1, hG1, hg1, hS1⟩ := entry_g edgeKind (v, a1 + 1) Y.drew M2 col (HMY.out.kept rfl)
            obtain ⟨W3, hE3, hG3, hg3⟩ := hS1 ((col (v, a1 + 1)).getD 0 + c) W1 rfl
            have hE1' : (Instr.mapEntry 139 (.map (some M2)) (.agg #[.int .i64 (v : Int), .int .i64 ((a1 : Int) + 1)])).run Try.prog Y.drew = .ok (.tuple #[.int .i64 (((col (v, a1 + 1)).getD 0 : Nat) : Int), .int .i64 (st : Int)]) W1 := hE1
            have hE3' : (Instr.entryStore 139 (.map (some M2)) (.int .i64 (st : Int)) (.int .i64 ((((col (v, a1 + 1)).getD 0 : Nat) : Int) + (c : Int)))).run Try.prog W1 = .ok () W3 := hE3
            have hl2 : (Instr.lookup 139 (.map (some M2)) (.agg #[.int .i64 (v : Int), .int .i64 ((a1 : Int) + 1)]) false).run Try.prog W1 = .ok (.int .i64 (((col (v, a1 + 1)).getD 0 : Nat) : Int)) W1 := by
              have h := look_g edgeKind false (v, a1 + 1) W1 M2 _ hG1
              have h2 : ((setF col (v, a1 + 1) (some ((col (v, a1 + 1)).getD 0))) (v, a1 + 1)).getD 0 = (col (v, a1 + 1)).getD 0 := by unfold setF; rw [if_pos rfl]; rfl
              rw [h2] at h
              exact h
            have ed0 := (show BoxN Y.drew b6 138 _ from HBY.out).cell 0
            have ed1 := (show BoxN Y.drew b6 138 _ from HBY.out).cell 1
            have hct : (col (v, a1 + 1)).getD 0 + c ≤ 1946195068359375 := by
              have h1 := (hCC.out.add (v, a1 + 1) c) (v, a1 + 1)
              unfold setF at h1
              rw [if_pos rfl, List.append_assoc, ← HNX.out] at h1
              have h2 := hTOT.out (v + 1) (by omega)
              have h3 : List.count (v, a1 + 1) (done.flatMap stC ++ ((nexts (l1, a1)).take (v + 1)).flatMap (List.replicate c)) ≤ _ := List.count_le_length
              simp only [Option.getD_some] at h1
              omega
            have HCN : Hid (CntP (setF col (v, a1 + 1) (some ((col (v, a1 + 1)).getD 0 + c))) (done.flatMap stC ++ ((nexts (l1, a1)).take (v + 1)).flatMap (List.replicate c))) := by
              have h1 := hCC.out.add (v, a1 + 1) c
              rw [List.append_assoc, ← HNX.out] at h1
              exact h1
            have HPN : Hid (∀ e b, setF col (v, a1 + 1) (some ((col (v, a1 + 1)).getD 0 + c)) e = some b → 0 < b) := fun e b h => by
              unfold setF at h
              split at h
              · cases h; omega
              · exact hPP.out e b h
            have HG3 := Lib.hid hG3
            have HA3 := Lib.hid (((HAY.out.drewN 1).grown hg1 (fun k e => by cases e; exact .inr rfl)).grown hg3 (fun k e => by cases e; exact .inr rfl))
            clear hG3 hG1 hg1 hg3 hS1 hE1 hE3 hck
            generalize setF col (v, a1 + 1) (some ((col (v, a1 + 1)).getD 0 + c)) = coln at *
            generalize (col (v, a1 + 1)).getD 0 = ct at *
            have hwr : wrap64 ((ct : Int) + (c : Int)) = (ct : Int) + (c : Int) := IntWalk.wrap64_in _ (by omega)
            have hwr2 : IntKind.i64.wrap ((ct : Int) + (c : Int)) = (ct : Int) + (c : Int) := by rw [IntWalk.i64_left]; exact hwr
            go_region
            clear hwr hwr2 hl hl2 hE1' hE3' ed0 ed1 e0 e1 hct
            go_wp2
            exact ⟨⟨v + 1, _, by omega, int_eq (by omega), HG3, HCN, HPN, HA3⟩, by simp [intOf]; omega⟩
          · have g3 : ¬ (l1 : Int) < (v : Int) := by omega
            rw [if_neg hlv] at HNX
            have HBY : Hid (BoxN (wr.alloc (.cells #[.int .i64 (v : Int), .int .i64 (a1 : Int)] 138)) wr.heap.size 138 #[.int .i64 (v : Int), .int .i64 (a1 : Int)]) := BoxN.new rfl
            have HMY := Lib.hid (hMW.out.grown (World.grownBy_alloc wr (.cells #[.int .i64 (v : Int), .int .i64 (a1 : Int)] 138) none) (by simp))
            have HAY := Lib.hid (hA.out.grown (World.grownBy_alloc wr (.cells #[.int .i64 (v : Int), .int .i64 (a1 : Int)] 138) none) (fun k e => by cases e))
            clear hMW hA
            go_upto_region 11 with (fail)
            obtain ⟨b6, hb6⟩ : ∃ b6, Hid (b6 = wr.heap.size) := ⟨_, rfl⟩
            rw [← hb6.out] at HBY
            simp only [← hb6.out]
            generalize wr.alloc (.cells #[.int .i64 (v : Int), .int .i64 (a1 : Int)] 138) = Y at *
            have e0 := HBY.out.cell 0
            have e1 := HBY.out.cell 1
            have hck : ekv (v, a1) = .agg #[.int .i64 (v : Int), .int .i64 (a1 : Int)] := rfl
            have hl : (Instr.lookup 139 (.map (some M2)) (.agg #[.int .i64 (v : Int), .int .i64 (a1 : Int)]) false).run Try.prog Y.drew = .ok (.int .i64 (((col (v, a1)).getD 0 : Nat) : Int)) Y.drew := look_g edgeKind false (v, a1) Y.drew M2 col (HMY.out.kept rfl)
            obtain ⟨st, W1, hE1, hG1, hg1, hS1⟩ := entry_g edgeKind (v, a1) Y.drew M2 col (HMY.out.kept rfl)
            obtain ⟨W3, hE3, hG3, hg3⟩ := hS1 ((col (v, a1)).getD 0 + c) W1 rfl
            have hE1' : (Instr.mapEntry 139 (.map (some M2)) (.agg #[.int .i64 (v : Int), .int .i64 (a1 : Int)])).run Try.prog Y.drew = .ok (.tuple #[.int .i64 (((col (v, a1)).getD 0 : Nat) : Int), .int .i64 (st : Int)]) W1 := hE1
            have hE3' : (Instr.entryStore 139 (.map (some M2)) (.int .i64 (st : Int)) (.int .i64 ((((col (v, a1)).getD 0 : Nat) : Int) + (c : Int)))).run Try.prog W1 = .ok () W3 := hE3
            have hl2 : (Instr.lookup 139 (.map (some M2)) (.agg #[.int .i64 (v : Int), .int .i64 (a1 : Int)]) false).run Try.prog W1 = .ok (.int .i64 (((col (v, a1)).getD 0 : Nat) : Int)) W1 := by
              have h := look_g edgeKind false (v, a1) W1 M2 _ hG1
              have h2 : ((setF col (v, a1) (some ((col (v, a1)).getD 0))) (v, a1)).getD 0 = (col (v, a1)).getD 0 := by unfold setF; rw [if_pos rfl]; rfl
              rw [h2] at h
              exact h
            have ed0 := (show BoxN Y.drew b6 138 _ from HBY.out).cell 0
            have ed1 := (show BoxN Y.drew b6 138 _ from HBY.out).cell 1
            have hct : (col (v, a1)).getD 0 + c ≤ 1946195068359375 := by
              have h1 := (hCC.out.add (v, a1) c) (v, a1)
              unfold setF at h1
              rw [if_pos rfl, List.append_assoc, ← HNX.out] at h1
              have h2 := hTOT.out (v + 1) (by omega)
              have h3 : List.count (v, a1) (done.flatMap stC ++ ((nexts (l1, a1)).take (v + 1)).flatMap (List.replicate c)) ≤ _ := List.count_le_length
              simp only [Option.getD_some] at h1
              omega
            have HCN : Hid (CntP (setF col (v, a1) (some ((col (v, a1)).getD 0 + c))) (done.flatMap stC ++ ((nexts (l1, a1)).take (v + 1)).flatMap (List.replicate c))) := by
              have h1 := hCC.out.add (v, a1) c
              rw [List.append_assoc, ← HNX.out] at h1
              exact h1
            have HPN : Hid (∀ e b, setF col (v, a1) (some ((col (v, a1)).getD 0 + c)) e = some b → 0 < b) := fun e b h => by
              unfold setF at h
              split at h
              · cases h; omega
              · exact hPP.out e b h
            have HG3 := Lib.hid hG3
            have HA3 := Lib.hid (((HAY.out.drewN 1).grown hg1 (fun k e => by cases e; exact .inr rfl)).grown hg3 (fun k e => by cases e; exact .inr rfl))
            clear hG3 hG1 hg1 hg3 hS1 hE1 hE3 hck
            generalize setF col (v, a1) (some ((col (v, a1)).getD 0 + c)) = coln at *
            generalize (col (v, a1)).getD 0 = ct at *
            have hwr : wrap64 ((ct : Int) + (c : Int)) = (ct : Int) + (c : Int) := IntWalk.wrap64_in _ (by omega)
            have hwr2 : IntKind.i64.wrap ((ct : Int) + (c : Int)) = (ct : Int) + (c : Int) := by rw [IntWalk.i64_left]; exact hwr
            go_region
            clear hwr hwr2 hl hl2 hE1' hE3' ed0 ed1 e0 e1 hct
            go_wp2
            exact ⟨⟨v + 1, _, by omega, int_eq (by omega), HG3, HCN, HPN, HA3⟩, by simp [intOf]; omega⟩
        · have g1 : ¬ (v : Int) ≤ (a1 : Int) + 1 := by omega
          obtain rfl : v = a1 + 2 := by omega
          have HCD : Hid (CntP col ((done ++ [((l1, a1), c)]).flatMap stC)) := by
            have h1 := hCC.out
            rw [List.take_of_length_le (by unfold nexts; rw [List.length_map, List.length_range]; exact Nat.le_refl _)] at h1
            rw [List.flatMap_append, List.flatMap_cons, List.flatMap_nil, List.append_nil]
            exact h1
          have HBN := Lib.hid (hA.out.below HB7.out HB7.out.size (fun kk hkk e => by have := hM2.out; omega))
          have HRN := Lib.hid (HR7.out.kept (hA.out.block M HR7.out.lt.1 (by have := hM2.out; omega)) (hA.out.block q HR7.out.lt.2 (by have := hq.out; omega)))
          clear hA hCC
          go_wp2
          go_roundg (pa ++ post).length
          case measure => omega
          case rel => exact ⟨done ++ [((l1, a1), c)], pa ++ post, col, Nat.le_refl _, HPL, HRN, hMW, HCD, hPP, HBN⟩
end Go.Proofs.Ytbioondlmgolkaa
namespace Go.Proofs.Ytbioondlmgolkaa
open Go.RowKit Go.Shelf

/-- what Ascents answers -/
def AscA (n : Int) (e : Ending) : Prop :=
  (e = .returned (.tuple #[.int .i64 0, .int .i64 1]) ∧ (n < 1 ∨ 14 < n)) ∨ (∃ k : Nat, n = (k : Int) + 1 ∧ k ≤ 13 ∧ e = .returned (.tuple #[.int .i64 ((ascE k).length : Int), .int .i64 0]))
theorem AscM.below {W W' : World} {M k n : Nat} (h : AscM W M k) (hB : Below n W W') (hn : M < n) : AscM W' M k := by
  obtain ⟨col, h1, h2⟩ := h
  exact ⟨col, h1.below hB hn, h2⟩
theorem AscM.kept {W W' : World} {M k : Nat} (h : AscM W M k) (hb : W'.heap[M]? = W.heap[M]?) : AscM W' M k := by
  obtain ⟨col, h1, h2⟩ := h
  exact ⟨col, h1.kept hb, h2⟩
theorem AscM.lt {W : World} {M k : Nat} (h : AscM W M k) : M < W.heap.size := by
  obtain ⟨col, h1, _⟩ := h
  exact h1.lt
set_option maxRecDepth 100000 in
set_option maxHeartbeats 4000000 in
theorem Ascents_any (n : Int) (w : World) :
    Calls Try.prog 32 #[.int .i64 n] w fun e w' => AscA n e ∧ Below w.heap.size w w' := by
  by_cases hbad : n < 1 ∨ 14 < n
  · have HBAD := Lib.hid hbad
    by_cases h1 : n < 1
    · clear hbad
      go_enter Try.func32, Try.ntmps32
      go_wp2
      refine bodyPost_ret (v := .tuple #[.int .i64 0, .int .i64 1]) (by simp [results, Try.f32, go_sem]) rfl ?_
      exact ⟨.inl ⟨rfl, HBAD.out⟩, Below.refl _ _⟩
    · have h2 : 14 < n := by omega
      clear hbad
      go_enter Try.func32, Try.ntmps32
      go_wp2
      refine bodyPost_ret (v := .tuple #[.int .i64 0, .int .i64 1]) (by simp [results, Try.f32, go_sem]) rfl ?_
      exact ⟨.inl ⟨rfl, HBAD.out⟩, Below.refl _ _⟩
  · obtain ⟨k, hk⟩ : ∃ k : Nat, n = (k : Int) + 1 := ⟨(n - 1).toNat, by omega⟩
    subst hk
    have hk13 : k ≤ 13 := by omega
    have g1 : ¬ (k : Int) + 1 < 1 := by omega
    have g2 : ¬ 14 < (k : Int) + 1 := by omega
    have hmm := @run_makeMap Try.prog
    clear hbad
    have HM0 : Hid (MapG ekv ivv (w.alloc (.map #[] 0)) w.heap.size (fun _ => none)) := MapG.made w
    have HB0 : Hid (Below w.heap.size w (w.alloc (.map #[] 0))) := (Below.refl _ w).alloc (Nat.le_refl _) _
    obtain ⟨X1, hI, hG1, hg1⟩ := store_g edgeKind (0, 0) 1 _ _ _ HM0.out
    have hI' : (Instr.mapUpdate 139 (.map (some w.heap.size)) (.agg #[.int .i64 0, .int .i64 0]) (.int .i64 1)).run Try.prog (w.alloc (.map #[] 0)) = .ok () X1 := hI
    have HA1 : Hid (AscM X1 w.heap.size 0) := ⟨_, hG1, (fun e => by
      unfold setF ascE
      by_cases he : e = (0, 0)
      · subst he; rfl
      · rw [if_neg he]
        have : (0, 0) ≠ e := fun h => he h.symm
        simp [List.count_cons, this]), fun e b h => by
      unfold setF at h
      split at h
      · cases h; decide
      · cases h⟩
    have HB1 : Hid (Below w.heap.size w X1) := Below.grown HB0.out hg1 HB0.out.size (fun kk e => by cases e; exact Nat.le_refl _)
    clear hI hG1 hg1 HM0 HB0
    go_enter Try.func32, Try.ntmps32
    go_upto_region 4 with (fail)
    obtain ⟨b4, hb4⟩ : ∃ b4, Hid (b4 = X1.heap.size) := ⟨_, rfl⟩
    have HBX : Hid (BoxN (X1.alloc (.cells #[.map (some w.heap.size)] 139)) X1.heap.size 139 #[.map (some w.heap.size)]) := BoxN.new rfl
    have HA2 : Hid (AscM (X1.alloc (.cells #[.map (some w.heap.size)] 139)) w.heap.size 0) := HA1.out.below ((Below.refl _ X1).alloc (Nat.le_refl _) _) HA1.out.lt
    have HB2 : Hid (Below w.heap.size w (X1.alloc (.cells #[.map (some w.heap.size)] 139))) := HB1.out.alloc HB1.out.size _
    have hb4w : w.heap.size ≤ b4 := by rw [hb4.out]; exact HB1.out.size
    rw [← hb4.out] at HBX
    simp only [← hb4.out]
    generalize X1.alloc (.cells #[.map (some w.heap.size)] 139) = X at *
    obtain ⟨M0, hM0⟩ : ∃ M0, Hid (M0 = w.heap.size) := ⟨_, rfl⟩
    have hM0b : M0 < b4 := by have := HA1.out.lt; rw [hM0.out, hb4.out]; exact this
    rw [← hM0.out] at HBX HA2
    clear hI' HA1 HB1
    go_upto_region 6 with (fail)
    go_loopw [21] (fun s21 wr => ∃ (j M : Nat), j ≤ k ∧ s21 = .int .i64 (j : Int) ∧ BoxN wr b4 139 #[.map (some M)] ∧ Hid (AscM wr M j) ∧ M ≠ b4 ∧ Hid (Below w.heap.size w wr)) (fun s21 _ => k - (intOf s21).toNat)
    case atStart => exact ⟨0, M0, by omega, rfl, HBX.out, HA2, by omega, HB2⟩
    case round =>
      obtain ⟨j, M, hj, rfl, hbox, hA, hMb, hB⟩ := hrel
      have c4 := hbox.cell 0
      have f4 := hbox.frozen 0
      by_cases hjk : j < k
      · have g3 : (j : Int) < (k : Int) := by omega
        have HS := Lib.hid (step_any b4 M j wr (by omega) (by rw [c4]; rfl) hA.out)
        have hwr : w.heap.size ≤ wr.heap.size := hB.out.size
        go_upto_region 8 with (go_at_call 67; refine HS.out.mono ?_; rintro e w2 ⟨M', rfl, hM', hA', hB'⟩; have HAN := Lib.hid hA'; have HBN := Lib.hid hB'; clear hA' hB'; have hbox2 := hbox.below HBN.out hbox.lt; have c5 := hbox2.cell 0; have f5 := hbox2.frozen 0)
        have hbl : b4 < wr.heap.size := hbox.lt
        have hw2 : wr.heap.size ≤ w2.heap.size := HBN.out.size
        have HBOX := Lib.hid (hbox2.set 0 (.map (some M')))
        have HAM : Hid (AscM (w2.setCell ⟨b4, 0, none⟩ (.map (some M'))) M' (j + 1)) := HAN.out.kept (((Ag.refl (· = b4) w2).set ⟨b4, 0, none⟩ (.map (some M')) (.inr rfl)).block M' HAN.out.lt (by omega))
        have HBB : Hid (Below w.heap.size w (w2.setCell ⟨b4, 0, none⟩ (.map (some M')))) := (hB.out.trans (HBN.out.mono hwr)).setCell (p := ⟨b4, 0, none⟩) hb4w _
        clear hbox2 hbox hA HAN
        go_wp2
        exact ⟨⟨j + 1, M', by omega, int_eq (by omega), HBOX.out, HAM, by omega, HBB⟩, by simp [intOf]; omega⟩
      · have g3 : ¬ (j : Int) < (k : Int) := by omega
        obtain rfl : k = j := by omega
        obtain ⟨col, hM, hC, hP⟩ := hA.out
        obtain ⟨l, hl1, hl2⟩ := hM
        have HND := Lib.hid hl1.2
        have hsum := hC.ex hl1.2 hl2
        have HSUM : Hid ((l.map (·.2)).sum = (ascE k).length) := by rw [sum_ex, ← hsum.length_eq]; rfl
        have hsm := ascE_small hk13
        have hwr : w.heap.size ≤ wr.heap.size := hB.out.size
        clear hC hP hl2 hsum hA
        go_upto_region 11 with (refine wpList_range_g edgeKind rfl (.tmp 26) rfl M l rfl hl1 ?_; intro w5 hR5 hg5 hs5; have HR5 := Lib.hid hR5; have HG5 := Lib.hid hg5; have HS5 := Lib.hid hs5; clear hR5 hg5 hs5)
        have HB5 : Hid (Below w.heap.size w w5) := Below.grown hB.out HG5.out hwr (fun kk e => by cases e)
        obtain ⟨q, hq⟩ : ∃ q, Hid (q = wr.heap.size) := ⟨_, rfl⟩
        rw [← hq.out] at HR5
        simp only [← hq.out, Act.put, List.setIfInBounds_toArray, List.set_cons_succ, List.set_cons_zero]
        have hqw : w.heap.size ≤ q := by rw [hq.out]; exact hwr
        clear hl1 HG5 c4 f4 hbox
        go_loopg [6] l.length (fun gk s6 wq => ∃ (todo : List ((Nat × Nat) × Nat)) (t : Nat), todo.length ≤ gk ∧ s6 = .int .i64 (t : Int) ∧ Hid (RngG ekv ivv wq M q todo) ∧ Hid (t + (todo.map (·.2)).sum = (ascE k).length) ∧ Hid (Below w.heap.size w wq))
        case atStart => exact ⟨l, 0, Nat.le_refl _, rfl, HR5, (by rw [Nat.zero_add]; exact HSUM), HB5⟩
        case round =>
          clear HR5 HB5
          obtain ⟨todo, t, htl, rfl, hR, hT, hB2⟩ := hrel
          go_wp2_with (first | (refine wpList_next_g rfl (.tmp 27) rfl M q todo rfl hR.out ?_ ?_))
          · intro h0
            subst h0
            have hT2 := hT.out
            rw [List.map_nil, List.sum_nil, Nat.add_zero] at hT2
            subst hT2
            go_wp2
            refine bodyPost_ret (v := .tuple #[.int .i64 ((ascE k).length : Int), .int .i64 0]) (by simp [results, Try.f32, go_sem]) rfl ?_
            exact ⟨.inr ⟨k, rfl, hk13, rfl⟩, hB2.out⟩
          · intro pa l1 a1 c post w6 htd hR6 hg6 hs6 hen
            have hen' : (Instr.entry (.pointer (some ⟨q, 0, none⟩))).run Try.prog w6 = .ok (.tuple #[.agg #[.int .i64 (l1 : Int), .int .i64 (a1 : Int)], .int .i64 (c : Int)]) w6 := hen
            have HR6 := Lib.hid hR6
            have HB6 : Hid (Below w.heap.size w w6) := Below.grown hB2.out hg6 hB2.out.size (fun kk e => by cases e; exact hqw)
            have htl6 : (pa ++ post).length + 1 = todo.length := by rw [htd]; simp; omega
            have hT6 : t + c + ((pa ++ post).map (·.2)).sum = (ascE k).length := by
              have := hT.out
              rw [htd, List.map_append, List.sum_append, List.map_cons, List.sum_cons] at this
              rw [List.map_append, List.sum_append]
              omega
            have hwr' : wrap64 ((t : Int) + (c : Int)) = (t : Int) + (c : Int) := IntWalk.wrap64_in _ (by omega)
            have hwr2 : IntKind.i64.wrap ((t : Int) + (c : Int)) = (t : Int) + (c : Int) := by rw [IntWalk.i64_left]; exact hwr'
            have HT6 := Lib.hid hT6
            clear htd hR6 hg6 hs6 hen hT6 hR hT hB2
            go_wp2
            clear hwr' hwr2
            go_roundg (pa ++ post).length
            case measure => omega
            case rel => exact ⟨pa ++ post, t + c, Nat.le_refl _, int_eq (by omega), HR6, HT6, HB6⟩
end Go.Proofs.Ytbioondlmgolkaa
namespace Go.Proofs.Ytbioondlmgolkaa
open Go.RowKit
section
variable {P : Program} {ops : Array Oper} {md : Region.Mode} {C : World → Prop}
/-- each operation from m on and ahead of n has one behind it, at most n, that waits for it -/
def sinkFrom (md : Region.Mode) (ops : Array Oper) (m n : Nat) : Bool :=
  (List.range n).all fun i => decide (i < m) || (List.range (n + 1)).any fun j => decide (i < j) && Region.waitsFor md ops j i
theorem tail_waits_from {m n : Nat} {listed : Array Bool} (hs : sinkFrom md ops m n = true) (hc : Region.chainB md ops n = true) (hn : n < ops.size) (inv : HeadInv md ops n listed) :
    ∀ (d i : Nat), n - i = d → i < n → m ≤ i → listed.getD i true = false → ∀ t, n ≤ t → t ∉ Region.ready md ops listed := by
  intro d
  induction d using Nat.strongRecOn with
  | _ d ih =>
    intro i hd hi hmi hun t ht hr
    obtain ⟨_, ot, hot, hall⟩ := mem_ready.1 hr
    have htlt : t < ops.size := (Array.getElem?_eq_some_iff.1 hot).1
    by_cases htn : t = n
    · subst htn
      have h1 := List.all_eq_true.1 hs i (List.mem_range.2 hi)
      simp only [Bool.or_eq_true, decide_eq_true_eq] at h1
      obtain ⟨j, hj, hj2⟩ := List.any_eq_true.1 (h1.resolve_left (by omega))
      simp only [Bool.and_eq_true, decide_eq_true_eq] at hj2
      obtain ⟨oj, hoj, e, he, hb, hon⟩ := Region.waitsFor_spec hj2.2
      have hjle : j ≤ t := by have := List.mem_range.1 hj; omega
      by_cases hjt : j = t
      · subst hjt
        have : oj = ot := Option.some.inj (hoj.symm.trans hot)
        subst this
        have h2 := hall e he hb
        rw [hon, getD_both hun] at h2
        cases h2
      · cases hl : listed.getD j false with
        | true =>
          have h2 := inv.closed j oj hoj hl e he hb
          rw [hon, getD_both hun] at h2
          cases h2
        | false =>
          have hjs : j < listed.size := by rw [inv.size]; omega
          exact ih (t - j) (by omega) j rfl (by omega) (by omega) (getD_in hjs hl) t (Nat.le_refl _) hr
    · have h1 := List.all_eq_true.1 hc t (List.mem_range.2 htlt)
      simp only [Bool.or_eq_true, decide_eq_true_eq] at h1
      rcases h1 with h1 | h1
      · omega
      · obtain ⟨o', ho', e, he, hb, hon⟩ := Region.waitsFor_spec h1
        have : o' = ot := Option.some.inj (ho'.symm.trans hot)
        subst this
        have h2 := hall e he hb
        rw [hon, getD_both (inv.tail (t - 1) (by omega) (by omega))] at h2
        cases h2
theorem headC_first_from {m n i : Nat} {oi : Oper} {v : Value} {L : Array Bool → Act → Prop} (hi : ops[i]? = some oi) (hsel : ∀ (j : Nat) (o : Oper) cs b, ops[j]? = some o → o.op ≠ .select cs b)
    (hs : sinkFrom md ops m n = true) (hc : Region.chainB md ops n = true) (hn : n < ops.size) (hin : i < n) (hmi : m ≤ i) (hdone : ∀ listed a, L listed a → ∀ j ∈ Region.ready md ops listed, n ≤ j) :
    ∀ (f : Nat) (listed : Array Bool) (a : Act), HeadInv md ops n listed →
      (∀ j oj, ops[j]? = some oj → j ≠ i → listed.getD j true = false → (∀ e ∈ oj.after, Region.binds md e = true → e.on ≠ i) → oi.apart ops oj = true) →
      i ∈ Region.ready md ops listed → YieldsIn P ops C oi v a → headC P md ops C n L f (listed.setIfInBounds i true) (a.put oi.dst v) → headC P md ops C n L (f + 1) listed a := by
  intro f
  induction f with
  | zero =>
    intro listed a inv _ hr hy H
    refine ⟨List.ne_nil_of_mem hr, fun j hj => ?_⟩
    have hjn : j < n := Nat.lt_of_not_le fun h => tail_waits_from hs hc hn inv _ i rfl hin hmi (mem_ready.1 hr).1 j h hj
    by_cases hji : j = i
    · subst hji; exact ⟨hjn, hy.qOp hi H⟩
    · exact absurd (hdone _ _ H j (ready_mono hj hji)) (by omega)
  | succ f ih =>
    intro listed a inv hfree hr hy H
    have hun := (mem_ready.1 hr).1
    refine ⟨List.ne_nil_of_mem hr, fun j hj => ?_⟩
    have hjn : j < n := Nat.lt_of_not_le fun h => tail_waits_from hs hc hn inv _ i rfl hin hmi hun j h hj
    refine ⟨hjn, ?_⟩
    by_cases hji : j = i
    · subst hji; exact hy.qOp hi H
    · have h1 := (H.2 j (ready_mono hj hji)).2
      obtain ⟨hjun, oj, hoj, hall⟩ := mem_ready.1 hj
      have hnot : ∀ e ∈ oj.after, Region.binds md e = true → e.on ≠ i := fun e he hb heq => by
        have h3 := hall e he hb
        rw [heq, getD_both hun] at h3
        cases h3
      have h2 := qOp_put hoj (hfree j oj hoj hji hjun hnot) (fun cs b => hsel i oi cs b hi) (fun cs b => hsel j oj cs b hoj) hy h1
      refine qOp_mono (fun a' h3 => ih (listed.setIfInBounds j true) a' (inv.set hj hjn) (fun k ok hk hki hu hno => ?_) (ready_mono hr (Ne.symm hji)) h3.1 ?_) h2
      · by_cases hjk : j = k
        · subst hjk; exact hfree j ok hk hki hjun hno
        · rw [getD_set_ne true hjk] at hu; exact hfree k ok hk hki hu hno
      · rw [Array.setIfInBounds_comm _ _ hji]; exact h3.2
theorem headC_lex_from {m n g : Nat} {Lq : Act → Prop} (hsel : Region.noSelect ops = true) (hs : sinkFrom md ops m n = true) (hc : Region.chainB md ops n = true) (hn : n < ops.size) :
    ∀ (l : List Oper) (k : Nat) (listed : Array Bool) (a : Act), m ≤ k → (∀ j, j < l.length → l[j]? = ops[k + j]?) → k + l.length = n → HeadInv md ops n listed →
    Region.lexHead md ops g l.length k listed = true → wpQuiet P ops C Lq l a → headC P md ops C n (fun listed' a' => Region.seqB md ops g n listed' = true ∧ Lq a') l.length listed a
  | [], k, listed, a, _, _, hk, _, hB, h => by
    obtain rfl : k = n := by simpa using hk
    exact ⟨by simpa [Region.lexHead] using hB, h⟩
  | o :: l, k, listed, a, hmk, hl, hk, inv, hB, h => by
    have h0 : ops[k]? = some o := by simpa using (hl 0 (by simp)).symm
    simp only [List.length_cons, Region.lexHead, Bool.and_eq_true] at hB
    have hkn : k < n := by simp only [List.length_cons] at hk; omega
    have hr : k ∈ Region.ready md ops listed := by simpa using hB.1.1
    have hst : qOp P ops C k (wpQuiet P ops C Lq l) a := by unfold qOp; simp only [h0]; exact h
    obtain ⟨v, hy, hK⟩ := yieldsIn_of_qOp h0 hst
    exact headC_first_from h0 (Region.noSelect_spec hsel) hs hc hn hkn hmk (fun listed' a' hL => seqB_ready hL.1) l.length listed a inv (Region.free_spec h0 hB.1.2) hr hy
      (headC_lex_from hsel hs hc hn l (k + 1) _ _ (by omega) (fun j hj => by have := hl (j + 1) (by simp; omega); simpa [Nat.add_assoc, Nat.add_comm 1 j] using this) (by simp only [List.length_cons] at hk; omega) (inv.set hr hkn) hB.2 hK)
end
/-- the region's first operation may be taken first, and then its head to n is quiet, and what waits for it follows -/
def copyTailB (md : Region.Mode) (ops : Array Oper) (n : Nat) : Bool :=
  Region.noSelect ops && decide (n < ops.size) && decide (1 ≤ n) && sinkFrom md ops 1 n && Region.chainB md ops n && Region.free md ops (Array.replicate ops.size false) 0 && (Region.ready md ops (Array.replicate ops.size false)).contains 0 &&
    Region.lexHead md ops (ops.size - n) (n - 1) 1 ((Array.replicate ops.size false).setIfInBounds 0 true)
theorem wp_region_bw_copy_tail {P : Program} {id : Nat} {Q : Exit → Act → World → Prop} {a : Act} {w : World} {l : List Oper} {o : Oper} {v : Value} (n : Nat) (hm : P.follows .mixedOrders = true) (hB : copyTailB .any (o :: l).toArray n = true)
    (hQ : ∀ c a w, Q (.panic c) (a.put o.dst v) w → Q (.panic c) a w) (hy : Yields P (o :: l).toArray o v a)
    (h : wpQuiet P (o :: l).toArray (fun W => ∃ d : BW w.heap.size w, W = d.w) (fun a' => ∀ W, (∃ d : BW w.heap.size w, W = d.w) → wpList P (o :: l).toArray Q (l.drop (n - 1)) a' W) (l.take (n - 1)) (a.put o.dst v)) : (Code.region id (o :: l).toArray true).wp P Q a w := by
  simp only [copyTailB, Bool.and_eq_true, decide_eq_true_eq] at hB
  obtain ⟨⟨⟨⟨⟨⟨⟨hsel, hn⟩, hn1⟩, hs⟩, hc⟩, hfr⟩, hrd⟩, hlex⟩ := hB
  have hC : ∃ d : BW w.heap.size w, { w with drawn := w.drawn + 1 } = d.w := ⟨BW.of _ (below_dr (Below.refl _ w) 1), rfl⟩
  generalize hops : (o :: l).toArray = ops at *
  have hsz : ops.size = l.length + 1 := by rw [← hops]; simp
  have ho0 : ops[0]? = some o := by rw [← hops]; rfl
  have htl : (l.take (n - 1)).length = n - 1 := by simp; omega
  have hdl : (l.drop (n - 1)).length = ops.size - n := by simp; omega
  have hr0 : 0 ∈ Region.ready .any ops (Array.replicate ops.size false) := by simpa using hrd
  have inv0 : HeadInv .any ops n (Array.replicate ops.size false) :=
    ⟨by simp, fun j oj _ hl => (by rw [getD_replicate_false] at hl; cases hl), fun t _ ht => getD_in (by simpa using ht) (getD_replicate_false _ _)⟩
  have H := headC_lex_from (md := .any) (g := ops.size - n) hsel hs hc hn (l.take (n - 1)) 1 _ _ (Nat.le_refl _) (fun j hj => by
    have hj' : j < n - 1 := by rw [htl] at hj; exact hj
    rw [← hops]
    simp [hj', Nat.add_comm 1 j]) (by rw [htl]; omega) (inv0.set hr0 hn1) (by rw [htl]; exact hlex) h
  refine wp_region_any hm ?_
  have H2 := headC_any (Q' := Q) (g := ops.size - n) (fun listed a' w' hw' hL => by
    rw [← hdl]
    exact wpAny_of_seq (l.drop (n - 1)) n listed a' w' (fun j => by rw [← hops]; simp; rw [show n + j = (n - 1 + j) + 1 by omega]; simp) (by rw [hdl]; exact hL.1) (hL.2 w' hw')) (l.take (n - 1)).length _ _ _ hC H
  rw [htl] at H2
  have H3 := wpAny_take ho0 hsel hfr hrd hQ hy H2
  rw [show n - 1 + (ops.size - n) + 1 = ops.size by omega] at H3
  exact H3
end Go.Proofs.Ytbioondlmgolkaa
namespace Go.Proofs.Ytbioondlmgolkaa
open Go.RowKit Go.Shelf
attribute [local go_sem] Oper.semAt_some
/-- a pair of elements that overlap -/
abbrev OvX (n : Nat) (r : Nat → Nat → Bool) : Type := {p : Nat × Nat // p.1 < n ∧ p.2 < n ∧ Ovl r p.1 p.2}
def ovE {n : Nat} {r : Nat → Nat → Bool} (x : OvX n r) : Array Value := #[Value.int .i64 (x.1.1 : Int), Value.int .i64 (x.1.2 : Int)]
/-- all of them -/
def OvAll (n : Nat) (r : Nat → Nat → Bool) (ys : List (OvX n r)) : Prop := ∀ x y, x < n → y < n → Ovl r x y → ∃ z ∈ ys, z.1 = (x, y)
/-- what the iterator reads -/
def OvIn (Bg B n : Nat) (r : Nat → Nat → Bool) (W : World) : Prop := OrdAt W B n r ∧ W.cell? ⟨Bg, 0, none⟩ = some (.pointer (some ⟨B, 0, none⟩)) ∧ Bg < W.heap.size
def KeepsOv (Bg B n : Nat) (r : Nat → Nat → Bool) (A A' : World) : Prop := OvIn Bg B n r A → OvIn Bg B n r A'
theorem OvIn.block {Bg B n : Nat} {r : Nat → Nat → Bool} {A A' : World} (h : OvIn Bg B n r A) (h1 : A'.heap[B]? = A.heap[B]?) (h2 : A'.heap[Bg]? = A.heap[Bg]?) (hs : A.heap.size ≤ A'.heap.size) : OvIn Bg B n r A' := by
  obtain ⟨h3, h4, h5⟩ := h
  refine ⟨⟨Nat.lt_of_lt_of_le h3.lt hs, (World.cell?_of_block h1).trans h3.cn, fun j hj => (World.cell?_of_block h1).trans (h3.cb j hj), fun j hj => (World.cell?_of_block h1).trans (h3.ca j hj)⟩, (World.cell?_of_block h2).trans h4, Nat.lt_of_lt_of_le h5 hs⟩
theorem OvIn.below {Bg B n k : Nat} {r : Nat → Nat → Bool} {A A' : World} (h : OvIn Bg B n r A) (hB : Below k A A') (h1 : B < k) (h2 : Bg < k) : OvIn Bg B n r A' := h.block (hB.block B h1) (hB.block Bg h2) hB.size
theorem keepsOv_t {Bg B n : Nat} {r : Nat → Nat → Bool} {A A' C : World} (h : KeepsOv Bg B n r A A') (k : KeepsOv Bg B n r A' C) : KeepsOv Bg B n r A C := fun t => k (h t)
theorem KeepsOv.refl {Bg B n : Nat} {r : Nat → Nat → Bool} (W : World) : KeepsOv Bg B n r W W := fun h => h
theorem keepsOv_b {Bg B n : Nat} {r : Nat → Nat → Bool} {w : World} (h1 : Bg < w.heap.size) (h2 : B < w.heap.size) (W : World) (l : Nat) (o o' : Obj) (hl : w.heap.size ≤ l) (_h : W.heap[l]? = some o) (_ : o.isCells = false) (_ : o.isWalk = false) : KeepsOv Bg B n r W (W.putObj l o') := fun ht => by
  have hg := grownBy_putObj' W l o'
  exact ht.block (hg.block B ht.1.lt (fun e => by cases e; omega)) (hg.block Bg ht.2.2 (fun e => by cases e; omega)) hg.size
set_option maxRecDepth 100000 in
set_option maxHeartbeats 4000000 in
theorem ov_in (N : Nat) (hN : 1 ≤ N) (l Bg B n : Nat) (r : Nat → Nat → Bool) (hn : n ≤ 12) (J Jx : List (OvX n r) → World → Prop)
    (hY : ∀ pre x W, J pre W → pre.length < 145 → YieldAt Fence.wide (N - 1) Try.prog l (ovE x) W fun e W' =>
      (e = .returned (.bool true) ∧ J (pre ++ [x]) W' ∧ KeepsOv Bg B n r W W') ∨ (e = .returned (.bool false) ∧ Jx (pre ++ [x]) W'))
    (W : World) (hI : OvIn Bg B n r W) (h0 : J [] W) :
    CallsIn Fence.wide N Try.prog 81 #[.func (.yield l) #[] #[], .pointer (some ⟨Bg, 0, none⟩)] W fun e W' => (∃ v, e = .returned v) ∧
      ((∃ ys, OvAll n r ys ∧ J ys W') ∨ (∃ pre, True ∧ Jx pre W')) := by
  refine callsIn_of_wp Try.func81 rfl trivial ?_ rfl
  simp only [Try.ntmps81, List.size_toArray, List.length_cons, List.length_nil, Nat.reduceAdd, Nat.reduceSub, Array.replicate_succ, Array.replicate_zero, List.push_toArray, List.append_toArray, List.nil_append, List.cons_append]
  have c0 := hI.2.1
  have c1 := hI.1.cn
  gi_wp2
  gi_loopw [9] (fun s9 wr => ∃ (x : Nat) (pre : List (OvX n r)), x ≤ n ∧ s9 = .int .i64 (x : Int) ∧ J pre wr ∧ Hid (∀ a b, a < x → b < n → Ovl r a b → ∃ z ∈ pre, z.1 = (a, b)) ∧ pre.length ≤ x * 12 ∧ Hid (OvIn Bg B n r wr)) (fun s9 _ => n - (intOf s9).toNat)
  case atStart => exact ⟨0, [], by omega, rfl, h0, (fun a b ha => by omega), Nat.zero_le _, hI⟩
  case round =>
    clear c0 c1 hI h0
    obtain ⟨x, pre, hx, rfl, hJ, hS, hlen, hIn⟩ := hrel
    by_cases hxn : x < n
    · have g1 : (x : Int) < (n : Int) := by omega
      have c0 := hIn.out.2.1
      have c1 := hIn.out.1.cn
      obtain ⟨wo, hwo⟩ : ∃ wo, Hid (wo = wr) := ⟨_, rfl⟩
      rw [← hwo.out] at hJ hIn c0 c1 ⊢
      clear hwo
      gi_wp2
      gi_loopw [16] (fun s16 wq => ∃ (y : Nat) (pre : List (OvX n r)), y ≤ n ∧ s16 = .int .i64 (y : Int) ∧ J pre wq ∧ Hid (∀ a b, (a < x ∧ b < n) ∨ (a = x ∧ b < y) → Ovl r a b → ∃ z ∈ pre, z.1 = (a, b)) ∧ pre.length ≤ x * 12 + y ∧ Hid (OvIn Bg B n r wq)) (fun s16 _ => n - (intOf s16).toNat)
      case atStart => exact ⟨0, pre, by omega, rfl, hJ, (fun a b h ho => hS.out a b (by omega) (by omega) ho), by omega, hIn⟩
      case round =>
        clear hJ hS hIn c0 c1 hlen
        obtain ⟨y, pre, hy, rfl, hJ, hS, hlen, hIn⟩ := hrel
        have c0 := hIn.out.2.1
        have c1 := hIn.out.1.cn
        by_cases hyn : y < n
        · have g2 : (y : Int) < (n : Int) := by omega
          have HH1 := Lib.hid (has_any B n x y r wr hn hxn hyn hIn.out.1)
          have HH2 := Lib.hid (has_any B n y x r wr hn hyn hxn hIn.out.1)
          have HSN : Hid (¬ Ovl r x y → ∀ a b, (a < x ∧ b < n) ∨ (a = x ∧ b < y + 1) → Ovl r a b → ∃ z ∈ pre, z.1 = (a, b)) := fun hno a b h ho => by
            by_cases e : a = x ∧ b = y
            · obtain ⟨rfl, rfl⟩ := e; exact absurd ho hno
            · exact hS.out a b (by omega) ho
          by_cases hxy : x = y
          · have g3 : ((x : Int) != (y : Int)) = false := by rw [hxy]; simp
            have HN := Lib.hid (HSN.out fun h => h.1 hxy)
            clear HSN hxy
            gi_wp2
            exact ⟨⟨y + 1, pre, by omega, int_eq (by omega), hJ, HN, by omega, hIn⟩, by simp [intOf]; omega⟩
          · have g3 : ((x : Int) != (y : Int)) = true := by rw [bne_iff_ne]; omega
            by_cases h1 : r x y = true
            · have HN := Lib.hid (HSN.out fun h => by rw [h.2.1] at h1; cases h1)
              rw [h1] at HH1
              clear HSN hxy h1
              gi_wp2_with (gi_at_call 82; refine (callsIn_wide.2 HH1.out).mono ?_; rintro e w5 ⟨rfl, hw⟩; subst hw; try dsimp only)
              exact ⟨⟨y + 1, pre, by omega, int_eq (by omega), hJ, HN, by omega, hIn⟩, by simp [intOf]; omega⟩
            · have h1' : r x y = false := by simpa using h1
              by_cases h2 : r y x = true
              · have HN := Lib.hid (HSN.out fun h => by rw [h.2.2] at h2; cases h2)
                rw [h1'] at HH1
                rw [h2] at HH2
                clear HSN hxy h1 h2
                gi_wp2_with (first | (gi_at_call 82; with_reducible refine (callsIn_wide.2 HH1.out).mono ?_; rintro e w5 ⟨rfl, hw⟩; subst hw; try dsimp only) | (gi_at_call 82; with_reducible refine (callsIn_wide.2 HH2.out).mono ?_; rintro e w5 ⟨rfl, hw⟩; subst hw; try dsimp only))
                exact ⟨⟨y + 1, pre, by omega, int_eq (by omega), hJ, HN, by omega, hIn⟩, by simp [intOf]; omega⟩
              · have h2' : r y x = false := by simpa using h2
                rw [h1'] at HH1
                rw [h2'] at HH2
                obtain ⟨fn, tmps, assign, body, hyl, hR⟩ := hY pre ⟨(x, y), hxn, hyn, hxy, h1', h2'⟩ wr hJ (by omega)
                have HSA : Hid (∀ a b, (a < x ∧ b < n) ∨ (a = x ∧ b < y + 1) → Ovl r a b → ∃ z ∈ pre ++ [(⟨(x, y), hxn, hyn, hxy, h1', h2'⟩ : OvX n r)], z.1 = (a, b)) := fun a b h ho => by
                  by_cases e : a = x ∧ b = y
                  · obtain ⟨rfl, rfl⟩ := e; exact ⟨_, List.mem_append_right _ List.mem_cons_self, rfl⟩
                  · obtain ⟨z, hz, e2⟩ := hS.out a b (by omega) ho
                    exact ⟨z, List.mem_append_left _ hz, e2⟩
                have hlen2 : (pre ++ [(⟨(x, y), hxn, hyn, hxy, h1', h2'⟩ : OvX n r)]).length ≤ x * 12 + (y + 1) := by simp; omega
                have HR := Lib.hid hR
                have hy2 : (Instr.yield l #[.int .i64 (x : Int), .int .i64 (y : Int)]).run Try.prog wr = .ok (.round l fn tmps assign body) wr := hyl
                clear hyl
                generalize (⟨(x, y), hxn, hyn, hxy, h1', h2'⟩ : OvX n r) = z at *
                clear hR HSN h1 h2 hS hJ hlen hxy
                gi_wp2_with (first | (gi_at_call 82; with_reducible refine (callsIn_wide.2 HH1.out).mono ?_; rintro e w5 ⟨rfl, hw⟩; subst hw; try dsimp only) | (gi_at_call 82; with_reducible refine (callsIn_wide.2 HH2.out).mono ?_; rintro e w5 ⟨rfl, hw⟩; subst hw; try dsimp only))
                refine HR.out.mono ?_
                rintro e W3 (⟨rfl, hJ3, hk3⟩ | ⟨rfl, hJx3⟩)
                · have hI3 := Lib.hid (hk3 hIn.out)
                  gi_wp2
                  exact ⟨⟨y + 1, pre ++ [z], by omega, int_eq (by omega), hJ3, HSA, hlen2, hI3⟩, by simp [intOf]; omega⟩
                · gi_wp2
                  refine bodyPost_ret (results_none rfl _ _ _) rfl ?_
                  exact ⟨⟨_, rfl⟩, .inr ⟨_, trivial, hJx3⟩⟩
        · have g2 : ¬ (y : Int) < (n : Int) := by omega
          obtain rfl : n = y := by omega
          gi_wp2
          exact ⟨⟨x + 1, pre, by omega, int_eq (by omega), hJ, (fun a b ha hb ho => hS.out a b (by omega) ho), by omega, hIn⟩, by simp [intOf]; omega⟩
    · have g1 : ¬ (x : Int) < (n : Int) := by omega
      obtain rfl : n = x := by omega
      gi_wp2
      go_end0
      exact ⟨⟨_, rfl⟩, .inl ⟨pre, fun a b ha hb h => hS.out a b ha hb h, hJ⟩⟩
theorem overlaps_any (B : Nat) (w : World) :
    Calls Try.prog 51 #[.pointer (some ⟨B, 0, none⟩)] w fun e w' => e = .returned (.func (.func 81) #[] #[.pointer (some ⟨w.heap.size, 0, none⟩)]) ∧ w' = w.alloc (.cells #[.pointer (some ⟨B, 0, none⟩)] 90) := by
  go_enter Try.func51, Try.ntmps51
  go_wp2
  go_ret
  exact ⟨by simp, rfl⟩
/-- THE ITERATOR's CONTRACT: all pairs that overlap; or some. -/
theorem ov_stops (N : Nat) (hN : 1 ≤ N) (Bg B n : Nat) (r : Nat → Nat → Bool) (hn : n ≤ 12) (w : World) (hI : OvIn Bg B n r w) :
    SeqStopsK Fence.wide N Try.prog 81 #[.pointer (some ⟨Bg, 0, none⟩)] (fun x : OvX n r => #[Value.int .i64 (x.1.1 : Int), Value.int .i64 (x.1.2 : Int)]) (KeepsOv Bg B n r) (OvAll n r) (fun _ => True) 145 w := fun l J Jx W hW hJ _ hY h0 =>
  ov_in N hN l Bg B n r hn J Jx hY W (hI.below hW hI.1.lt hI.2.2) h0
end Go.Proofs.Ytbioondlmgolkaa
