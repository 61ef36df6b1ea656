/- The map of the program's search: what a look-up and a store do. -/
import Derived.Test.YtfbobojpocnfeaaOp
import Derived.Test.YtfbobojpocnfeaaRow
import Derived.Test.YtfbobojpocnfeaaBfs
import Derived.Maps.OwnIn
namespace Go.Proofs.Ytfbobojpocnfeaa
open Go.RowKit

def stV (s : St) : Value := .agg #[.int .i64 (s.1 : Int), .bool s.2]
def trV (s : St) (p : Nat) : Value := .agg #[.int .i64 (s.1 : Int), .bool s.2, .int .i64 (p : Int)]
theorem eq_st (s t : St) (w : World) : (Op.equal 74 (stV s) (stV t)).run Try.prog w = .ok (decide (s = t)) w := by
  obtain ⟨a, b⟩ := s
  obtain ⟨c, d⟩ := t
  have h : Op.equal 74 (stV (a, b)) (stV (c, d)) = Op.equalIn (9999 + 1) 74 (stV (a, b)) (stV (c, d)) := rfl
  rw [h]
  unfold stV
  rw [run_equalIn_agg _ _ _ _ _ (by kernel_rfl) (by kernel_rfl)]
  rw [show (Try.prog.fieldsOf 74).toList = [{ name := "left", type := 3, offset := 0, embedded := false, tag := "", pkgPath := "forcola/ferry", byteOffset := 0 }, { name := "right", type := 4, offset := 1, embedded := false, tag := "", pkgPath := "forcola/ferry", byteOffset := 8 }] from by kernel_rfl]
  have e3 : Try.prog.underlying 3 = some (.int .i64) := by kernel_rfl
  have e4 : Try.prog.underlying 4 = some .bool := by kernel_rfl
  have p3 : ∀ (x y : Value) w, (part 3 #[x, y] 0).run Try.prog w = .ok x w := fun _ _ _ => by kernel_rfl
  have p4 : ∀ (x y : Value) w, (part 4 #[x, y] 1).run Try.prog w = .ok y w := fun _ _ _ => by kernel_rfl
  have hac : (((a : Nat) : Int) == (c : Int)) = decide (a = c) := by
    by_cases e : a = c
    · subst e; simp
    · rw [decide_eq_false e, beq_eq_false_iff_ne]; omega
  have q3 : ∀ w, (Op.equalIn 9999 3 (.int .i64 (a : Int)) (.int .i64 (c : Int))).run Try.prog w = .ok (decide (a = c)) w := fun w => by rw [← hac]; exact run_equalIn_int w 9998 3 _ _ _ _ e3
  have q4 : ∀ w, (Op.equalIn 9999 4 (.bool b) (.bool d)).run Try.prog w = .ok (b == d) w := fun w => run_equalIn_bool' w 9998 4 _ _ e4
  have hfin : (Op.eqFields 9999 #[.int .i64 (a : Int), .bool b] #[.int .i64 (c : Int), .bool d] [{ name := "left", type := 3, offset := 0, embedded := false, tag := "", pkgPath := "forcola/ferry", byteOffset := 0 }, { name := "right", type := 4, offset := 1, embedded := false, tag := "", pkgPath := "forcola/ferry", byteOffset := 8 }]).run Try.prog w = .ok (decide (a = c) && (b == d)) w := by
    simp only [Op.eqFields, Sem.run_bind, Sem.run_ite]
    rw [if_pos (by decide)]
    rw [p3, Result.andThen_ok, p3, Result.andThen_ok, q3, Result.andThen_ok]
    by_cases e : a = c
    · rw [if_neg (by simp [e]), if_pos (by decide), p4, Result.andThen_ok, p4, Result.andThen_ok, q4, Result.andThen_ok]
      by_cases e' : b = d
      · simp [e, e']
      · simp [e, e']
    · rw [if_pos (by simp [e])]; simp [e]
  refine hfin.trans ?_
  by_cases e : a = c
  · by_cases e' : b = d
    · simp [e, e']
    · simp [e, e']
  · simp [e]
theorem ck_st (s : St) (e : Bool) (w : World) : (Instr.checkKey e 10000 74 (stV s)).run Try.prog w = .ok () w := by kernel_rfl
theorem zero_tr (w : World) : (zeroValue 76).run Try.prog w = .ok (trV (0, false) 0) w := by kernel_rfl

def entV (f : St × St × Nat) : Value × Value := (stV f.1, trV f.2.1 f.2.2)
def MapF (W : World) (B : Nat) (frm : Led) : Prop := ∃ es clock, W.heap[B]? = some (.map es clock) ∧ es.toList.map (fun e => (e.key, e.val)) = frm.map entV
theorem find_st (s : St) (w : World) : ∀ (frm : Led) (es : List MapEntry) (i : Nat), es.map (fun e => (e.key, e.val)) = frm.map entV →
    (Instr.findAsking 74 (stV s) es i).run Try.prog w = .ok (match frm.findIdx? (fun f => decide (s = f.1)) with | some j => some (i + j, ((frm[j]?).map (fun f => trV f.2.1 f.2.2)).getD undef) | none => none) w
  | [], [], i, _ => by simp [Instr.findAsking]
  | [], e :: es, i, h => by cases h
  | f :: frm, [], i, h => by cases h
  | f :: frm, e :: es, i, h => by
    simp only [List.map_cons, List.cons.injEq] at h
    have h1 : e.key = stV f.1 := congrArg Prod.fst h.1
    have h2 : e.val = trV f.2.1 f.2.2 := congrArg Prod.snd h.1
    simp only [Instr.findAsking, Sem.run_bind, h1, eq_st, Result.andThen_ok]
    by_cases e' : s = f.1
    · simp [e', h2, List.findIdx?_cons]
    · have ih := find_st s w frm es (i + 1) h.2
      simp only [e', decide_false, Bool.false_eq_true, if_false, ih, List.findIdx?_cons]
      cases frm.findIdx? (fun f => decide (s = f.1)) with
      | none => rfl
      | some j => simp; omega
theorem findNow_st (u : TypeDesc) (s : St) : ∀ (es : List MapEntry) (i : Nat), es ≠ [] → Instr.findNow u (stV s) es i = none
  | [], _, h => absurd rfl h
  | e :: es, i, _ => by
    have : Instr.sameNow u (stV s) e.key = none := by unfold stV; cases u <;> rfl
    simp [Instr.findNow, this]
theorem findKey_st (s : St) (w : World) (frm : Led) (es : List MapEntry) (h : es.map (fun e => (e.key, e.val)) = frm.map entV) :
    (Instr.findKey 74 (stV s) es).run Try.prog w = .ok (match frm.findIdx? (fun f => decide (s = f.1)) with | some j => some (j, ((frm[j]?).map (fun f => trV f.2.1 f.2.2)).getD undef) | none => none) w := by
  unfold Instr.findKey
  simp only [Sem.run_bind, run_underlying Try.underlying74, Result.andThen_ok]
  by_cases he : es = []
  · subst he
    have hf : frm = [] := by cases frm with
      | nil => rfl
      | cons => cases h
    subst hf
    simp [Instr.findNow]
  · rw [findNow_st _ _ _ _ he]
    have := find_st s w frm es 0 h
    simp only [Nat.zero_add] at this
    exact this
theorem findIdx_find {α : Type} (p : α → Bool) : ∀ l : List α, (match l.findIdx? p with | some j => l[j]? | none => none) = l.find? p
  | [] => rfl
  | x :: l => by
    have ih := findIdx_find p l
    simp only [List.findIdx?_cons, List.find?_cons]
    by_cases h : p x = true
    · simp [h]
    · simp only [h, Bool.false_eq_true, if_false]
      rw [← ih]
      cases l.findIdx? p <;> rfl
theorem look_st (c : Bool) (s : St) (w : World) (B : Nat) (frm : Led) (h : MapF w B frm) :
    (Instr.lookup 77 (.map (some B)) (stV s) c).run Try.prog w = .ok (let r := match ledAt frm s with | some p => (trV p.1 p.2, true) | none => (trV (0, false) 0, false); if c then .tuple #[r.1, .bool r.2] else r.1) w := by
  obtain ⟨es, clock, hb, hes⟩ := h
  unfold Instr.lookup
  have hf := findKey_st s w frm es.toList hes
  simp only [Sem.run_bind, run_underlying Try.underlying77, Result.andThen_ok, getObj, Sem.run, hb, ck_st, hf, Sem.run_pure]
  have hfi := findIdx_find (fun f : St × St × Nat => decide (s = f.1)) frm
  unfold ledAt
  rw [← hfi]
  cases hj : frm.findIdx? (fun f => decide (s = f.1)) with
  | none => simp [Sem.run_bind, zero_tr, Result.andThen_ok]; cases c <;> rfl
  | some j =>
    have hlt : j < frm.length := by
      have := List.findIdx?_eq_some_iff_findIdx_eq.1 hj
      exact this.1
    simp [List.getElem?_eq_getElem hlt]
theorem store_st (s t : St) (p : Nat) (w : World) (B : Nat) (frm : Led) (h : MapF w B frm) (hno : ledAt frm s = none) :
    ∃ w', (Instr.mapUpdate 77 (.map (some B)) (stV s) (trV t p)).run Try.prog w = .ok () w' ∧ MapF w' B (frm ++ [(s, t, p)]) ∧ w.grownBy w' (some B) := by
  obtain ⟨es, clock, hb, hes⟩ := h
  have hf := findKey_st s w frm es.toList hes
  have hfi := findIdx_find (fun f : St × St × Nat => decide (s = f.1)) frm
  have hn : frm.findIdx? (fun f => decide (s = f.1)) = none := by
    unfold ledAt at hno
    rw [← hfi] at hno
    cases hj : frm.findIdx? (fun f => decide (s = f.1)) with
    | none => rfl
    | some j =>
      have hlt : j < frm.length := (List.findIdx?_eq_some_iff_findIdx_eq.1 hj).1
      rw [hj] at hno
      simp [List.getElem?_eq_getElem hlt] at hno
  rw [hn] at hf
  have hlt := (Array.getElem?_eq_some_iff.1 hb).1
  refine ⟨w.putObj B (.map (es.push { key := stV s, val := trV t p, born := clock }) (clock + 1)), ?_, ⟨_, _, World.putObj_heap_same hlt, by simp [hes, entV]⟩, grownBy_putObj' w B _⟩
  unfold Instr.mapUpdate
  simp only [Sem.run_bind, run_underlying Try.underlying77, Result.andThen_ok, getObj, setObj, Sem.run, hb, ck_st, hf, Sem.run_pure]
  rfl
theorem MapF.kept {W W' : World} {B : Nat} {frm : Led} {row : Option Nat} (h : MapF W B frm) (hg : W.grownBy W' row) (hne : some B ≠ row) : MapF W' B frm := by
  obtain ⟨es, clock, hb, hes⟩ := h
  exact ⟨es, clock, (hg.block B (Array.getElem?_eq_some_iff.1 hb).1 hne).trans hb, hes⟩
theorem MapF.lt {W : World} {B : Nat} {frm : Led} (h : MapF W B frm) : B < W.heap.size := by
  obtain ⟨es, clock, hb, hes⟩ := h
  exact (Array.getElem?_eq_some_iff.1 hb).1

section
variable {F : Fence} {N : Nat} {w : World} {ops : Array Oper} {rest : List Oper} {o : Oper} {a : Act} {Q : Exit → Act → World → Prop}
theorem look_run {c : Bool} {s : St} {B : Nat} {frm : Led} (hM : MapF w B frm) (v : Value) (hv : (let r := match ledAt frm s with | some p => (trV p.1 p.2, true) | none => (trV (0, false) 0, false); if c then Value.tuple #[r.1, .bool r.2] else r.1) = v) :
    (Instr.lookup 77 (.map (some B)) (stV s) c).run Try.prog w = .ok v w := by rw [← hv]; exact look_st c s w B frm hM
theorem wpListIn_look (hg : o.guard = none) (m x : Operand) (c : Bool) (hop : o.op = Op.lookup 77 m x c) (B : Nat) (frm : Led) (s : St) (v : Value) (hm : a.eval m = .map (some B)) (hx : a.eval x = stV s) (hM : MapF w B frm)
    (hv : (let r := match ledAt frm s with | some p => (trV p.1 p.2, true) | none => (trV (0, false) 0, false); if c then Value.tuple #[r.1, .bool r.2] else r.1) = v)
    (hK : wpListIn F N Try.prog ops Q rest (a.put o.dst v) w) : wpListIn F N Try.prog ops Q (o :: rest) a w := by
  refine wpListIn_plain hg fun K hK' => ?_
  unfold Oper.wpIn
  refine ⟨?_, ?_⟩
  · simp [Oper.about, hop]
  · rw [Oper.semAt_eq _ _ _ (by rw [hop]; intro c hc'; cases hc')]
    simp [execOp, hop, hm, hx, look_run hM v hv, Result.andThen]
    exact hK' _ _ hK
theorem wpListIn_store (hg : o.guard = none) (m x y : Operand) (hop : o.op = Op.mapUpdate 77 m x y) (B : Nat) (frm : Led) (s t : St) (p : Nat) (hm : a.eval m = .map (some B)) (hx : a.eval x = stV s) (hy : a.eval y = trV t p) (hM : MapF w B frm) (hno : ledAt frm s = none)
    (hK : ∀ w', MapF w' B (frm ++ [(s, t, p)]) → w.grownBy w' (some B) → wpListIn F N Try.prog ops Q rest (a.put o.dst undef) w') : wpListIn F N Try.prog ops Q (o :: rest) a w := by
  refine wpListIn_plain hg fun K hK' => ?_
  obtain ⟨w', hr, h1, h2⟩ := store_st s t p w B frm hM hno
  unfold Oper.wpIn
  refine ⟨?_, ?_⟩
  · simp [Oper.about, hop]
  · rw [Oper.semAt_eq _ _ _ (by rw [hop]; intro c hc'; cases hc')]
    simp [execOp, hop, hm, hx, hy, hr, Result.andThen]
    exact hK' _ _ (hK w' h1 h2)
theorem wpListIn_insert (hg : o.guard = none) (m x y : Operand) (hop : o.op = Op.insert 77 m x y) (B : Nat) (frm : Led) (s t : St) (p : Nat) (hm : a.eval m = .map (some B)) (hx : a.eval x = stV s) (hy : a.eval y = trV t p) (hM : MapF w B frm) (hno : ledAt frm s = none)
    (hK : ∀ w', MapF w' B (frm ++ [(s, t, p)]) → w.grownBy w' (some B) → wpListIn F N Try.prog ops Q rest (a.put o.dst undef) w') : wpListIn F N Try.prog ops Q (o :: rest) a w := by
  refine wpListIn_plain hg fun K hK' => ?_
  obtain ⟨w', hr, h1, h2⟩ := store_st s t p w B frm hM hno
  unfold Oper.wpIn
  refine ⟨?_, ?_⟩
  · simp [Oper.about, hop]
  · rw [Oper.semAt_eq _ _ _ (by rw [hop]; intro c hc'; cases hc')]
    simp [execOp, hop, hm, hx, hy, hr, Result.andThen]
    exact hK' _ _ (hK w' h1 h2)
end
theorem MapF.made (w : World) : MapF (w.alloc (.map #[] 0)) w.heap.size [] := ⟨#[], 0, World.alloc_heap_new w _, rfl⟩
theorem tail_run (g o cap n : Nat) (hn : n + 1 ≤ cap) (hm : cap ≤ maxLen) (W : World) :
    (Instr.slice 78 (.slice (some ⟨g, o, none⟩) (n + 1) cap) (some (.int .i64 1)) none none).run Try.prog W = .ok (.slice (some (if cap = 1 then ⟨g, o, none⟩ else ⟨g, o + 2, none⟩)) n (cap - 1)) W := by
  have h1 := Try.underlying78
  by_cases hc : cap = 1
  · subst hc; obtain rfl : n = 0 := by omega
    simp [go_sem]
  · simp [go_sem, hc]
    omega
end Go.Proofs.Ytfbobojpocnfeaa
