/- Maps whose keys are pairs: what lies in them, in the order of its coming. -/
import Derived.Test.YtocnhikohfkcaaaG311
import Derived.Test.YtocnhikohfkcaaaG308
import Derived.Maps.OwnSet
set_option linter.unusedVariables false
set_option linter.unusedSimpArgs false
namespace Go.Proofs.Ytocnhikohfkcaaa
open Go.RowKit Go.Shelf

def ekv (e : Nat × Nat) : Value := .agg #[.int .i64 (e.1 : Int), .int .i64 (e.2 : Int)]
def bvB (b : Bool) : Value := .bool b
theorem eq_pair (s t : Nat × Nat) (w : World) : (Op.equal 77 (ekv s) (ekv t)).run Try.prog w = .ok (decide (s = t)) w := by
  obtain ⟨a, b⟩ := s
  obtain ⟨c, d⟩ := t
  have h : Op.equal 77 (ekv (a, b)) (ekv (c, d)) = Op.equalIn (9999 + 1) 77 (ekv (a, b)) (ekv (c, d)) := rfl
  rw [h]
  unfold ekv
  rw [run_equalIn_agg _ _ _ _ _ (by kernel_rfl) (by kernel_rfl)]
  rw [show (Try.prog.fieldsOf 77).toList = [{ name := "a", type := 3, offset := 0, embedded := false, tag := "", pkgPath := "forcola/heat", byteOffset := 0 }, { name := "b", type := 3, offset := 1, embedded := false, tag := "", pkgPath := "forcola/heat", byteOffset := 8 }] from by kernel_rfl]
  have e3 : Try.prog.underlying 3 = some (.int .i64) := by kernel_rfl
  have p3 : ∀ (x y : Value) w, (Go.part 3 #[x, y] 0).run Try.prog w = .ok x w := fun _ _ _ => by kernel_rfl
  have p4 : ∀ (x y : Value) w, (Go.part 3 #[x, y] 1).run Try.prog w = .ok y w := fun _ _ _ => by kernel_rfl
  have hac : ∀ a c : Nat, (((a : Nat) : Int) == (c : Int)) = decide (a = c) := fun a c => by
    by_cases e : a = c
    · subst e; simp
    · rw [decide_eq_false e, beq_eq_false_iff_ne]; omega
  have q3 : ∀ (a c : Nat) w, (Op.equalIn 9999 3 (.int .i64 (a : Int)) (.int .i64 (c : Int))).run Try.prog w = .ok (decide (a = c)) w := fun a c w => by rw [← hac]; exact run_equalIn_int w 9998 3 _ _ _ _ e3
  simp only [Op.eqFields, Sem.run_bind, Sem.run_ite]
  rw [if_pos (by decide)]
  rw [p3, Result.andThen_ok, p3, Result.andThen_ok, q3, Result.andThen_ok]
  by_cases e : a = c
  · rw [if_neg (by simp [e]), if_pos (by decide), p4, Result.andThen_ok, p4, Result.andThen_ok, q3, Result.andThen_ok]
    by_cases e' : b = d
    · simp [e, e']
    · simp [e, e']
  · rw [if_pos (by simp [e])]; simp [e]
theorem pairKind : MapKind Try.prog 71 77 4 ekv bvB false where
  ut := Try.underlying71
  find := find_agg Try.underlying77 (fun a => ⟨_, rfl⟩) eq_pair
  ck := fun _ _ _ => by kernel_rfl
  zero := fun _ => by kernel_rfl
  bits := fun a => by simp [Instr.sameBits, ekv]
section
variable {P : Program} {T K E : TypeId} {α β : Type} [DecidableEq α] {kv : α → Value} {vv : β → Value} {z : β}
theorem MapLS.g {W : World} {M : Nat} {l : List (α × β)} (h : MapLS kv vv W M l) : MapG kv vv W M (asFun l) := ⟨l, h, fun _ => rfl⟩
theorem MapLS.len (hk : MapKind P T K E kv vv z) {W : World} {M : Nat} {l : List (α × β)} (h : MapLS kv vv W M l) (ty : TypeId) : (Builtin.len_ #[T] ty #[.map (some M)]).run P W = .ok (.int .i64 (l.length : Int)) W := by
  obtain ⟨⟨es, clock, hb, h1, _⟩, _⟩ := h
  have hlen : es.size = l.length := by have := congrArg List.length h1; simpa using this
  rw [← hlen]
  simp [Builtin.len_, run_underlying hk.ut, MapKept.run_getObj_map hb, goInt, Result.andThen]
theorem MapLS.look (hk : MapKind P T K E kv vv z) {W : World} {M : Nat} {l : List (α × β)} (h : MapLS kv vv W M l) (a : α) : (Instr.lookup T (.map (some M)) (kv a) false).run P W = .ok (vv ((asFun l a).getD z)) W := look_g hk false a W M _ h.g
theorem MapLS.push (hk : MapKind P T K E kv vv z) {w : World} {M : Nat} {l : List (α × β)} (h : MapLS kv vv w M l) (a : α) (b : β) (hn : a ∉ l.map (·.1)) :
    ∃ w', (Instr.mapUpdate T (.map (some M)) (kv a) (vv b)).run P w = .ok () w' ∧ MapLS kv vv w' M (l ++ [(a, b)]) ∧ w.grownBy w' (some M) := by
  obtain ⟨⟨es, clock, hb, h1, h2, h5, h6⟩, h3⟩ := h
  have hf := hk.find a _ es.toList w h1
  have hlt := (Array.getElem?_eq_some_iff.1 hb).1
  have hj : (l.map (·.1)).findIdx? (fun k => decide (a = k)) = none := List.findIdx?_eq_none_iff.2 fun x hx => by
    have : a ≠ x := fun e => hn (by rw [e]; exact hx)
    simp [this]
  rw [hj] at hf
  refine ⟨w.putObj M (.map (es.push { key := kv a, val := vv b, born := clock }) (clock + 1)), ?_, ⟨⟨_, _, World.putObj_heap_same hlt, by simp [h1], by simp [h2], fun x hx => ?_, ?_⟩, ?_⟩, grownBy_putObj' w M _⟩
  · unfold Instr.mapUpdate
    simp only [Sem.run_bind, run_underlying hk.ut, Result.andThen_ok, getObj, setObj, Sem.run, hb, hk.ck, hf, Sem.run_pure, Option.map_none]
    try rfl
  · rw [Array.toList_push, List.mem_append, List.mem_singleton] at hx
    rcases hx with hx | rfl
    · exact Nat.lt_succ_of_lt (h5 x hx)
    · exact Nat.lt_succ_self _
  · rw [Array.toList_push, List.map_append, List.nodup_append]
    refine ⟨h6, by simp, fun x hx y hy => ?_⟩
    simp at hy
    subst hy
    obtain ⟨e, he, rfl⟩ := List.mem_map.1 hx
    have := h5 e he
    omega
  · rw [List.map_append, List.nodup_append]
    refine ⟨h3, by simp, fun x hx y hy => ?_⟩
    simp at hy
    subst hy
    intro e; subst e
    exact hn hx
theorem wpList_push (hk : MapKind P T K E kv vv z) {w : World} {ops : Array Oper} {rest : List Oper} {o : Oper} {act : Act} {Q : Exit → Act → World → Prop} (hgd : o.guard = none) (m x y : Operand) (ho : o.op = Op.mapUpdate T m x y) (M : Nat) (l : List (α × β)) (a : α) (b : β)
    (hm : act.eval m = .map (some M)) (hx : act.eval x = kv a) (hy : act.eval y = vv b) (hM : MapLS kv vv w M l) (hn : a ∉ l.map (·.1)) (hK : ∀ w', MapLS kv vv w' M (l ++ [(a, b)]) → w.grownBy w' (some M) → wpList P ops Q rest (act.put o.dst undef) w') : wpList P ops Q (o :: rest) act w := by
  refine wpList_plain hgd fun K hK' => ?_
  obtain ⟨w', hr, h1, h2⟩ := hM.push hk a b hn
  unfold Oper.wp
  simp [execOp, ho, hm, hx, hy, hr, Result.andThen, Oper.upon]
  exact hK' _ _ (hK w' h1 h2)
end
/-- a set of keys -/
def setL {α : Type} (l : List α) : List (α × Bool) := l.map fun a => (a, true)
theorem setL_keys {α : Type} (l : List α) : (setL l).map (·.1) = l := by unfold setL; rw [List.map_map]; exact List.map_id' l
theorem asFun_setL {α : Type} [DecidableEq α] (l : List α) (a : α) : (asFun (setL l) a).getD false = decide (a ∈ l) := by
  unfold asFun setL
  induction l with
  | nil => simp
  | cons b l ih =>
    rw [List.map_cons, List.find?_cons]
    by_cases e : a = b
    · subst e; simp
    · have : decide (a = b) = false := by simp [e]
      simp only [this]
      rw [ih]
      simp [e]
end Go.Proofs.Ytocnhikohfkcaaa
