/- The program's plan: what holds while it searches. -/
import Derived.Test.YtfbobojpocnfeaaMp
import Derived.Test.YtfbobojpocnfeaaCov
import Derived.Test.YtfbobojpocnfeaaAg
import Derived.Sort.CutIn
import Derived.StillTailTactics
namespace Go.Proofs.Ytfbobojpocnfeaa
open Go.RowKit Go.Shelf
attribute [local go_sem] Oper.semAt_some

def marks (Ds : List Nat) : List Deferred := Ds.map fun D => { target := .collected D, args := #[] }
/-- the cells of a row of states -/
def stCells (l : List St) : List Value := l.flatMap fun s => [.int .i64 (s.1 : Int), .bool s.2]
/-- what does not turn while the search goes on: n: the heap's size at the call; M: behind the map -/
structure PFix (w W : World) (B M seats : Nat) (g : List Nat) (Ds : List Nat) : Prop where
  hM : w.heap.size + 1 + 1 + 1 + 1 + 1 + 1 < M
  c : Boxed W w.heap.size 56 (.pointer (some ⟨B, 0, none⟩))
  seats : Boxed W (w.heap.size + 1) 3 (.int .i64 (seats : Int))
  start : BoxN W (w.heap.size + 1 + 1 + 1 + 1) 74 #[.int .i64 ((full g.length : Nat) : Int), .bool false]
  goal : BoxN W (w.heap.size + 1 + 1 + 1 + 1 + 1) 74 #[.int .i64 0, .bool true]
  led : Boxed W M 77 (.map (some (w.heap.size + 1 + 1 + 1 + 1 + 1 + 1)))
  below : Below w.heap.size w W
  marks : Ds.Nodup ∧ ∀ D ∈ Ds, M + 1 + 1 < D ∧ W.heap[D]? = some (.deferred (some []))
/-- the queue: in its box, the states that are still to be looked at -/
def PQ (W : World) (M : Nat) (l : List St) : Prop := ∃ v, Boxed W (M + 1 + 1) 78 v ∧ QRow W (M + 1) 74 2 v l.length (stCells l)

theorem leave_marks {F : Fence} {n : Nat} {P : Program} {fn : Func} {tmps : Array Value} {R : Ending → World → Prop} : ∀ (Ds : List Nat) (W : World), Ds.Nodup → (∀ D ∈ Ds, W.heap[D]? = some (.deferred (some []))) →
    (∀ W' : World, W'.os = W.os → W'.tape = W.tape → W'.output = W.output → W'.heap.size = W.heap.size → (∀ k, k ∉ Ds → W'.heap[k]? = W.heap[k]?) → LeavesInM F n P fn tmps R [] .returning W') → LeavesInM F n P fn tmps R (marks Ds) .returning W
  | [], W, _, _, h => h W rfl rfl rfl rfl (fun _ _ => rfl)
  | D :: Ds, W, hn, hd, h => by
    have hD := hd D List.mem_cons_self
    rw [List.nodup_cons] at hn
    refine ⟨by simp, .inl ⟨D, _, rfl, run_takeDeferred hD, ?_⟩⟩
    refine leave_marks Ds _ hn.2 (fun D' hD' => (World.putObj_heap_other (fun e => hn.1 (by rw [← e]; exact hD'))).trans (hd D' (List.mem_cons_of_mem _ hD'))) fun W' h1 h2 h3 h4 h5 => h W' h1 h2 h3 (by rw [h4]; simp) fun k hk => ?_
    rw [List.mem_cons, not_or] at hk
    exact (h5 k hk.2).trans (World.putObj_heap_other hk.1)
/-- what the search hands back -/
def PlanR (g : List Nat) (seats base : Nat) (v : Value) (ok : Bool) (W : World) : Prop :=
  (ok = false ∧ v = .slice none 0 0 ∧ ∀ ps, ¬ isPath g seats (start g) ps goal) ∨
  (ok = true ∧ ∃ ps : List Nat, QRow W base 3 1 v ps.length (ps.map fun (p : Nat) => Value.int .i64 (p : Int)) ∧ isPath g seats (start g) ps goal ∧ ∀ qs, isPath g seats (start g) qs goal → ps.length ≤ qs.length)
theorem QRow.off {W W' : World} {Ds : List Nat} {base : Nat} {e : TypeId} {size : Nat} {v : Value} {n : Nat} {xs : List Value} (h : QRow W base e size v n xs) (hd : ∀ D ∈ Ds, W.heap[D]? = some (.deferred (some []))) (ho : ∀ k, k ∉ Ds → W'.heap[k]? = W.heap[k]?) : QRow W' base e size v n xs := by
  refine ⟨h.1, h.2.imp id ?_⟩
  rintro ⟨g, o, cap, cur, rfl, e2, e3, e4⟩
  exact ⟨g, o, cap, cur, rfl, e2, (ho g (fun hg => by rw [hd g hg] at e3; cases e3)).trans e3, e4⟩
theorem plan_leave {w W : World} {Ds : List Nat} {M seats : Nat} {g : List Nat} {v : Value} {ok : Bool} {t : Array Value} (hm : Ds.Nodup ∧ ∀ D ∈ Ds, M + 1 + 1 < D ∧ W.heap[D]? = some (.deferred (some []))) (hM : w.heap.size < M) (hB : Below w.heap.size w W)
    (hres : Boxed W (w.heap.size + 1 + 1) 25 v) (hok : Boxed W (w.heap.size + 1 + 1 + 1) 4 (.bool ok)) (hR : PlanR g seats w.heap.size v ok W) (ht : t.getD 4 undef = .pointer (some ⟨w.heap.size + 1 + 1, 0, none⟩)) (ht' : t.getD 5 undef = .pointer (some ⟨w.heap.size + 1 + 1 + 1, 0, none⟩)) :
    LeavesInM Fence.wide 5 Try.prog Try.f36 t (fun e w' => ∃ v ok, e = .returned (.tuple #[v, .bool ok]) ∧ Below w.heap.size w w' ∧ PlanR g seats w.heap.size v ok w') (marks Ds) .returning W := by
  refine leave_marks Ds W hm.1 (fun D hD => (hm.2 D hD).2) fun W' h1 h2 h3 h4 h5 => ?_
  have hno : ∀ {k : Nat} {o : Obj}, W.heap[k]? = some o → o.isCells = true → k ∉ Ds := fun {k o} hk hc hD => by rw [(hm.2 k hD).2] at hk; cases hk; cases hc
  have hres' : Boxed W' (w.heap.size + 1 + 1) 25 v := (h5 _ (hno hres rfl)).trans hres
  have hok' : Boxed W' (w.heap.size + 1 + 1 + 1) 4 (.bool ok) := (h5 _ (hno hok rfl)).trans hok
  have c1 := hres'.cell
  have c2 := hok'.cell
  refine ⟨.tuple #[v, .bool ok], ?_, v, ok, rfl, ⟨h1.trans hB.os, h2.trans hB.tape, h3.trans hB.output, by rw [h4]; exact hB.size, fun k hk => (h5 k (fun hD => by have := (hm.2 k hD).1; omega)).trans (hB.block k hk)⟩, ?_⟩
  · simp only [Array.getD_eq_getD_getElem?] at ht ht'
    simp [results, Try.f36, go_sem, ht, ht', c1, c2]
  · rcases hR with hR | ⟨h6, ps, h7, h8⟩
    · exact .inl hR
    · exact .inr ⟨h6, ps, h7.off (fun D hD => (hm.2 D hD).2) h5, h8⟩

def planFr2 (w : World) (B M seats sB : Nat) (j : Nat → Value) : Array Value :=
  #[.pointer (some ⟨B, 0, none⟩), .int .i64 (seats : Int), .pointer (some ⟨w.heap.size, 0, none⟩), .pointer (some ⟨w.heap.size + 1, 0, none⟩), .pointer (some ⟨w.heap.size + 1 + 1, 0, none⟩), .pointer (some ⟨w.heap.size + 1 + 1 + 1, 0, none⟩), .pointer (some ⟨w.heap.size + 1 + 1 + 1 + 1, 0, none⟩), .pointer (some ⟨w.heap.size + 1 + 1 + 1 + 1 + 1, 0, none⟩), .pointer (some ⟨M, 0, none⟩), .pointer (some ⟨M + 1 + 1, 0, none⟩), .pointer (some ⟨sB, 0, none⟩), .pointer (some ⟨sB + 1, 0, none⟩), j 12, j 13, j 14, j 15, j 16, j 17, j 18, j 19, j 20, j 21, j 22, j 23, j 24, j 25, j 26, j 27, j 28, j 29, j 30, j 31, j 32, j 33, j 34, j 35, j 36, j 37, j 38, j 39, j 40, j 41, j 42, j 43, j 44, j 45, j 46, j 47, j 48, j 49, j 50, j 51, j 52, j 53, j 54, j 55, j 56, j 57, j 58, j 59, j 60, j 61, j 62, j 63, j 64, j 65, j 66, j 67, j 68, j 69, j 70, j 71, j 72, j 73, j 74, j 75, j 76, j 77, j 78, j 79, j 80, j 81, j 82, j 83, j 84, j 85, j 86, j 87, j 88, j 89, j 90, j 91, j 92, j 93, j 94, j 95, j 96, j 97, j 98, j 99, j 100, j 101, j 102, j 103, j 104, j 105, j 106, j 107, j 108, j 109, j 110, j 111, j 112, j 113, j 114]
theorem planFr2_of {w : World} {B M seats sB : Nat} (t : Array Value) (h : t = planFr2 w B M seats sB fun n => t.getD n undef) : ∃ j, t = planFr2 w B M seats sB j := ⟨_, h⟩
/-- what holds while a state is looked at -/
structure PMid (w W : World) (B M seats : Nat) (g : List Nat) (Ds : List Nat) (frm : Led) (l : List St) (sB : Nat) (s : St) : Prop where
  fix : PFix w W B M seats g Ds
  res : Boxed W (w.heap.size + 1 + 1) 25 (.slice none 0 0)
  ok : Boxed W (w.heap.size + 1 + 1 + 1) 4 (.bool false)
  map : MapF W (w.heap.size + 1 + 1 + 1 + 1 + 1 + 1) frm
  que : ∃ v, Boxed W (M + 1 + 1) 78 v ∧ QRow W (M + 1) 74 2 v l.length (stCells l) ∧ v.ownBlock ≠ some sB
  sbox : BoxN W sB 74 #[.int .i64 (s.1 : Int), .bool s.2]
  bbox : Boxed W (sB + 1) 3 (.int .i64 ((bank g s : Nat) : Int))
  hs : M + 1 + 1 < sB
theorem PFix.ag {ex : Nat → Prop} {w W W' : World} {B M seats : Nat} {g : List Nat} {Ds : List Nat} (h : PFix w W B M seats g Ds) (hag : Ag ex W W') (he : ∀ k, ex k → M < k ∨ k = w.heap.size + 1 + 1 + 1 + 1 + 1 + 1 ∨ k = w.heap.size + 1 + 1 ∨ k = w.heap.size + 1 + 1 + 1) (hd : ∀ k, ex k → k ∉ Ds) : PFix w W' B M seats g Ds := by
  have hM := h.hM
  refine ⟨h.hM, hag.boxed h.c (fun e => ?_), hag.boxed h.seats (fun e => ?_), hag.boxN h.start (fun e => ?_), hag.boxN h.goal (fun e => ?_), hag.boxed h.led (fun e => ?_), hag.below h.below h.below.size (fun k hk e => ?_), h.marks.1, fun D hD => ⟨(h.marks.2 D hD).1, hag.obj (h.marks.2 D hD).2 (fun e => hd D e hD)⟩⟩
  all_goals (have := he _ e; omega)
theorem MapF.ag {ex : Nat → Prop} {W W' : World} {b : Nat} {frm : Led} (h : MapF W b frm) (hag : Ag ex W W') (he : ¬ ex b) : MapF W' b frm := by
  obtain ⟨es, clock, hb, hes⟩ := h
  exact ⟨es, clock, hag.obj hb he, hes⟩
def PR (w : World) (B M seats : Nat) (g : List Nat) (Ds : List Nat) (frm : Led) (l : List St) (sB : Nat) (s : St) (a : Act) (W : World) : Prop :=
  (∃ j, a.tmps = planFr2 w B M seats sB j) ∧ a.defers = marks Ds ∧ PMid w W B M seats g Ds frm l sB s
/-- what holds between two rounds over the sets that may be taken -/
def frmF (g : List Nat) (seats : Nat) (s : St) (frm : Led) (pre : List S20) : Led := pre.foldl (fun f x => stp g seats s f x.1) frm
def PPure (g : List Nat) (seats : Nat) (frm : Led) (ds : List Nat) (i : Nat) (s : St) (pre : List S20) : Prop :=
  ((∀ y ∈ pre, Within y.1 (bank g s)) → Mid g seats frm ds i s (pre.map (·.1)) (frmF g seats s frm pre)) ∧ (∀ f ∈ frmF g seats s frm pre, f.1 ≠ goal) ∧ (frmF g seats s frm pre).length ≤ frm.length + pre.length ∧ frm.length ≤ (frmF g seats s frm pre).length
def PIn (w : World) (B M seats : Nat) (g : List Nat) (Ds : List Nat) (frm : Led) (ds : List Nat) (i : Nat) (s : St) (sB Bs : Nat) (pre : List S20) (V : World) : Prop :=
  PMid w V B M seats g Ds (frmF g seats s frm pre) (((frmF g seats s frm pre).map (·.1)).drop (i + 1)) sB s ∧ PPure g seats frm ds i s pre ∧ Boxed V Bs 3 (.int .i64 ((bank g s : Nat) : Int))
/-- what holds when a round has found the goal -/
def PStop (w : World) (B M seats : Nat) (g : List Nat) (Ds : List Nat) (sB : Nat) (s : St) (c : Code) (pre : List S20) (V : World) : Prop :=
  c = .ret ∧ Below w.heap.size w V ∧ (Ds.Nodup ∧ ∀ D ∈ Ds, M + 1 + 1 < D ∧ V.heap[D]? = some (.deferred (some []))) ∧ ∃ v, Boxed V (w.heap.size + 1 + 1) 25 v ∧ Boxed V (w.heap.size + 1 + 1 + 1) 4 (.bool true) ∧ ((∀ y ∈ pre, Within y.1 (bank g s)) → PlanR g seats w.heap.size v true V)
theorem PMid.same {w V V' : World} {B M seats : Nat} {g : List Nat} {Ds : List Nat} {frm : Led} {l : List St} {sB : Nat} {s : St} (h : PMid w V B M seats g Ds frm l sB s) (hag : Ag (fun _ => False) V V') : PMid w V' B M seats g Ds frm l sB s := by
  obtain ⟨v, h1, h2, h3⟩ := h.que
  exact ⟨h.fix.ag hag (fun _ h => h.elim) (fun _ h => h.elim), hag.boxed h.res id, hag.boxed h.ok id, h.map.ag hag id, ⟨v, hag.boxed h1 id, hag.qrow h2 (fun _ _ h => h), h3⟩, hag.boxN h.sbox id, hag.boxed h.bbox id, h.hs⟩
theorem frmF_snoc (g : List Nat) (seats : Nat) (s : St) (frm : Led) (pre : List S20) (x : S20) : frmF g seats s frm (pre ++ [x]) = stp g seats s (frmF g seats s frm pre) x.1 := by simp [frmF]
theorem stp_length (g : List Nat) (seats : Nat) (s : St) (f : Led) (p : Nat) : f.length ≤ (stp g seats s f p).length ∧ (stp g seats s f p).length ≤ f.length + 1 := by
  unfold stp; split <;> simp
theorem PPure.step {g : List Nat} {seats : Nat} {frm : Led} {ds : List Nat} {i : Nat} {s : St} {pre : List S20} {x : S20} (h : PPure g seats frm ds i s pre) (hq : quietB g (ldiff (full g.length) (bank g s)) = true)
    (hng : next s x.1 ≠ goal ∨ stp g seats s (frmF g seats s frm pre) x.1 = frmF g seats s frm pre) : PPure g seats frm ds i s (pre ++ [x]) := by
  obtain ⟨h1, h2, h3, h4⟩ := h
  have hl := stp_length g seats s (frmF g seats s frm pre) x.1
  unfold PPure
  rw [frmF_snoc]
  refine ⟨fun hw => ?_, ?_, by simp; omega, by omega⟩
  · have := (h1 (fun y hy => hw y (List.mem_append.2 (.inl hy)))).step x.1 (hw x (by simp)) hq
    rw [List.map_append]; exact this
  · intro f hf
    rcases hng with hng | hng
    · unfold stp at hf
      split at hf
      · rcases List.mem_append.1 hf with hf | hf
        · exact h2 f hf
        · simp at hf; subst hf; exact hng
      · exact h2 f hf
    · rw [hng] at hf; exact h2 f hf
theorem PIn.skip {w V V' : World} {B M seats : Nat} {g : List Nat} {Ds : List Nat} {frm : Led} {ds : List Nat} {i : Nat} {s : St} {sB Bs : Nat} {pre : List S20} {x : S20} (h : PMid w V B M seats g Ds (frmF g seats s frm pre) (((frmF g seats s frm pre).map (·.1)).drop (i + 1)) sB s) (hp : PPure g seats frm ds i s pre)
    (hag : Ag (fun _ => False) V V') (hq : quietB g (ldiff (full g.length) (bank g s)) = true) (hb : Boxed V Bs 3 (.int .i64 ((bank g s : Nat) : Int))) (hs : stp g seats s (frmF g seats s frm pre) x.1 = frmF g seats s frm pre) : PIn w B M seats g Ds frm ds i s sB Bs (pre ++ [x]) V' := by
  refine ⟨?_, hp.step hq (.inr hs), hag.boxed hb id⟩
  rw [frmF_snoc, hs]
  exact h.same hag
theorem info74 : (Try.prog.info? 74).map (fun i => (i.zero, i.size, i.bytes)) = some (some (.agg #[.int .i64 0, .bool false]), 2, 16) := by kernel_rfl
theorem cells_new2 (W : World) (t : TypeId) (u v : Value) : ∀ (j : Nat) (x : Value), [u, v][j]? = some x → (W.alloc (.cells #[u, v] t)).cell? ((⟨W.heap.size, 0, none⟩ : Addr).add j) = some x := fun j x h => by
  rw [Addr.add_lit, Nat.zero_add, (BoxN.new (W := W) (t := t) (vs := #[u, v]) rfl).cell]
  simpa using h
theorem wpIn_cut0 {F : Fence} {rm : Nat} {P : Program} {s : Code} {K : Act → World → Prop} {Q' : Exit → Act → World → Prop} {a : Act} {w : World} (R : Act → World → Prop)
    (rest : ∀ a' w', R a' w' → K a' w') (first : s.wpIn F rm P (Exit.then R Q') a w) : s.wpIn F rm P (Exit.then K Q') a w := by
  refine wpIn_mono first ?_
  intro e a' w' hq
  cases e with
  | normal => exact rest _ _ hq
  | exit id => exact hq
  | goto l => exact hq
  | ret => exact hq
  | panic ch => exact hq
  | outgrown => exact hq
def planFr (w : World) (B M seats : Nat) (j : Nat → Value) : Array Value :=
  #[.pointer (some ⟨B, 0, none⟩), .int .i64 (seats : Int), .pointer (some ⟨w.heap.size, 0, none⟩), .pointer (some ⟨w.heap.size + 1, 0, none⟩), .pointer (some ⟨w.heap.size + 1 + 1, 0, none⟩), .pointer (some ⟨w.heap.size + 1 + 1 + 1, 0, none⟩), .pointer (some ⟨w.heap.size + 1 + 1 + 1 + 1, 0, none⟩), .pointer (some ⟨w.heap.size + 1 + 1 + 1 + 1 + 1, 0, none⟩), .pointer (some ⟨M, 0, none⟩), .pointer (some ⟨M + 1 + 1, 0, none⟩), j 10, j 11, j 12, j 13, j 14, j 15, j 16, j 17, j 18, j 19, j 20, j 21, j 22, j 23, j 24, j 25, j 26, j 27, j 28, j 29, j 30, j 31, j 32, j 33, j 34, j 35, j 36, j 37, j 38, j 39, j 40, j 41, j 42, j 43, j 44, j 45, j 46, j 47, j 48, j 49, j 50, j 51, j 52, j 53, j 54, j 55, j 56, j 57, j 58, j 59, j 60, j 61, j 62, j 63, j 64, j 65, j 66, j 67, j 68, j 69, j 70, j 71, j 72, j 73, j 74, j 75, j 76, j 77, j 78, j 79, j 80, j 81, j 82, j 83, j 84, j 85, j 86, j 87, j 88, j 89, j 90, j 91, j 92, j 93, j 94, j 95, j 96, j 97, j 98, j 99, j 100, j 101, j 102, j 103, j 104, j 105, j 106, j 107, j 108, j 109, j 110, j 111, j 112, j 113, j 114]
theorem planFr_of {w : World} {B M seats : Nat} (t : Array Value) (h : t = planFr w B M seats fun n => t.getD n undef) : ∃ j, t = planFr w B M seats j := ⟨_, h⟩
def PI (w : World) (B M seats : Nat) (g : List Nat) (k : Nat) (a : Act) (W : World) : Prop :=
  ∃ (Ds : List Nat) (frm : Led) (ds : List Nat) (i : Nat), (∃ j, a.tmps = planFr w B M seats j) ∧ a.defers = marks Ds ∧ PFix w W B M seats g Ds ∧ Boxed W (w.heap.size + 1 + 1) 25 (.slice none 0 0) ∧ Boxed W (w.heap.size + 1 + 1 + 1) 4 (.bool false) ∧ MapF W (w.heap.size + 1 + 1 + 1 + 1 + 1 + 1) frm ∧ PQ W M ((frm.map (·.1)).drop i) ∧ Inv g seats frm ds i ∧ k + i = 2 * 2 ^ g.length


theorem QRow.cells {W : World} {base : Nat} {e : TypeId} {size : Nat} {v : Value} {n : Nat} {xs : List Value} (h : QRow W base e size v n xs) : ∀ k, v.ownBlock = some k → ∃ cur, W.heap[k]? = some (.cells cur e (0, 0)) := by
  intro k hk
  rcases h.2 with ⟨rfl, _⟩ | ⟨g, o, cap, cur, rfl, _, e3, _⟩
  · cases hk
  · cases hk; exact ⟨cur, e3⟩
theorem stCells_append (l l' : List St) : stCells (l ++ l') = stCells l ++ stCells l' := by simp [stCells]
theorem frmF_length {g : List Nat} {seats : Nat} {frm : Led} {ds : List Nat} {i : Nat} {s : St} {pre : List S20} (h : PPure g seats frm ds i s pre) (hi : i < frm.length) : i + 1 ≤ ((frmF g seats s frm pre).map (·.1)).length := by have := h.2.2.2; simp; omega
/-- a state that has not been seen is added -/
theorem PIn.put {w V V' : World} {B M seats : Nat} {g : List Nat} {Ds : List Nat} {frm : Led} {ds : List Nat} {i : Nat} {s : St} {sB Bs : Nat} {pre : List S20} {x : S20} {qv v' : Value}
    (hfix : PFix w V B M seats g Ds) (hres : Boxed V (w.heap.size + 1 + 1) 25 (.slice none 0 0)) (hok : Boxed V (w.heap.size + 1 + 1 + 1) 4 (.bool false)) (hsb : BoxN V sB 74 #[.int .i64 (s.1 : Int), .bool s.2]) (hbb : Boxed V (sB + 1) 3 (.int .i64 ((bank g s : Nat) : Int))) (hs : M + 1 + 1 < sB)
    (hB : Boxed V Bs 3 (.int .i64 ((bank g s : Nat) : Int))) (hBs : M + 1 + 1 < Bs) {n : Nat} {xs : List Value} (hq2 : QRow V (M + 1) 74 2 qv n xs) (hq3 : qv.ownBlock ≠ some sB) (hp : PPure g seats frm ds i s pre) (hil : i < frm.length)
    (hq : quietB g (ldiff (full g.length) (bank g s)) = true) (hc : size x.1 ≤ seats ∧ quietB g (ldiff (bank g s) x.1) = true ∧ ledAt (frmF g seats s frm pre) (next s x.1) = none) (hng : next s x.1 ≠ goal)
    (hag : Ag (fun k => k = w.heap.size + 1 + 1 + 1 + 1 + 1 + 1 ∨ k = M + 1 + 1 ∨ qv.ownBlock = some k) V V') (hmap : MapF V' (w.heap.size + 1 + 1 + 1 + 1 + 1 + 1) (frmF g seats s frm pre ++ [(next s x.1, s, x.1)])) (hq' : Boxed V' (M + 1 + 1) 78 v')
    (hrow : QRow V' (M + 1) 74 2 v' ((((frmF g seats s frm pre).map (·.1)).drop (i + 1)).length + 1) (stCells (((frmF g seats s frm pre).map (·.1)).drop (i + 1)) ++ [.int .i64 ((next s x.1).1 : Int), .bool (next s x.1).2]))
    (hblk : ∀ k, v'.ownBlock = some k → qv.ownBlock = some k ∨ V.heap.size ≤ k) : PIn w B M seats g Ds frm ds i s sB Bs (pre ++ [x]) V' := by
  have hM := hfix.hM
  have hstp : stp g seats s (frmF g seats s frm pre) x.1 = frmF g seats s frm pre ++ [(next s x.1, s, x.1)] := by unfold stp; rw [if_pos hc]
  have hlen := frmF_length hp hil
  have hql : ∀ k, qv.ownBlock = some k → M + 1 ≤ k := fun k hk => (hq2.lt k hk).1
  have h3 : ∀ {k : Nat} {v : Value}, Boxed V k 3 v → qv.ownBlock ≠ some k := fun {k v} hk => hq2.ne_box hk (by decide)
  refine ⟨?_, hp.step hq (.inl hng), hag.boxed hB (fun e => by rcases e with e | e | e; omega; omega; exact h3 hB e)⟩
  rw [frmF_snoc, hstp]
  refine ⟨hfix.ag hag (fun k e => ?_) (fun k e hD => ?_), hag.boxed hres (fun e => ?_), hag.boxed hok (fun e => ?_), hmap, ⟨v', hq', ?_, fun e => ?_⟩, hag.boxN hsb (fun e => ?_), hag.boxed hbb (fun e => by rcases e with e | e | e; omega; omega; exact h3 hbb e), hs⟩
  · rcases e with e | e | e
    · exact .inr (.inl e)
    · exact .inl (by omega)
    · exact .inl (by have := hql k e; omega)
  · have hD' := hfix.marks.2 k hD
    rcases e with e | e | e
    · omega
    · omega
    · obtain ⟨cur, hcur⟩ := hq2.cells k e
      rw [hD'.2] at hcur; cases hcur
  · rcases e with e | e | e
    · omega
    · omega
    · have := hql _ e; omega
  · rcases e with e | e | e
    · omega
    · omega
    · have := hql _ e; omega
  · rw [List.map_append, List.drop_append_of_le_length hlen, stCells_append, List.length_append]
    exact hrow
  · rcases hblk sB e with e | e
    · exact hq3 e
    · have := hsb.lt; omega
  · rcases e with e | e | e
    · omega
    · omega
    · exact hq3 e
theorem PIn.own {w : World} {B M seats : Nat} {g : List Nat} {Ds : List Nat} {frm : Led} {ds : List Nat} {i : Nat} {s : St} {sB Bs base : Nat} (hb : M + 1 + 1 < base) (hD : ∀ D ∈ Ds, D < base) : OwnFrom base (PIn w B M seats g Ds frm ds i s sB Bs) := by
  rintro pre A C row ⟨⟨h1, h2, h3, h4, ⟨v, h5, h6, h7⟩, h8, h9, h10⟩, hp, hx⟩ hg hr
  have hM := h1.hM
  have hno : ∀ {k : Nat} {o : Obj}, A.heap[k]? = some o → o.isCells = true → ¬ row = some k := fun {k o} hk hc e => by
    obtain ⟨_, o', ho, hc'⟩ := hr k e
    rw [hk] at ho; cases ho; rw [hc] at hc'; cases hc'
  have hag : Ag (fun k => row = some k) A C := Ag.of_grown hg (fun k e => e)
  refine ⟨⟨h1.ag hag (fun k e => .inl (by have := (hr k e).1; omega)) (fun k e hk => by have := (hr k e).1; have := hD k hk; omega), hag.boxed h2 (hno h2 rfl), hag.boxed h3 (hno h3 rfl), h4.ag hag (fun e => by have := (hr _ e).1; omega), ⟨v, hag.boxed h5 (hno h5 rfl), hag.qrow h6 (fun k hk => ?_), h7⟩, hag.boxN h8 (hno h8 rfl), hag.boxed h9 (hno h9 rfl), h10⟩, hp, hag.boxed hx (hno hx rfl)⟩
  obtain ⟨cur, hcur⟩ := h6.cells k hk
  exact hno hcur rfl
theorem PStop.own {w : World} {B M seats : Nat} {g : List Nat} {Ds : List Nat} {s : St} {sB base : Nat} {c : Code} (hb : w.heap.size < base) (hD : ∀ D ∈ Ds, D < base) : OwnFrom base (PStop w B M seats g Ds sB s c) := by
  rintro pre A C row ⟨hc, h1, ⟨h2, h3⟩, v, h4, h5, h6⟩ hg hr
  have hno : ∀ {k : Nat} {o : Obj}, A.heap[k]? = some o → o.isCells = true → ¬ row = some k := fun {k o} hk hc e => by
    obtain ⟨_, o', ho, hc'⟩ := hr k e
    rw [hk] at ho; cases ho; rw [hc] at hc'; cases hc'
  have hag : Ag (fun k => row = some k) A C := Ag.of_grown hg (fun k e => e)
  refine ⟨hc, hag.below h1 h1.size (fun k hk e => by have := (hr k e).1; omega), ⟨h2, fun D hDs => ⟨(h3 D hDs).1, hag.obj (h3 D hDs).2 (fun e => by have := (hr D e).1; have := hD D hDs; omega)⟩⟩, v, hag.boxed h4 (hno h4 rfl), hag.boxed h5 (hno h5 rfl), fun hw => ?_⟩
  rcases h6 hw with h | ⟨e1, ps, h7, h8⟩
  · exact .inl h
  · refine .inr ⟨e1, ps, hag.qrow h7 (fun k hk => ?_), h8⟩
    obtain ⟨cur, hcur⟩ := h7.cells k hk
    exact hno hcur rfl
theorem subsLt_toS {set b : Nat} (h : Sm set) : ∀ y ∈ (subsLt set b).map toS, Within y.1 set := fun y hy => by
  obtain ⟨t, ht, rfl⟩ := List.mem_map.1 hy
  have h2 := (mem_subsLt.1 ht).2
  rw [toS_val (Nat.lt_of_le_of_lt h2.le h)]
  exact h2
end Go.Proofs.Ytfbobojpocnfeaa
