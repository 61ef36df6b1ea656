/- The program's iterator over the sets within a set: its contract; and the order of these sets. What a stretch of a walk leaves as it was: all blocks but some. And the law of a loop over the sets within a set whose body writes a map. -/
import Derived.RangeFuncNested
import Derived.RangeFuncBound
import Derived.RangeFuncCalls
import Derived.RangeFuncLeaves
import Derived.Shelf.Abstract
import Derived.Shelf.RegionOpen
import Derived.OwnWalkIn
import Derived.TacticsInMore
import Derived.LoopNIn
import Derived.LoopIn
import Derived.Test.YtocnhikohfkcaaaW1
import Derived.Test.YtocnhikohfkcaaaG302
set_option linter.unusedVariables false
set_option linter.unusedSimpArgs false
namespace Go.Proofs.Ytocnhikohfkcaaa
open Go.RowKit Go.Shelf
attribute [local go_sem] Oper.semAt_some
theorem cell_al {W : World} {a : Addr} {v : Value} (o : Obj) (h : W.cell? a = some v) : (W.alloc o).cell? a = some v := cell_kept h (World.grownBy_alloc W o none) (fun r e => by cases e)
theorem boxed_at {W : World} {B : Nat} {t : TypeId} {v : Value} (h : B = W.heap.size) : Boxed (W.alloc (.cells #[v] t)) B t v := by rw [h]; exact Boxed.new W t v
abbrev S20 := Fin 1048576
/-- what a round must keep for an iterator that reads one box of its own -/
def KeepsBox (B : Nat) (W W' : World) : Prop := ∀ v, W.cell? ⟨B, 0, none⟩ = some v → W'.cell? ⟨B, 0, none⟩ = some v
theorem keepsBox_t {Bs : Nat} {A B C : World} (h : KeepsBox Bs A B) (k : KeepsBox Bs B C) : KeepsBox Bs A C := fun v hv => k v (h v hv)
theorem KeepsBox.refl (B : Nat) (W : World) : KeepsBox B W W := fun _ h => h
theorem keepsBox_b {w : World} {Bs : Nat} (W : World) (l : Nat) (o o' : Obj) (_ : w.heap.size ≤ l) (h : W.heap[l]? = some o) (hc : o.isCells = false) (_ : o.isWalk = false) : KeepsBox Bs W (W.putObj l o') := fun v hv => by
  exact cell_kept hv (grownBy_putObj' W l o') (fun r e => by cases e; exact ⟨_, h, hc⟩)

theorem below_dr {B : Nat} {a w : World} (h : Below B a w) (n : Nat) : Below B a (w.drewN n) := ⟨h.os, h.tape, h.output, h.size, h.block⟩
end Go.Proofs.Ytocnhikohfkcaaa
namespace Go.Proofs.Ytocnhikohfkcaaa
open Go.RowKit
attribute [local go_sem] Oper.semAt_some
structure Ag (ex : Nat → Prop) (W W' : World) : Prop where
  os : W'.os = W.os
  tape : W'.tape = W.tape
  output : W'.output = W.output
  size : W.heap.size ≤ W'.heap.size
  block : ∀ k, k < W.heap.size → ¬ ex k → W'.heap[k]? = W.heap[k]?
theorem Ag.refl (ex : Nat → Prop) (W : World) : Ag ex W W := ⟨rfl, rfl, rfl, Nat.le_refl _, fun _ _ _ => rfl⟩
theorem Ag.trans {ex : Nat → Prop} {A B C : World} (h : Ag ex A B) (k : Ag ex B C) : Ag ex A C :=
  ⟨k.os.trans h.os, k.tape.trans h.tape, k.output.trans h.output, Nat.le_trans h.size k.size, fun i hi hn => (k.block i (Nat.lt_of_lt_of_le hi h.size) hn).trans (h.block i hi hn)⟩
theorem Ag.mono {ex ex' : Nat → Prop} {A B : World} (h : Ag ex A B) (he : ∀ k, ex k → ex' k) : Ag ex' A B := ⟨h.os, h.tape, h.output, h.size, fun k hk hn => h.block k hk (fun e => hn (he k e))⟩
theorem Ag.of_grown {ex : Nat → Prop} {A B : World} {row : Option Nat} (h : A.grownBy B row) (he : ∀ k, row = some k → ex k) : Ag ex A B :=
  ⟨h.os, h.tape, h.output, h.size, fun k hk hn => h.block k hk (fun e => hn (he k e.symm))⟩
theorem Ag.alloc {ex : Nat → Prop} {A B : World} (h : Ag ex A B) (o : Obj) : Ag ex A (B.alloc o) := h.trans (Ag.of_grown (World.grownBy_alloc B o none) (fun _ e => by cases e))
theorem Ag.drewN {ex : Nat → Prop} {A B : World} (h : Ag ex A B) (n : Nat) : Ag ex A (B.drewN n) := ⟨h.os, h.tape, h.output, h.size, h.block⟩
theorem Ag.set {ex : Nat → Prop} {A B : World} (h : Ag ex A B) (a : Addr) (v : Value) (he : A.heap.size ≤ a.block ∨ ex a.block) : Ag ex A (B.setCell a v) := by
  refine ⟨h.os, h.tape, h.output, by simpa using h.size, fun k hk hn => ?_⟩
  rw [← h.block k hk hn]
  show (B.heap.modify a.block _)[k]? = _
  rw [Array.getElem?_modify]
  have : a.block ≠ k := fun e => by
    rcases he with he | he
    · omega
    · exact hn (e ▸ he)
  simp [this]
theorem Ag.grown {ex : Nat → Prop} {A B C : World} {row : Option Nat} (h : Ag ex A B) (hg : B.grownBy C row) (he : ∀ k, row = some k → A.heap.size ≤ k ∨ ex k) : Ag ex A C :=
  ⟨hg.os.trans h.os, hg.tape.trans h.tape, hg.output.trans h.output, Nat.le_trans h.size hg.size, fun k hk hn => (hg.block k (Nat.lt_of_lt_of_le hk h.size) (fun e => by
    rcases he k e.symm with he | he
    · omega
    · exact hn he)).trans (h.block k hk hn)⟩
theorem Ag.below {ex : Nat → Prop} {n : Nat} {w A B : World} (h : Ag ex A B) (hb : Below n w A) (hn : n ≤ A.heap.size) (he : ∀ k, k < n → ¬ ex k) : Below n w B :=
  ⟨h.os.trans hb.os, h.tape.trans hb.tape, h.output.trans hb.output, Nat.le_trans hb.size h.size, fun k hk => (h.block k (by omega) (he k hk)).trans (hb.block k hk)⟩
theorem Ag.boxed {ex : Nat → Prop} {A B : World} (h : Ag ex A B) {b : Nat} {t : TypeId} {v : Value} (hb : Boxed A b t v) (he : ¬ ex b) : Boxed B b t v := (h.block b hb.lt he).trans hb
theorem Ag.boxN {ex : Nat → Prop} {A B : World} (h : Ag ex A B) {b : Nat} {t : TypeId} {vs : Array Value} (hb : BoxN A b t vs) (he : ¬ ex b) : BoxN B b t vs := (h.block b hb.lt he).trans hb
theorem Ag.obj {ex : Nat → Prop} {A B : World} (h : Ag ex A B) {b : Nat} {o : Obj} (hb : A.heap[b]? = some o) (he : ¬ ex b) : B.heap[b]? = some o := (h.block b (Array.getElem?_eq_some_iff.1 hb).1 he).trans hb
theorem Ag.qrow {ex : Nat → Prop} {A B : World} (h : Ag ex A B) {base : Nat} {e : TypeId} {size : Nat} {v : Value} {n : Nat} {xs : List Value} (hq : QRow A base e size v n xs) (he : ∀ k, v.ownBlock = some k → ¬ ex k) : QRow B base e size v n xs := by
  refine ⟨hq.1, hq.2.imp id ?_⟩
  rintro ⟨g, o, cap, cur, rfl, e2, e3, e4⟩
  exact ⟨g, o, cap, cur, rfl, e2, h.obj e3 (he g rfl), e4⟩
/-- a row and a box of another type lie apart -/
theorem QRow.ne_box {W : World} {base : Nat} {e : TypeId} {size : Nat} {v : Value} {n : Nat} {xs : List Value} (hq : QRow W base e size v n xs) {b : Nat} {t : TypeId} {u : Value} (hb : Boxed W b t u) (hte : t ≠ e) : v.ownBlock ≠ some b := fun hv => by
  rcases hq.2 with ⟨rfl, _⟩ | ⟨g, o, cap, cur, rfl, _, e3, _⟩
  · cases hv
  · cases hv
    rw [show W.heap[g]? = _ from hb] at e3
    cases e3; exact hte rfl
theorem KeepsFrom.of_ag {ex : Nat → Prop} {B : Nat} {W W' : World} (h : Ag ex W W') (he : ∀ k o, B ≤ k → W.heap[k]? = some o → o.isCells = false → ¬ ex k) : KeepsFrom B W W' :=
  ⟨h.size, fun k o hB hk hc => h.obj hk (he k o hB hk hc)⟩
theorem KeepsBox.of_ag {ex : Nat → Prop} {b : Nat} {W W' : World} (h : Ag ex W W') (he : ¬ ex b) : KeepsBox b W W' := fun v hv => by
  obtain ⟨o, ho, hc⟩ := cells_of_cell hv
  have := h.obj (b := b) ho he
  exact (World.cell?_of_block (this.trans ho.symm)).trans hv

/-- THE LAW OF A LOOP OVER THE SETS WITHIN A SET whose body may write what lay before the loop. -/
theorem rf_setsG {P : Program} {n : Nat} {g : Operand} {t d : Nat} {id : Nat} {ty : TypeId} {pos : String} {aft : Array Edge} {body : Code} {Q : Exit → Act → World → Prop} {a : Act} {w : World}
    (h1 : 1 ≤ n) {gf : Nat} {lb : Array Value} (hg : a.eval g = .func (.func gf) #[] lb) (eg : ∀ args w, (callFunc gf args).run P w = .ok (.enter gf args) w)
    {Kp : World → World → Prop} {S Sp : List S20 → Prop} {N : Nat} (hseq : SeqStopsK Fence.wide (n - 1) P gf lb (fun x : S20 => #[Value.int .i64 (x.1 : Int)]) Kp S Sp N w)
    (hKt : ∀ {A B C : World}, Kp A B → Kp B C → Kp A C) (hKb : ∀ (W : World) (l : Nat) (o o' : Obj), w.heap.size ≤ l → W.heap[l]? = some o → o.isCells = false → o.isWalk = false → Kp W (W.putObj l o')) (hKr : ∀ W, Kp W W)
    (ht : t < a.tmps.size) (I : List S20 → World → Prop) (Ix : Code → List S20 → World → Prop) (hI : OwnFrom w.heap.size I) (hIx : ∀ c, OwnFrom w.heap.size (Ix c)) (h0 : I [] w)
    (hbody : ∀ (l : Nat) (pre : List S20) (x : S20) (W : World), I pre W → pre.length < N → body.wpIn (Fence.wide.inRound l) (n - 1 - 1) P (ownPostG w.heap.size Kp I Ix (pre ++ [x]) W) { tmps := (a.tmps.setIfInBounds t (.int .i64 (x.1 : Int))).setIfInBounds d (.int .i64 (x.1 : Int)), defers := [] } W)
    (hdone : ∀ (D : Nat) (xs : List S20) (W : World), w.heap.size ≤ D → S xs → I xs W → W.heap[D]? = some (.deferred (some [])) → Q .normal { a with defers := { target := .collected D, args := #[] } :: a.defers } W)
    (hstop : ∀ (D : Nat) (c : Code) (pre : List S20) (W : World), w.heap.size ≤ D → Sp pre → Ix c pre W → W.heap[D]? = some (.deferred (some [])) → c.wpIn Fence.wide n P Q { a with defers := { target := .collected D, args := #[] } :: a.defers } W) :
    (Code.rangeFunc g #[t] (Code.region id #[{ dst := some d, op := Op.assign (Operand.tmp t), type := ty, pos := pos, after := aft, guard := none }] false) body).wpIn Fence.wide n P Q a w := by
  refine wpIn_rangeFunc_ownG_of_H rfl h1 hg trivial eg hseq (fun h k => hKt h k) hKb (Below.refl _ _) (fun _ => rfl) I Ix hI hIx h0 (fun x => { tmps := (a.tmps.setIfInBounds t (.int .i64 (x.1 : Int))).setIfInBounds d (.int .i64 (x.1 : Int)), defers := [] }) ?_ hbody hdone hstop hKr
  intro l x W K hK
  have e : (Array.zip #[t] #[Value.int .i64 (x.1 : Int)]).foldl (fun t (p, v) => t.setIfInBounds p v) a.tmps = a.tmps.setIfInBounds t (.int .i64 (x.1 : Int)) := by simp
  rw [e]
  have hv : (a.tmps.setIfInBounds t (.int .i64 (x.1 : Int))).getD t undef = .int .i64 (x.1 : Int) := by simp [Array.getD, ht]
  gi_wp2
  exact hK
end Go.Proofs.Ytocnhikohfkcaaa
