/- threeOne: walk. -/
import Derived.Laws.EntriesVeiled
import Derived.Sort.CutIn
import Derived.Test.YtbioondlmgolkaaG513
set_option linter.unusedVariables false
set_option linter.unusedSimpArgs false
namespace Go.Proofs.Ytbioondlmgolkaa
open Go.RowKit Go.Shelf
attribute [local go_sem] Oper.semAt_some
/-- the law of a loop over an iterator of pairs -/
theorem rf_two {α : Type} {u1 u2 : α → Value} {P : Program} {n : Nat} {g : Operand} {t1 t2 d1 d2 : Nat} {i1 i2 : Nat} {ty1 ty2 : TypeId} {p1 p2 : String} {aft1 aft2 : Array Edge} {body : Code} {Q : Exit → Act → World → Prop} {a : Act} {w : World}
    (h1 : 1 ≤ n) {gf : Nat} {lb : Array Value} (hg : a.eval g = .func (.func gf) #[] lb) (eg : ∀ args w, (callFunc gf args).run P w = .ok (.enter gf args) w)
    {Kp : World → World → Prop} {S Sp : List α → Prop} {N : Nat} (hseq : SeqStopsK Fence.wide (n - 1) P gf lb (fun x : α => #[u1 x, u2 x]) Kp S Sp N w)
    (hKt : ∀ {A B C : World}, Kp A B → Kp B C → Kp A C) (hKb : ∀ (W : World) (l : Nat) (o o' : Obj), w.heap.size ≤ l → W.heap[l]? = some o → o.isCells = false → o.isWalk = false → Kp W (W.putObj l o')) (hKr : ∀ W, Kp W W)
    (ht1 : t1 < a.tmps.size) (ht2 : t2 < a.tmps.size) (ht12 : t1 ≠ t2) (htd : t2 ≠ d1) (I : List α → World → Prop) (Ix : Code → List α → World → Prop) (hI : OwnFrom w.heap.size I) (hIx : ∀ c, OwnFrom w.heap.size (Ix c)) (h0 : I [] w)
    (hbody : ∀ (l : Nat) (pre : List α) (x : α) (W : World), I pre W → pre.length < N → body.wpIn (Fence.wide.inRound l) (n - 1 - 1) P (ownPostG w.heap.size Kp I Ix (pre ++ [x]) W) { tmps := (((a.tmps.setIfInBounds t1 (u1 x)).setIfInBounds t2 (u2 x)).setIfInBounds d1 (u1 x)).setIfInBounds d2 (u2 x), defers := [] } W)
    (hdone : ∀ (D : Nat) (xs : List α) (W : World), w.heap.size ≤ D → S xs → I xs W → W.heap[D]? = some (.deferred (some [])) → Q .normal { a with defers := { target := .collected D, args := #[] } :: a.defers } W)
    (hstop : ∀ (D : Nat) (c : Code) (pre : List α) (W : World), w.heap.size ≤ D → Sp pre → Ix c pre W → W.heap[D]? = some (.deferred (some [])) → c.wpIn Fence.wide n P Q { a with defers := { target := .collected D, args := #[] } :: a.defers } W) :
    (Code.rangeFunc g #[t1, t2] ((Code.region i1 #[{ dst := some d1, op := Op.assign (Operand.tmp t1), type := ty1, pos := p1, after := aft1, guard := none }] false).seq (Code.region i2 #[{ dst := some d2, op := Op.assign (Operand.tmp t2), type := ty2, pos := p2, after := aft2, guard := none }] false)) body).wpIn Fence.wide n P Q a w := by
  refine wpIn_rangeFunc_ownG_of_H rfl h1 hg trivial eg hseq (fun h k => hKt h k) hKb (Below.refl _ _) (fun _ => rfl) I Ix hI hIx h0 (fun x => { tmps := (((a.tmps.setIfInBounds t1 (u1 x)).setIfInBounds t2 (u2 x)).setIfInBounds d1 (u1 x)).setIfInBounds d2 (u2 x), defers := [] }) ?_ hbody hdone hstop hKr
  intro l x W K hK
  have e : (Array.zip #[t1, t2] #[u1 x, u2 x]).foldl (fun t (p, v) => t.setIfInBounds p v) a.tmps = (a.tmps.setIfInBounds t1 (u1 x)).setIfInBounds t2 (u2 x) := by simp
  rw [e]
  have hv1 : ((a.tmps.setIfInBounds t1 (u1 x)).setIfInBounds t2 (u2 x)).getD t1 undef = u1 x := by
    rw [Array.getD_eq_getD_getElem?, Array.getElem?_setIfInBounds_ne ht12.symm, Array.getElem?_setIfInBounds_self_of_lt ht1]; rfl
  have hv2 : (((a.tmps.setIfInBounds t1 (u1 x)).setIfInBounds t2 (u2 x)).setIfInBounds d1 (u1 x)).getD t2 undef = u2 x := by
    rw [Array.getD_eq_getD_getElem?, Array.getElem?_setIfInBounds_ne htd.symm, Array.getElem?_setIfInBounds_self_of_lt (by simpa using ht2)]; rfl
  gi_wp2
  exact hK
end Go.Proofs.Ytbioondlmgolkaa
