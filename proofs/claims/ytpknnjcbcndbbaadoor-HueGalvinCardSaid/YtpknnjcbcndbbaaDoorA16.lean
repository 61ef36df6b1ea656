/- A region that draws its order, by what each operation does: whatever the order, each operation yields its own value, and the world goes on from class to class. The program's sides: a walk. Ways in a graph with two sides, in plain text (Konig). The program's konig: a walk. The document's two sides, in plain text. -/
import Derived.Test.YtpknnjcbcndbbaaDoorQr
import Derived.Test.YtpknnjcbcndbbaaDoorA14
import Derived.Test.YtpknnjcbcndbbaaDoorA12
import Derived.Test.YtpknnjcbcndbbaaDoorA15
import Derived.Deep.RegionHeld3
set_option linter.unusedVariables false
set_option linter.unusedSimpArgs false
namespace Go.Proofs.YtpknnjcbcndbbaaDoor
variable {F : Fence} {n : Nat} {P : Program}

def simpleOp (o : Oper) : Bool := o.guard.isNone && (match o.op with | .defer _ => false | .call _ => false | _ => true)
def dstAt (l : List Oper) (i : Nat) : Option Tmp := (l[i]?).bind (·.dst)
/-- no two operations yield into one slot; all slots lie in the frame; what an operation waits for stands ahead of it -/
def deedsB (l : List Oper) (size : Nat) : Bool :=
  l.all simpleOp && ((List.range l.length).all fun i => ((dstAt l i).all fun s => decide (s < size)) && ((List.range l.length).all fun j => i == j || (dstAt l i).isNone || dstAt l i != dstAt l j)) &&
  ((List.range l.length).all fun i => ((l[i]?).map (fun o => o.after.all fun e => !Region.binds .any e || decide (e.on < i))).getD true)
/-- the frame where the operations listed have been carried out -/
structure Did (l : List Oper) (vals : Nat → Value) (a : Act) (ls : Array Bool) (b : Act) : Prop where
  defers : b.defers = a.defers
  size : b.tmps.size = a.tmps.size
  at' : ∀ i s, dstAt l i = some s → ls.getD i false = true → b.tmps.getD s undef = vals i
  off : ∀ s, (∀ i, dstAt l i = some s → ls.getD i false = false) → b.tmps.getD s undef = a.tmps.getD s undef
theorem getD_set_t (ls : Array Bool) (i j : Nat) (hi : i < ls.size) : (ls.setIfInBounds i true).getD j false = if i = j then true else ls.getD j false := by
  simp only [Array.getD_eq_getD_getElem?]
  by_cases e : i = j
  · subst e; rw [Array.getElem?_setIfInBounds_self_of_lt hi]; simp
  · rw [Array.getElem?_setIfInBounds_ne e]; simp [e]
theorem lt_of_getD {ls : Array Bool} {i : Nat} (h : ls.getD i true = false) : i < ls.size := by
  refine Nat.lt_of_not_le fun hc => ?_
  rw [Array.getD_eq_getD_getElem?, Array.getElem?_eq_none hc] at h
  cases h
theorem put_getD (b : Act) (d : Option Tmp) (v : Value) (s : Nat) : (b.put d v).tmps.getD s undef = if d = some s ∧ s < b.tmps.size then v else b.tmps.getD s undef := by
  cases d with
  | none => simp [Act.put]
  | some t =>
    simp only [Act.put, Array.getD_eq_getD_getElem?]
    by_cases e : t = s
    · subst e
      by_cases hs : t < b.tmps.size
      · rw [Array.getElem?_setIfInBounds_self_of_lt hs]; simp [hs]
      · rw [Array.getElem?_eq_none (by simpa using Nat.le_of_not_lt hs), Array.getElem?_eq_none (Nat.le_of_not_lt hs)]; simp [hs]
    · rw [Array.getElem?_setIfInBounds_ne e]; simp [e]
theorem put_size (b : Act) (d : Option Tmp) (v : Value) : (b.put d v).tmps.size = b.tmps.size := by cases d <;> simp [Act.put]
theorem put_defers (b : Act) (d : Option Tmp) (v : Value) : (b.put d v).defers = b.defers := by cases d <;> rfl
section
variable {l : List Oper} {vals : Nat → Value} {a : Act}
theorem deeds_parts {size : Nat} (h : deedsB l size = true) : l.all simpleOp = true ∧ (∀ i s, dstAt l i = some s → s < size) ∧ (∀ i j s, dstAt l i = some s → dstAt l j = some s → i = j) ∧ ∀ i o, l[i]? = some o → ∀ e ∈ o.after, Region.binds .any e = true → e.on < i := by
  unfold deedsB at h
  simp only [Bool.and_eq_true, List.all_eq_true, List.mem_range] at h
  obtain ⟨⟨h1, h2⟩, h3⟩ := h
  have lt : ∀ i s, dstAt l i = some s → i < l.length := fun i s hs => by
    refine Nat.lt_of_not_le fun hc => ?_
    unfold dstAt at hs; rw [List.getElem?_eq_none hc] at hs; cases hs
  refine ⟨List.all_eq_true.2 h1, fun i s hs => ?_, fun i j s hi hj => ?_, fun i o ho e he hb => ?_⟩
  · have := (h2 i (lt i s hs)).1
    rw [hs] at this; simpa using this
  · have := (h2 i (lt i s hi)).2 j (lt j s hj)
    rw [hi, hj] at this; simpa using this
  · have hi := (List.getElem?_eq_some_iff.1 ho).1
    have := h3 i hi
    rw [ho] at this
    simp only [Option.map_some, Option.getD_some] at this
    have := Array.all_eq_true'.1 this e he
    rw [hb] at this; simpa using this
theorem Did.put {ls : Array Bool} {b : Act} (h : Did l vals a ls b) {i : Nat} (hi : ls.getD i true = false) (hs : ∀ s, dstAt l i = some s → s < a.tmps.size) (inj : ∀ i j s, dstAt l i = some s → dstAt l j = some s → i = j) : Did l vals a (ls.setIfInBounds i true) (b.put (dstAt l i) (vals i)) where
  defers := (put_defers _ _ _).trans h.defers
  size := (put_size _ _ _).trans h.size
  at' := fun j s hj hl => by
    rw [getD_set_t _ _ _ (lt_of_getD hi)] at hl
    rw [put_getD]
    by_cases e : dstAt l i = some s
    · have := inj i j s e hj
      subst this
      rw [if_pos ⟨e, by rw [h.size]; exact hs s e⟩]
    · rw [if_neg fun hc => e hc.1]
      have hij : i ≠ j := fun hc => e (hc ▸ hj)
      rw [if_neg hij] at hl
      exact h.at' j s hj hl
  off := fun s hn => by
    rw [put_getD]
    have e : dstAt l i ≠ some s := fun e => by
      have := hn i e
      rw [getD_set_t _ _ _ (lt_of_getD hi), if_pos rfl] at this; cases this
    rw [if_neg fun hc => e hc.1]
    refine h.off s fun j hj => ?_
    have := hn j hj
    rw [getD_set_t _ _ _ (lt_of_getD hi)] at this
    split at this
    · cases this
    · exact this
theorem Did.zero : Did l vals a (Array.replicate l.length false) a where
  defers := rfl
  size := rfl
  at' := fun i s _ h => by
    rw [Array.getD_eq_getD_getElem?, Array.getElem?_replicate] at h
    split at h <;> cases h
  off := fun s _ => rfl
theorem Did.unique {ls ls' : Array Bool} {b b' : Act} (h : Did l vals a ls b) (h' : Did l vals a ls' b') (hl : ∀ i, i < l.length → ls.getD i false = true) (hl' : ∀ i, i < l.length → ls'.getD i false = true) : b = b' := by
  have lt : ∀ i s, dstAt l i = some s → i < l.length := fun i s hs => by
    refine Nat.lt_of_not_le fun hc => ?_
    unfold dstAt at hs; rw [List.getElem?_eq_none hc] at hs; cases hs
  have hg : ∀ s, b.tmps.getD s undef = b'.tmps.getD s undef := fun s => by
    by_cases hs : ∃ i, dstAt l i = some s
    · obtain ⟨i, hi⟩ := hs
      rw [h.at' i s hi (hl i (lt i s hi)), h'.at' i s hi (hl' i (lt i s hi))]
    · rw [h.off s fun i hi => absurd ⟨i, hi⟩ hs, h'.off s fun i hi => absurd ⟨i, hi⟩ hs]
  have ht : b.tmps = b'.tmps := by
    apply Array.ext
    · rw [h.size, h'.size]
    · intro i h1 h2
      have := hg i
      rw [Array.getD_eq_getD_getElem?, Array.getD_eq_getD_getElem?, Array.getElem?_eq_getElem h1, Array.getElem?_eq_getElem h2] at this
      exact this
  have hd : b.defers = b'.defers := h.defers.trans h'.defers.symm
  cases b; cases b'
  cases ht; cases hd; rfl
/-- all values in their slots -/
def putAll (l : List Oper) (vals : Nat → Value) (a : Act) : Act := (List.range l.length).foldl (fun b i => b.put (dstAt l i) (vals i)) a
theorem putAll_did (hs : ∀ i s, dstAt l i = some s → s < a.tmps.size) (inj : ∀ i j s, dstAt l i = some s → dstAt l j = some s → i = j) : ∃ ls, Did l vals a ls (putAll l vals a) ∧ ∀ i, i < l.length → ls.getD i false = true := by
  have key : ∀ k, k ≤ l.length → ∃ ls : Array Bool, ls.size = l.length ∧ (∀ i, i < l.length → (ls.getD i false = true ↔ i < k)) ∧ Did l vals a ls ((List.range k).foldl (fun b i => b.put (dstAt l i) (vals i)) a) := by
    intro k
    induction k with
    | zero => exact fun _ => ⟨_, by simp, fun i hi => by simp [Array.getD_eq_getD_getElem?, hi], Did.zero⟩
    | succ k ih =>
      intro hk
      obtain ⟨ls, h1, h2, h3⟩ := ih (by omega)
      have hk0 : ls.getD k true = false := by
        have := (h2 k (by omega)).mp
        rw [Array.getD_eq_getD_getElem?, Array.getElem?_eq_getElem (by omega)] at this ⊢
        simp only [Option.getD_some] at this ⊢
        cases hb : ls[k] with
        | false => rfl
        | true => have := this hb; omega
      refine ⟨ls.setIfInBounds k true, by simpa using h1, fun i hi => ?_, ?_⟩
      · rw [getD_set_t _ _ _ (by omega)]
        by_cases e : k = i
        · subst e; simp
        · rw [if_neg e, h2 i hi]; omega
      · rw [List.range_succ, List.foldl_append]
        exact h3.put hk0 (fun s hs' => hs k s hs') inj
  obtain ⟨ls, h1, h2, h3⟩ := key l.length (Nat.le_refl _)
  exact ⟨ls, h3, fun i hi => (h2 i hi).2 hi⟩
theorem did_any {Q : Exit → Act → World → Prop} (C : Array Bool → World → Prop) (hB : deedsB l a.tmps.size = true)
    (hstep : ∀ i o ls b W, l[i]? = some o → ls.getD i true = false → (∀ e ∈ o.after, Region.binds .any e = true → ls.getD e.on false = true) → Did l vals a ls b → C ls W →
      ∃ W', ((execOp b.eval o).run P W = .ok (.value (vals i)) W' ∨ ((execOp b.eval o).run P W = .ok .skip W' ∧ o.dst = none)) ∧ C (ls.setIfInBounds i true) W')
    (hfin : ∀ ls W, (∀ i, i < l.length → ls.getD i false = true) → C ls W → Q .normal (putAll l vals a) W) :
    ∀ (fuel : Nat) (ls : Array Bool) (b : Act) (W : World), ls.size = l.length → ((List.range l.length).filter (fun i => !ls.getD i true)).length ≤ fuel → Did l vals a ls b → C ls W → wpAnyIn F n P .any l.toArray Q fuel ls b W := by
  obtain ⟨hsim, hrg, inj, hdn⟩ := deeds_parts hB
  have all_of_none : ∀ ls : Array Bool, ls.size = l.length → (∀ i, i < l.length → ls.getD i true ≠ false) → ∀ i, i < l.length → ls.getD i false = true := fun ls hs h i hi => by
    have := h i hi
    rw [Array.getD_eq_getD_getElem?, Array.getElem?_eq_getElem (by omega)] at this ⊢
    simpa using this
  have fin : ∀ (ls : Array Bool) (b : Act) (W : World), ls.size = l.length → (∀ i, i < l.length → ls.getD i true ≠ false) → Did l vals a ls b → C ls W → Q .normal b W := fun ls b W hs h hD hC => by
    obtain ⟨ls', h1, h2⟩ := putAll_did (a := a) (vals := vals) hrg inj
    rw [hD.unique h1 (all_of_none ls hs h) h2]
    exact hfin ls W (all_of_none ls hs h) hC
  have ready0 : ∀ (ls : Array Bool), Region.ready .any l.toArray ls = [] → ∀ i, i < l.length → ls.getD i true ≠ false := fun ls hr i => by
    induction i using Nat.strongRecOn with
    | ind i ih =>
      intro hi h0
      have : i ∈ Region.ready .any l.toArray ls := mem_ready.2 ⟨h0, l[i], by simp [hi], fun e he hb => by
        have hlt := hdn i l[i] (List.getElem?_eq_getElem hi) e he hb
        have := ih e.on hlt (by omega)
        rw [Array.getD_eq_getD_getElem?] at this ⊢
        cases hc : ls[e.on]? with
        | none => exact absurd (lt_of_getD h0) (by have := Array.getElem?_eq_none_iff.1 hc; omega)
        | some v => rw [hc] at this; simpa using this⟩
      rw [hr] at this; cases this
  intro fuel
  induction fuel with
  | zero =>
    intro ls b W hs hc hD hC
    have hn : ∀ i, i < l.length → ls.getD i true ≠ false := fun i hi h => by
      have : i ∈ (List.range l.length).filter (fun i => !ls.getD i true) := List.mem_filter.2 ⟨List.mem_range.2 hi, by rw [h]; rfl⟩
      have := List.length_pos_of_mem this
      omega
    refine ⟨?_, fin ls b W hs hn hD hC⟩
    refine List.eq_nil_iff_forall_not_mem.2 fun i hi => ?_
    have h1 := mem_ready.1 hi
    exact hn i (by have := lt_of_getD h1.1; omega) h1.1
  | succ fuel ih =>
    intro ls b W hs hc hD hC
    refine ⟨fun h0 => fin ls b W hs (ready0 ls h0) hD hC, fun i hi => ?_⟩
    obtain ⟨h1, o, ho, h2⟩ := mem_ready.1 hi
    have hil : i < l.length := by have := lt_of_getD h1; omega
    have ho' : l[i]? = some o := by simpa using ho
    obtain ⟨W', hrun, hC'⟩ := hstep i o ls b W ho' h1 h2 hD hC
    have hso : simpleOp o = true := List.all_eq_true.1 hsim o (List.mem_of_getElem? ho')
    unfold simpleOp at hso
    rw [Bool.and_eq_true] at hso
    have hdst : dstAt l i = o.dst := by unfold dstAt; rw [ho']; rfl
    have hD' := hD.put (i := i) h1 (fun s hs' => hrg i s hs') inj
    have hcnt : ((List.range l.length).filter (fun j => !(ls.setIfInBounds i true).getD j true)).length ≤ fuel := by
      have hmem : i ∈ (List.range l.length).filter (fun i => !ls.getD i true) := List.mem_filter.2 ⟨List.mem_range.2 hil, by rw [h1]; rfl⟩
      have he : (List.range l.length).filter (fun j => !(ls.setIfInBounds i true).getD j true) = ((List.range l.length).filter (fun i => !ls.getD i true)).erase i := by
        rw [List.Nodup.erase_eq_filter (List.nodup_range.filter _), List.filter_filter]
        refine List.filter_congr fun j _ => ?_
        simp only [Array.getD_eq_getD_getElem?]
        by_cases e : i = j
        · subst e; rw [Array.getElem?_setIfInBounds_self_of_lt (by omega)]; simp
        · have e' : j ≠ i := fun h => e h.symm
          rw [Array.getElem?_setIfInBounds_ne e]; simp [e']
      rw [he, List.length_erase_of_mem hmem]
      omega
    unfold wpOpIn
    simp only [ho]
    have hw : Region.wanted o (yielded l.toArray b.tmps) = true := by
      unfold Region.wanted
      cases hg : o.guard with
      | none => rfl
      | some g => rw [hg] at hso; cases hso.1
    rw [if_pos hw]
    unfold Oper.wpIn
    refine ⟨fun f hf => ?_, ?_⟩
    · unfold Oper.about at hf
      split at hf
      · rename_i c hcall
        rw [hcall] at hso; cases hso.2
      · cases hf
    · rw [Oper.semAt_eq _ _ _ (fun c e => by rw [e] at hso; cases hso.2)]
      have hK := ih (ls.setIfInBounds i true) (b.put (dstAt l i) (vals i)) W' (by simpa using hs) hcnt hD' hC'
      rw [hdst] at hK
      rcases hrun with hr | ⟨hr, hd⟩
      · rw [hr]; exact hK
      · rw [hr]
        rw [hd] at hK
        show wpAnyIn F n P .any l.toArray Q fuel (ls.setIfInBounds i true) (b.put o.dst undef) W'
        rw [hd]; exact hK
end
/-- THE LAW: each operation yields its own value and leads from class to class. -/
theorem wpIn_region_deeds {id : Nat} {Q : Exit → Act → World → Prop} {a : Act} {w : World} {l : List Oper} (vals : Nat → Value) (C : Array Bool → World → Prop) (hm : P.follows .mixedOrders = true) (hB : deedsB l a.tmps.size = true)
    (h0 : C (Array.replicate l.length false) { w with drawn := w.drawn + 1 })
    (hstep : ∀ i o ls b W, l[i]? = some o → ls.getD i true = false → (∀ e ∈ o.after, Region.binds .any e = true → ls.getD e.on false = true) → Did l vals a ls b → C ls W →
      ∃ W', ((execOp b.eval o).run P W = .ok (.value (vals i)) W' ∨ ((execOp b.eval o).run P W = .ok .skip W' ∧ o.dst = none)) ∧ C (ls.setIfInBounds i true) W')
    (hfin : ∀ ls W, (∀ i, i < l.length → ls.getD i false = true) → C ls W → Q .normal (putAll l vals a) W) : (Code.region id l.toArray true).wpIn F n P Q a w := by
  refine wpIn_region_any hm ?_
  have := did_any (F := F) (n := n) (Q := Q) C hB hstep hfin l.length (Array.replicate l.length false) a { w with drawn := w.drawn + 1 } (by simp) (Nat.le_trans (List.length_filter_le _ _) (by simp)) Did.zero h0
  simpa using this
/-- the same, along the list -/
def putL (vals : Nat → Value) : Nat → List Oper → Act → Act
  | _, [], a => a
  | k, o :: r, a => putL vals (k + 1) r (a.put o.dst (vals k))
theorem putL_eq (vals : Nat → Value) : ∀ (l pre : List Oper) (b : Act), putL vals pre.length l b = (List.range' pre.length l.length).foldl (fun b i => b.put (dstAt (pre ++ l) i) (vals i)) b
  | [], pre, b => rfl
  | o :: r, pre, b => by
    have h := putL_eq vals r (pre ++ [o]) (b.put o.dst (vals pre.length))
    rw [List.length_append, List.length_singleton, List.append_assoc] at h
    rw [putL, h, List.length_cons, List.range'_succ, List.foldl_cons]
    have : dstAt (pre ++ o :: r) pre.length = o.dst := by unfold dstAt; simp
    rw [this]; rfl
theorem putAll_eq (l : List Oper) (vals : Nat → Value) (a : Act) : putL vals 0 l a = putAll l vals a := by
  have := putL_eq vals l [] a
  simp only [List.length_nil, List.nil_append] at this
  rw [this]; unfold putAll; rw [List.range_eq_range']
/-- what an operation reads has been yielded by one that it waits for, or stood in the frame -/
def opndB (l : List Oper) : Bool :=
  (List.range l.length).all fun i => ((l[i]?).map fun o => (!(match o.op with | .select _ _ => true | _ => false)) && o.op.operands.all fun x => match x with
    | .tmp s => (List.range l.length).all fun j => dstAt l j != some s || o.after.any fun e => Region.binds .any e && e.on == j
    | _ => true).getD true
/-- THE LAW, the operands read in the last frame -/
theorem wpIn_region_deeds2 {id : Nat} {Q : Exit → Act → World → Prop} {a : Act} {w : World} {l : List Oper} (vals : Nat → Value) (C : Array Bool → World → Prop) (hm : P.follows .mixedOrders = true) (hB : deedsB l a.tmps.size = true) (hO : opndB l = true)
    (A : Act) (hA' : putL vals 0 l a = A)
    (h0 : C (Array.replicate l.length false) { w with drawn := w.drawn + 1 })
    (hstep : ∀ i o ls W, l[i]? = some o → ls.getD i true = false → (∀ e ∈ o.after, Region.binds .any e = true → ls.getD e.on false = true) → (∀ j, i ≠ j → (ls.setIfInBounds i true).getD j false = ls.getD j false) → (ls.setIfInBounds i true).getD i false = true → ls.getD i false = false → C ls W →
      ∃ W', ((execOp A.eval o).run P W = .ok (.value (vals i)) W' ∨ ((execOp A.eval o).run P W = .ok .skip W' ∧ o.dst = none)) ∧ C (ls.setIfInBounds i true) W')
    (hfin : ∀ ls W, (∀ i, i < l.length → ls.getD i false = true) → C ls W → Q .normal A W) : (Code.region id l.toArray true).wpIn F n P Q a w := by
  have hA := (putAll_eq l vals a).symm.trans hA'
  obtain ⟨hsim, hrg, inj, hdn⟩ := deeds_parts hB
  refine wpIn_region_deeds vals C hm hB h0 (fun i o ls b W hi hu hd hD hC => ?_) (fun ls W h1 h2 => hA ▸ hfin ls W h1 h2)
  have hlt := (List.getElem?_eq_some_iff.1 hi).1
  obtain ⟨lsA, hDA, hallA⟩ := putAll_did (a := a) (vals := vals) hrg inj
  rw [hA] at hDA
  have lt : ∀ i s, dstAt l i = some s → i < l.length := fun i s hs => by
    refine Nat.lt_of_not_le fun hc => ?_
    unfold dstAt at hs; rw [List.getElem?_eq_none hc] at hs; cases hs
  have h1 := List.all_eq_true.1 hO i (List.mem_range.2 hlt)
  rw [hi] at h1
  simp only [Option.map_some, Option.getD_some, Bool.and_eq_true] at h1
  have he : execOp b.eval o = execOp A.eval o := by
    refine execOp_congr o (fun cs c e => by rw [e] at h1; cases h1.1) fun x hx => ?_
    have h2 := Array.all_eq_true'.1 h1.2 x hx
    cases x with
    | tmp s =>
      show b.tmps.getD s undef = A.tmps.getD s undef
      by_cases hs : ∃ j, dstAt l j = some s
      · obtain ⟨j, hj⟩ := hs
        have h3 := List.all_eq_true.1 h2 j (List.mem_range.2 (lt j s hj))
        rw [hj] at h3
        simp only [bne_self_eq_false, Bool.false_or] at h3
        obtain ⟨e, he1, he2⟩ := Array.any_eq_true'.1 h3
        rw [Bool.and_eq_true] at he2
        have := hd e he1 he2.1
        rw [show e.on = j by simpa using he2.2] at this
        rw [hD.at' j s hj this, hDA.at' j s hj (hallA j (lt j s hj))]
      · rw [hD.off s fun j hj => absurd ⟨j, hj⟩ hs, hDA.off s fun j hj => absurd ⟨j, hj⟩ hs]
    | _ => rfl
  rw [he]
  refine hstep i o ls W hi hu hd (fun j hij => by rw [getD_set_t _ _ _ (lt_of_getD hu), if_neg hij]) (by rw [getD_set_t _ _ _ (lt_of_getD hu), if_pos rfl]) ?_ hC
  have := lt_of_getD hu
  rw [Array.getD_eq_getD_getElem?, Array.getElem?_eq_getElem this] at hu ⊢
  exact hu
end Go.Proofs.YtpknnjcbcndbbaaDoor
namespace Go.Proofs.YtpknnjcbcndbbaaDoor
open Go.RowKit Go.Shelf
attribute [local go_sem] Oper.semAt_some

/-- what it returns: one of two sides, or an odd ring -/
def SidesP (W : World) (base : Nat) (g : List Nat) (n s : Nat) (v : Value) : Prop :=
  (v = .slice none 0 0 ∧ TwoCol g s ∧ (∀ x, x < n → Rooted g s x) ∧ ∀ x, s.testBit x = true → x < n) ∨
  (s = 0 ∧ ∃ l : List Nat, OddR g l ∧ (∀ x ∈ l, x < n) ∧ QRow W base 3 1 v l.length (iv l))
set_option maxRecDepth 100000 in
set_option maxHeartbeats 20000000 in
theorem sides_in (G n : Nat) (ea : Option Addr) (cap elen : Nat) (g : List Nat) (w : World) (hT : Tab w) (hg : GraphAt w G n ea cap elen g) (hsm : ∀ i : Nat, Sm (g[i]?.getD 0)) (U : Und g n) (hn : n ≤ 16) :
    CallsIn Fence.wide 6 Tryd.prog 63 #[.pointer (some ⟨G, 0, none⟩)] w fun e w' => (∃ (s : Nat) (v : Value), e = .returned (.tuple #[.int .i64 (s : Int), v]) ∧ SidesP w' w.heap.size g n s v) ∧ Below w.heap.size w w' := by
  obtain ⟨i0, hi, hz0, hz1, hz2⟩ := info_parts info3
  obtain ⟨vs0, hv1, hv2, HMK⟩ := make_25 n (by omega)
  have HSM := Lib.hid hsm
  have HG := Lib.hid hg
  have HT := Lib.hid hT
  have hGw := hg.lt
  have hgn := hg.n
  clear hsm hT hg
  refine callsIn_of_wp_marks Tryd.func63 rfl trivial ?_ rfl
  simp only [Tryd.ntmps63, List.size_toArray, List.length_cons, List.length_nil, Nat.reduceAdd, Nat.reduceSub, Array.replicate_succ, Array.replicate_zero, List.push_toArray, List.append_toArray, List.nil_append, List.cons_append]
  gi_upto_region 2 with (fail)
  obtain ⟨b, hb⟩ : ∃ b, Hid (b = w.heap.size) := ⟨_, rfl⟩
  have k0 := (((boxed_at (W := w) (B := w.heap.size) (t := 3) (v := .int .i64 0) rfl).alloc (.cells #[.slice none 0 0] 25)).alloc (.cells vs0 3)).alloc (.cells #[.slice (some ⟨w.heap.size + 1 + 1, 0, none⟩) n n] 25)
  have k1 := ((boxed_at (W := w.alloc (.cells #[.int .i64 0] 3)) (B := w.heap.size + 1) (t := 25) (v := .slice none 0 0) (by simp)).alloc (.cells vs0 3)).alloc (.cells #[.slice (some ⟨w.heap.size + 1 + 1, 0, none⟩) n n] 25)
  have k2 := (BoxN.new (W := (w.alloc (.cells #[.int .i64 0] 3)).alloc (.cells #[.slice none 0 0] 25)) (B := w.heap.size + 1 + 1) (t := 3) (vs := vs0) (by simp)).alloc (.cells #[.slice (some ⟨w.heap.size + 1 + 1, 0, none⟩) n n] 25)
  have k3 := boxed_at (W := ((w.alloc (.cells #[.int .i64 0] 3)).alloc (.cells #[.slice none 0 0] 25)).alloc (.cells vs0 3)) (B := w.heap.size + 1 + 1 + 1) (t := 25) (v := .slice (some ⟨w.heap.size + 1 + 1, 0, none⟩) n n) (by simp)
  have hBV : Below w.heap.size w ((((w.alloc (.cells #[.int .i64 0] 3)).alloc (.cells #[.slice none 0 0] 25)).alloc (.cells vs0 3)).alloc (.cells #[.slice (some ⟨w.heap.size + 1 + 1, 0, none⟩) n n] 25)) := ((((Below.refl _ w).alloc (Nat.le_refl _) _).alloc (by simp) _).alloc (by simp; omega) _).alloc (by simp; omega) _
  have hsV : ((((w.alloc (.cells #[.int .i64 0] 3)).alloc (.cells #[.slice none 0 0] 25)).alloc (.cells vs0 3)).alloc (.cells #[.slice (some ⟨w.heap.size + 1 + 1, 0, none⟩) n n] 25)).heap.size = w.heap.size + 1 + 1 + 1 + 1 := by simp
  rw [← hb.out] at k0 k1 k2 k3 hBV hsV ⊢
  generalize ((((w.alloc (.cells #[.int .i64 0] 3)).alloc (.cells #[.slice none 0 0] 25)).alloc (.cells vs0 3)).alloc (.cells #[.slice (some ⟨b + 1 + 1, 0, none⟩) n n] 25)) = V at *
  have hgn := (hBV.cell (p := ⟨G, 0, none⟩) (by rw [hb.out]; exact hGw)).trans hgn
  have hgV : G < V.heap.size := by have := hb.out; omega
  rw [hb.out] at hBV
  gi_upto_region 3 with (fail)
  have z0 := (k0.alloc (.cells vs0 3)).alloc (.cells #[.slice (some ⟨b + 1 + 1 + 1 + 1, 0, none⟩) n n] 25)
  have z1 := (k1.alloc (.cells vs0 3)).alloc (.cells #[.slice (some ⟨b + 1 + 1 + 1 + 1, 0, none⟩) n n] 25)
  have z2 := (k2.alloc (.cells vs0 3)).alloc (.cells #[.slice (some ⟨b + 1 + 1 + 1 + 1, 0, none⟩) n n] 25)
  have z3 := (k3.alloc (.cells vs0 3)).alloc (.cells #[.slice (some ⟨b + 1 + 1 + 1 + 1, 0, none⟩) n n] 25)
  have z4 := (BoxN.new (W := V) (B := b + 1 + 1 + 1 + 1) (t := 3) (vs := vs0) hsV.symm).alloc (.cells #[.slice (some ⟨b + 1 + 1 + 1 + 1, 0, none⟩) n n] 25)
  have z5 := boxed_at (W := V.alloc (.cells vs0 3)) (B := b + 1 + 1 + 1 + 1 + 1) (t := 25) (v := .slice (some ⟨b + 1 + 1 + 1 + 1, 0, none⟩) n n) (by simp [hsV])
  have hBV2 : Below w.heap.size w ((V.alloc (.cells vs0 3)).alloc (.cells #[.slice (some ⟨b + 1 + 1 + 1 + 1, 0, none⟩) n n] 25)) := (hBV.alloc hBV.size _).alloc (by have := hBV.size; simp; omega) _
  generalize ((V.alloc (.cells vs0 3)).alloc (.cells #[.slice (some ⟨b + 1 + 1 + 1 + 1, 0, none⟩) n n] 25)) = X at *
  have HS0 : Hid (SFix w X b n [] (fun _ => 0) (fun _ => 0)) := ⟨z0, z1, z3, z5, ⟨vs0, z2, hv1, hv2⟩, ⟨vs0, z4, hv1, hv2⟩, hBV2, ⟨List.nodup_nil, fun D h => by cases h⟩⟩
  have z3c := z3.cell
  have hgX := (hBV2.cell (p := ⟨G, 0, none⟩) hGw).trans (by assumption : w.cell? ⟨G, 0, none⟩ = some (.int .i64 (n : Int)))
  clear z0 z1 z2 z3 z4 z5 hBV2 k0 k1 k2 k3 hBV hsV hv2 hgV HMK
  gi_upto_region 4 with (fail)
  gi_loopw [6, 24] (fun _ s24 wr => ∃ k : Nat, k ≤ n ∧ s24 = .int .i64 (k : Int) ∧ Hid (SFix w wr b n [] (fun x => if x < k then -1 else 0) (fun x => if x < k then -1 else 0))) (fun _ s24 _ => n - (intOf s24).toNat)
  case atStart => exact ⟨0, by omega, rfl, by simpa using HS0⟩
  case round =>
    clear HS0
    obtain ⟨k, hk, rfl, hS⟩ := hrel
    by_cases hlt : k < n
    · have h1 : (k : Int) < (n : Int) := by omega
      have h0 : (0 : Int) ≤ (k : Int) := by omega
      have c0 := hS.out.sb.cell
      have c1 := hS.out.fb.cell
      have cs := hS.out.side.cell hlt
      have fs := hS.out.side.frozen k
      have cf := hS.out.from'.cell hlt
      have ff := hS.out.from'.frozen k
      gi_wp2
      gi_region
      gi_wp2
      have hSS : Hid (SFix w ((wr.setCell ⟨b + 1 + 1, k, none⟩ (.int .i64 (-1))).setCell ⟨b + 1 + 1 + 1 + 1, k, none⟩ (.int .i64 (-1))) b n [] (fun x => if x < k + 1 then -1 else 0) (fun x => if x < k + 1 then -1 else 0)) := by
        have hg : Ag (fun j => j = b + 1 + 1 ∨ j = b + 1 + 1 + 1 + 1) wr ((wr.setCell ⟨b + 1 + 1, k, none⟩ (.int .i64 (-1))).setCell ⟨b + 1 + 1 + 1 + 1, k, none⟩ (.int .i64 (-1))) := ((Ag.refl _ wr).set _ _ (.inr (.inl rfl))).set _ _ (.inr (.inr rfl))
        have hS := hS.out
        have hb := hb.out
        refine ⟨hg.boxed hS.r1 (by omega), hg.boxed hS.r2 (by omega), hg.boxed hS.sb (by omega), hg.boxed hS.fb (by omega), ((hS.side.set hlt (-1)).other (by simp) _).congr fun x _ => ?_, (((hS.from'.other (by simp; omega) _).set hlt (-1))).congr fun x _ => ?_, hg.below hS.below hS.below.size (fun k hk e => by omega), ⟨List.nodup_nil, fun D h => by cases h⟩⟩
        · by_cases e : x = k
          · subst e; simp
          · simp only [if_neg e]; by_cases h : x < k
            · rw [if_pos h, if_pos (by omega)]
            · rw [if_neg h, if_neg (by omega)]
        · by_cases e : x = k
          · subst e; simp
          · simp only [if_neg e]; by_cases h : x < k
            · rw [if_pos h, if_pos (by omega)]
            · rw [if_neg h, if_neg (by omega)]
      exact ⟨⟨k + 1, by omega, int_eq (by omega), hSS.out.ag ((Ag.refl (fun _ => False) _).drewN 1) (fun _ e => e.elim)⟩, by simp [intOf]; omega⟩
    · have h1 : ¬ (k : Int) < (n : Int) := by omega
      have hke : k = n := by omega
      have hS1 : Hid (SFix w wr b n [] (sideV [] fun _ => 0) (fromV fun _ => none)) := by
        have h := hS.out
        rw [hke] at h
        exact ⟨h.r1, h.r2, h.sb, h.fb, h.side.congr fun x hx => by simp [sideV, hx], h.from'.congr fun x hx => by simp [fromV, hx], h.below, h.marks⟩
      have hgX := (hS.out.below.cell (p := ⟨G, 0, none⟩) hGw).trans (by assumption : w.cell? ⟨G, 0, none⟩ = some (.int .i64 (n : Int)))
      clear hS hke
      gi_upto_region 10 with (fail)
      refine wpIn_loop_ghost_k (OI w G b n g) n ?_ ?_
      · exact ⟨0, 0, [], [], _, _, sFr_of _ rfl, rfl, hS1.out, BSt.nil g n, (fun y hy => by omega), by omega, by omega⟩
      clear hS1 hgX
      intro k a W hI J K hJ hK
      obtain ⟨out, f, Ds, L, lev, fr, ⟨j, hj⟩, hd, hfix, hB, hall, hfn, hkf⟩ := hI
      obtain ⟨tm, df⟩ := a
      simp only at hj hd
      subst hj
      subst hd
      simp only [sFr]
      have HB := Lib.hid hB
      have HF := Lib.hid hfix
      have HALL := Lib.hid hall
      clear hB hfix hall
      by_cases hff : f < n
      · have h1 : (f : Int) < (n : Int) := by omega
        have h0 : (0 : Int) ≤ (f : Int) := by omega
        have c0 := HF.out.sb.cell
        have cs := HF.out.side.cell hff
        have fs := HF.out.side.frozen f
        by_cases hfL : f ∈ L
        · rw [sideV_in hfL] at cs
          have h2 : (0 : Int) ≤ ((lev f % 2 : Nat) : Int) := by omega
          gi_wp2
          exact ⟨k - 1, by omega, hJ _ _ _ ⟨out, f + 1, Ds, L, lev, fr, sFr_of _ rfl, rfl, HF.out, HB.out, (fun y hy => by
            by_cases e : y = f
            · rw [e]; exact hfL
            · exact HALL.out y (by omega)), by omega, by omega⟩⟩
        · rw [sideV_out hfL] at cs
          gi_upto_region 15 with (fail)
          have hS1 := ((HF.out.store (by have := hb.out; omega) hff 0).keep ((((Below.refl _ _).alloc (Nat.le_refl _) (.cells #[.int .i64 (f : Int)] 3))).alloc (by simp) (.cells #[.slice (some ⟨W.heap.size, 0, none⟩) 1 1] 25))).congr (sf' := sideV (L ++ [f]) (fun y => if y = f then 0 else lev y)) (fun x => by rw [sideV_new hfL]; rfl) (fun _ => rfl)
          have q1 := boxed_at (W := (W.setCell ⟨b + 1 + 1, f, none⟩ (.int .i64 0)).alloc (.cells #[.int .i64 (f : Int)] 3)) (B := W.heap.size + 1) (t := 25) (v := .slice (some ⟨W.heap.size, 0, none⟩) 1 1) (by simp)
          have q2 := (boxed_at (W := W.setCell ⟨b + 1 + 1, f, none⟩ (.int .i64 0)) (B := W.heap.size) (t := 3) (v := .int .i64 (f : Int)) (by simp)).alloc (.cells #[.slice (some ⟨W.heap.size, 0, none⟩) 1 1] 25)
          have hbW := HF.out.fb.lt
          generalize (((W.setCell ⟨b + 1 + 1, f, none⟩ (.int .i64 0)).alloc (.cells #[.int .i64 (f : Int)] 3)).alloc (.cells #[.slice (some ⟨W.heap.size, 0, none⟩) 1 1] 25)) = Y at *
          have hB1 := HB.out.new U hfL hff HALL.out
          refine wpIn_loop_ghost_k (II w G b n g f) n ?_ ?_
          · refine ⟨out, W.heap.size + 1, L.length, Ds, L ++ [f], _, fr, sFr2_of _ rfl, rfl, hS1, ⟨_, q1, ?_⟩, by omega, hB1, fun y hy => ?_, by omega⟩
            · rw [drop_snoc, show (L ++ [f]).length - L.length = 1 by simp]
              refine ⟨rfl, .inr ⟨W.heap.size, 0, 1, _, rfl, by omega, q2, Nat.le_refl _, by unfold maxLen; omega, by simp, fun j hj => ?_⟩⟩
              have : j = 0 := by simp at hj; omega
              subst this
              rfl
            · by_cases e : y = f
              · rw [e]; simp
              · exact List.mem_append_left _ (HALL.out y (by omega))
          clear hS1 q1 q2 hB1 HF HB HALL c0 cs fs hbW hfL
          intro k2 a2 W2 hI2 J2 K2 hJ2 hK2
          obtain ⟨out2, qb, p, Ds2, L2, lev2, fr2, ⟨j2, hj2⟩, hd2, hfix2, hq2, hqb, hB2, hall2, hkp⟩ := hI2
          obtain ⟨tm2, df2⟩ := a2
          simp only at hj2 hd2
          subst hj2
          subst hd2
          simp only [sFr2]
          obtain ⟨qv, q1, q2⟩ := hq2
          have HB := Lib.hid hB2
          have HF := Lib.hid hfix2
          have HALL := Lib.hid hall2
          have HQ1 := Lib.hid q1
          have HQ2 := Lib.hid q2
          have cq := q1.cell
          have fq := q1.frozen
          have hlen := hB2.len
          clear hB2 hfix2 hall2 q1
          by_cases hp : p < L2.length
          · obtain ⟨m, hm⟩ : ∃ m, L2.length - p = m + 1 := ⟨L2.length - p - 1, by omega⟩
            rw [hm] at q2
            obtain ⟨ba, bo, bc, rfl, q3, q4, q5, q6, q7, q8⟩ := q2.at (by omega)
            have ht2 := q2.tail
            have hQe : Hid (L2.length - p = m + 1) := hm
            obtain ⟨v, hv⟩ : ∃ v, Hid (v = nth L2 p) := ⟨_, rfl⟩
            have hcv := q7 0 (by omega)
            rw [show (iv (L2.drop p))[0]? = some (.int .i64 (v : Int)) from by
              rw [iv_get (by rw [List.length_drop]; omega), hv.out]; unfold nth; rw [List.getElem?_drop]; rfl] at hcv
            simp only [Nat.add_zero] at hcv
            have hc1 : (1 : Int) ≤ (bc : Int) := by omega
            have hm0 : (0 : Int) < (m : Int) + 1 := by omega
            clear q5 q6 q7 q8 q2
            have HT2 := Lib.hid ht2
            clear ht2
            gi_upto_region 18 with (fail)
            have hqW := HQ1.out.lt
            have hne : qb ≠ W2.heap.size := by omega
            have hqm := HF.out.no_mark HQ1.out rfl
            have hq0 : ba ≠ qb := fun e => HQ2.out.ne_box HQ1.out (by decide) (by rw [← e]; rfl)
            have hR : SR w ((W2.alloc (.cells #[.int .i64 (v : Int)] 3)).setCell ⟨qb, 0, none⟩ (.slice (if bc = 1 then some ⟨ba, bo, none⟩ else some ⟨ba, bo + 1, none⟩) m (bc - 1))) b n qb W2.heap.size v (p + 1) Ds2 L2 lev2 fr2 := by
              refine ⟨(HF.out.keep ((Below.refl _ _).alloc (Nat.le_refl _) _)).up (by have := hb.out; omega) ((Ag.refl (fun k => k = qb) _).set _ _ (.inr rfl)) (fun k e => by subst e; exact ⟨hqb, hqm⟩), ⟨_, Boxed.set _ (HQ1.out.alloc _), ?_, fun e => ?_⟩, boxed_otherN (boxed_at rfl) (Ne.symm hne) _, hqb, by have := HF.out.fb.lt; omega, hne⟩
              · rw [show L2.length - (p + 1) = m by omega, ite_some, ← List.drop_drop, ← iv_drop]
                refine (HT2.out.alloc _).other (fun k e => ?_) _
                have : ba = k := by split at e <;> exact Option.some.inj e
                subst this; exact hq0
              · have : ba = W2.heap.size := by split at e <;> exact Option.some.inj e
                omega
            have hBV : Below w.heap.size w ((W2.alloc (.cells #[.int .i64 (v : Int)] 3)).setCell ⟨qb, 0, none⟩ (.slice (if bc = 1 then some ⟨ba, bo, none⟩ else some ⟨ba, bo + 1, none⟩) m (bc - 1))) := hR.fix.below
            generalize ((W2.alloc (.cells #[.int .i64 (v : Int)] 3)).setCell ⟨qb, 0, none⟩ (.slice (if bc = 1 then some ⟨ba, bo, none⟩ else some ⟨ba, bo + 1, none⟩) m (bc - 1))) = W3 at *
            generalize hvb : W2.heap.size = vb at *
            have hvn : v < n := HB.out.lt v (by rw [hv.out]; exact nth_mem hp)
            have hvL : v ∈ L2 := by rw [hv.out]; exact nth_mem hp
            have c0 := hR.fix.sb.cell
            have c1 := hR.v.cell
            have c2 := hR.fix.side.cell hvn
            rw [sideV_in hvL] at c2
            have h1 : (v : Int) < (n : Int) := by omega
            have h0 : (0 : Int) ≤ (v : Int) := by omega
            have hop := HB.out.pop hp
            have hsm0 : Sm out2 := Nat.lt_trans (HB.out.out_lt hn) (by decide)
            obtain ⟨out3, ho3⟩ : ∃ o, Hid (o = if lev2 (nth L2 p) % 2 = 0 then out2 ||| pw (nth L2 p) else out2) := ⟨_, rfl⟩
            rw [← ho3.out] at hop
            rw [← hv.out] at ho3
            have HR := Lib.hid hR
            have HOP := Lib.hid hop
            clear hR hop HT2 hcv hc1 hm0 cq fq hq0 hqm hne hvb
            gi_upto_if 63 with (fail)
            refine wpIn_cut0 (fun a X => ∃ j3, a = { tmps := sFr3 G b n out3 f qb vb j3, defers := marks Ds2 } ∧ X = W3) ?_ ?_
            · rintro a X3 ⟨j3, rfl, rfl⟩
              simp only [sFr3]
              clear c0 c2 h1
              gi_wp2_with (gi_at_call 85; go_must (refine (callsIn_wide.2 (at_in G v _)).mono ?_); rintro e w' ⟨rfl, rfl⟩)
              have hBU : Below X3.heap.size X3 ((X3.alloc (.cells #[.pointer (some ⟨G, 0, none⟩)] 79)).alloc (.cells #[.int .i64 (v : Int)] 3)) := ((Below.refl _ _).alloc (Nat.le_refl _) _).alloc (by simp) _
              have k4 := (boxed_at (W := X3) (B := X3.heap.size) (t := 79) (v := .pointer (some ⟨G, 0, none⟩)) rfl).alloc (.cells #[.int .i64 (v : Int)] 3)
              have k5 := boxed_at (W := X3.alloc (.cells #[.pointer (some ⟨G, 0, none⟩)] 79)) (B := X3.heap.size + 1) (t := 3) (v := .int .i64 (v : Int)) (by simp)
              have hszU : ((X3.alloc (.cells #[.pointer (some ⟨G, 0, none⟩)] 79)).alloc (.cells #[.int .i64 (v : Int)] 3)).heap.size = X3.heap.size + 2 := by simp
              have RU := HR.out.keep hBU
              generalize hde : X3.heap.size = ds at *
              have HDE := Lib.hid hde
              clear hde
              generalize ((X3.alloc (.cells #[.pointer (some ⟨G, 0, none⟩)] 79)).alloc (.cells #[.int .i64 (v : Int)] 3)) = U4 at *
              have HSU := Lib.hid hszU
              clear hszU
              have hnx := (HG.out.below RU.fix.below (Nat.le_refl _)).next v (by omega)
              obtain ⟨s, hse⟩ : ∃ s, Hid (s = g[v]?.getD 0) := ⟨_, rfl⟩
              have hs : Sm s := by rw [hse.out]; exact HSM.out v
              rw [← hse.out] at hnx
              refine rf_setsA (p := fun y => y ∈ els s) (by decide) (gf := 98) (lb := #[.pointer (some ⟨ds, 0, none⟩), .pointer (some ⟨ds + 1, 0, none⟩)]) rfl (enters_of Tryd.func98 (by kernel_rfl) rfl)
                (at_stopsA 5 (by decide) ds (ds + 1) G v s (by omega) hs U4 (HT.out.below RU.fix.below (Nat.le_refl _)) k4.lt k5.lt (Nat.lt_of_lt_of_le hGw RU.fix.below.size) k4.cell k5.cell hnx) keepsTab_t (keepsTab_b (by have := RU.fix.fb.lt; omega)) (fun W => KeepsTab.refl W) (by simp)
                (fun pre X => ∃ L' lev' fr', SR w X b n qb vb v (p + 1) Ds2 L' lev' fr' ∧ BSt g n L' p (p + 1) lev' fr' out3 ∧ nth L' p = v ∧ p < L'.length ∧ (∀ y, y < f + 1 → y ∈ L') ∧ ∀ y ∈ pre, y.1 ∈ L' ∧ lev' y.1 % 2 ≠ lev' v % 2)
                (fun c pre X => c = .ret ∧ SEnd w X b n g Ds2)
                ?hI ?hIx ?h0 ?body ?done ?stop
              case hI =>
                intro pre A B row hs hg hr
                obtain ⟨L', lev', fr', h1, h2⟩ := hs
                refine ⟨L', lev', fr', h1.ag (Ag.of_grown (ex := fun k => row = some k) hg (fun k e => e)) fun k hk => ?_, h2⟩
                obtain ⟨h3, o, ho, hc⟩ := hr k hk
                refine ⟨Nat.le_trans RU.fix.below.size h3, fun hD => ?_, fun o' ho' => ?_⟩
                · have := (Array.getElem?_eq_some_iff.1 (RU.fix.marks.2 k hD).2).1
                  omega
                · rw [ho] at ho'; cases ho'; exact hc
              case hIx =>
                intro c pre A B row hs hg hr
                obtain ⟨e, h1⟩ := hs
                refine ⟨e, h1.ag (Ag.of_grown (ex := fun k => row = some k) hg (fun k e => e)) fun k hk => ?_⟩
                obtain ⟨h3, o, ho, hc⟩ := hr k hk
                refine ⟨Nat.le_trans RU.fix.below.size h3, fun hD => ?_, fun o' ho' => ?_⟩
                · have := (Array.getElem?_eq_some_iff.1 (RU.fix.marks.2 k hD).2).1
                  omega
                · rw [ho] at ho'; cases ho'; exact hc
              case h0 => exact ⟨L2, lev2, fr2, RU, HOP.out, hv.out.symm, hp, HALL.out, fun y hy => by cases hy⟩
              case body =>
                rintro lf pre x X ⟨L', lev', fr', hR, hBt, hnp, hpl, hall, hpre⟩ _
                simp only [List.setIfInBounds_toArray, List.set_cons_zero, List.set_cons_succ]
                have hax : adj g v x.1 := by
                  have h := (mem_els hs).1 x.2
                  have e := hse.out
                  unfold adj; rw [← e]; exact h
                have hxn := (U.lt _ _ hax).2
                have hvL' : v ∈ L' := by rw [← hnp]; exact nth_mem hpl
                have c0 := hR.fix.sb.cell
                have c1 := hR.fix.fb.cell
                have cv := hR.v.cell
                have cx := hR.fix.side.cell hxn
                have cs := hR.fix.side.cell hvn
                rw [sideV_in hvL'] at cs
                obtain ⟨c, hc⟩ : ∃ c, Hid (c = lev' v % 2) := ⟨_, rfl⟩
                have hc2 : c < 2 := by rw [hc.out]; omega
                rw [← hc.out] at cs
                have h1 : (x.1 : Int) < (n : Int) := by omega
                have h0 : (0 : Int) ≤ (x.1 : Int) := by omega
                have hvi : (v : Int) < (n : Int) := by omega
                have HR2 := Lib.hid hR
                have HBT := Lib.hid hBt
                have HALL2 := Lib.hid hall
                have HPRE := Lib.hid hpre
                have HAX := Lib.hid hax
                clear hall hpre hax hBt
                by_cases hx : x.1 ∈ L'
                · rw [sideV_in hx] at cx
                  obtain ⟨c', hc'⟩ : ∃ c', Hid (c' = lev' x.1 % 2) := ⟨_, rfl⟩
                  have hc2' : c' < 2 := by rw [hc'.out]; omega
                  rw [← hc'.out] at cx
                  have r0 : ∀ d : BW X.heap.size X, d.w.cell? ⟨b + 1 + 1 + 1, 0, none⟩ = some (.slice (some ⟨b + 1 + 1, 0, none⟩) n n) := fun d => d.cell hR.fix.sb.lt c0
                  have r1 : ∀ d : BW X.heap.size X, d.w.cell? ⟨vb, 0, none⟩ = some (.int .i64 (v : Int)) := fun d => d.cell hR.v.lt cv
                  have r2 : ∀ d : BW X.heap.size X, d.w.cell? ⟨b + 1 + 1, x.1, none⟩ = some (.int .i64 (c' : Int)) := fun d => d.cell hR.fix.side.lt cx
                  have r3 : ∀ d : BW X.heap.size X, d.w.cell? ⟨b + 1 + 1, v, none⟩ = some (.int .i64 (c : Int)) := fun d => d.cell hR.fix.side.lt cs
                  have hneg : ¬ (c' : Int) < 0 := by omega
                  clear hR
                  by_cases heq : c' = c
                  · have he1 : ((c' : Int) == (c : Int)) = true := by rw [heq]; simp
                    gi_wp2
                    refine quietR_bw (by kernel_rfl) (by kernel_rfl) (by kernel_rfl) ?_
                    repeat (gi_big_quiet_step (rfl))
                    refine wpQuietIn_nil ?_
                    rintro _ ⟨d, rfl⟩
                    clear r0 r1 r2 r3
                    have RD := HR2.out.keep d.b
                    have HBd := Lib.hid d.b
                    have HRG := ring_any (b + 1 + 1 + 1 + 1) 0 n n v x.1 (fromV fr') (way lev' fr' v) (way lev' fr' x.1) d.w RD.fix.from'.toF (HBT.out.chn hn hvL') (HBT.out.chn hn hx) (by rw [(HBT.out.way_facts _ v hvL' rfl).1, (HBT.out.way_facts _ x.1 hx rfl).1]; exact HBT.out.meet U hvL' hx HAX.out)
                    have HRG := Lib.hid HRG
                    have f0 := RD.fix.fb.cell
                    have f1 := RD.v.cell
                    have HRD := Lib.hid RD
                    clear RD
                    generalize d.w = Y at *
                    gi_wp2_with (gi_at_call 86; refine (CallsIn.inRound lf (callsIn_wide.2 HRG.out)).mono ?_; rintro e V ⟨vr, la, lb, rfl, hrc, hq, hb4⟩; obtain ⟨s1, s2, rfl⟩ := hq.isSlice; have HRC := Lib.hid hrc; have HQR := Lib.hid hq; have HBV := Lib.hid hb4; have RV := HRD.out.keep hb4; have e1 := RV.fix.r1.cell; have e2 := RV.fix.r1.frozen; have e3 := RV.fix.r2.cell; have e4 := RV.fix.r2.frozen; have HRV := Lib.hid RV; clear hrc hq hb4 RV)
                    have RV := HRV.out
                    have hag : Ag (fun k => k = b ∨ k = b + 1) V ((V.setCell ⟨b, 0, none⟩ (.int .i64 0)).setCell ⟨b + 1, 0, none⟩ (.slice s1 (la + (lb - 1)) s2)) := ((Ag.refl _ V).set _ _ (.inr (.inl rfl))).set _ _ (.inr (.inr rfl))
                    have hagX : Ag (fun k => k = b ∨ k = b + 1) X ((V.setCell ⟨b, 0, none⟩ (.int .i64 0)).setCell ⟨b + 1, 0, none⟩ (.slice s1 (la + (lb - 1)) s2)) := (Ag.of_below (HBd.out.trans (HBV.out.mono HBd.out.size))).trans hag
                    obtain ⟨h5, h6, h7, h8, h9, h10⟩ := HRC.out
                    have wv := HBT.out.way_facts _ v hvL' rfl
                    have wx := HBT.out.way_facts _ x.1 hx rfl
                    have hodd := HBT.out.ring U hvL' hx HAX.out (by rw [← hc'.out, ← hc.out, heq]) h5 h6 (by rw [← wv.1]; exact h7) (by rw [← wx.1]; exact h8) h9 h10
                    have hlen : ((way lev' fr' v).take la ++ ((way lev' fr' x.1).take (lb - 1)).reverse).length = la + (lb - 1) := by have := HQR.out.1; rw [iv_length, Nat.mul_one] at this; exact this
                    have hYb : b + 1 + 1 + 1 + 1 + 1 + 1 ≤ Y.heap.size := by have := HRD.out.fix.fb.lt; omega
                    refine ⟨KeepsFrom.of_ag hagX (fun k o hk ho2 hc e => by
                      rcases e with rfl | rfl
                      · rw [show X.heap[k]? = _ from HR2.out.fix.r1] at ho2; cases ho2; cases hc
                      · rw [show X.heap[b + 1]? = _ from HR2.out.fix.r2] at ho2; cases ho2; cases hc), rfl, ⟨boxed_otherN (Boxed.set _ RV.fix.r1) (by omega) _, ⟨.slice s1 (la + (lb - 1)) s2, _, Boxed.set _ (boxed_otherN RV.fix.r2 (by omega) _), ?_, hodd, fun y hy => ?_⟩, hag.below RV.fix.below RV.fix.below.size (fun k hk e => by have := hb.out; omega), ⟨RV.fix.marks.1, fun D hD => ⟨(RV.fix.marks.2 D hD).1, hag.obj (RV.fix.marks.2 D hD).2 (fun e => by have := (RV.fix.marks.2 D hD).1; omega)⟩⟩⟩⟩
                    · rw [hlen]
                      exact ((HQR.out.mono hYb).other (a := ⟨b, 0, none⟩) (fun k e h => by have := (HQR.out.lt k e).1; simp at h; omega) _).other (a := ⟨b + 1, 0, none⟩) (fun k e h => by have := (HQR.out.lt k e).1; simp at h; omega) _
                    · rcases List.mem_append.1 hy with hy | hy
                      · obtain ⟨i, hi, e⟩ := List.mem_iff_getElem.1 (List.mem_of_mem_take hy)
                        have := (wv.2.2.1 i (by rw [← wv.1]; exact hi)).1
                        unfold nth at this
                        rw [List.getElem?_eq_getElem hi, e] at this
                        exact HBT.out.lt _ this
                      · obtain ⟨i, hi, e⟩ := List.mem_iff_getElem.1 (List.mem_of_mem_take (List.mem_reverse.1 hy))
                        have := (wx.2.2.1 i (by rw [← wx.1]; exact hi)).1
                        unfold nth at this
                        rw [List.getElem?_eq_getElem hi, e] at this
                        exact HBT.out.lt _ this
                  · have he1 : ((c' : Int) == (c : Int)) = false := by rw [beq_eq_false_iff_ne]; omega
                    gi_wp2
                    refine quietR_bw (by kernel_rfl) (by kernel_rfl) (by kernel_rfl) ?_
                    repeat (gi_big_quiet_step (rfl))
                    refine wpQuietIn_nil ?_
                    rintro _ ⟨d, rfl⟩
                    clear r0 r1 r2 r3
                    gi_wp2
                    refine ⟨below_kf d.b, fun h => h.below d.b (Nat.le_refl _), L', lev', fr', HR2.out.keep d.b, HBT.out, hnp, hpl, HALL2.out, fun y hy => ?_⟩
                    rcases List.mem_append.1 hy with hy | hy
                    · exact HPRE.out y hy
                    · simp only [List.mem_singleton] at hy
                      subst hy
                      exact ⟨hx, by rw [← hc'.out, ← hc.out]; exact heq⟩
                · rw [sideV_out hx] at cx
                  have fx := hR.fix.side.frozen x.1
                  have cf := hR.fix.from'.cell hxn
                  have ff := hR.fix.from'.frozen x.1
                  have hxv : x.1 ≠ v := (U.ne _ _ HAX.out).symm
                  clear hR
                  gi_wp2
                  refine wpIn_region_deeds2 (fun i => match i with
                    | 0 => .slice (some ⟨b + 1 + 1, 0, none⟩) n n | 1 => .int .i64 (x.1 : Int) | 2 => .slice (some ⟨b + 1 + 1 + 1 + 1, 0, none⟩) n n | 3 => .int .i64 (x.1 : Int)
                    | 4 => .slice (some ⟨b + 1 + 1, 0, none⟩) n n | 5 => .int .i64 (v : Int) | 6 => .pointer (some ⟨b + 1 + 1, v, none⟩) | 7 => .int .i64 (c : Int) | 8 => .int .i64 (1 - c : Int) | 9 => .int .i64 (v : Int)
                    | 10 => .pointer (some ⟨b + 1 + 1, x.1, none⟩) | 12 => .pointer (some ⟨b + 1 + 1 + 1 + 1, x.1, none⟩) | _ => undef)
                    (fun ls W => SR2 X W b n qb vb v x.1 c (sideV L' lev') (fromV fr') (ls.getD 11 false) (ls.getD 13 false)) (by kernel_rfl) (by kernel_rfl) (by kernel_rfl) _ (by simp only [putL, Act.put, List.setIfInBounds_toArray, List.set_cons_succ, List.set_cons_zero, Nat.reduceAdd]; exact rfl) ?c0 ?cs ?cf
                  case c0 => exact SR2.zero HR2.out (below_dr (Below.refl _ X) 1)
                  case cs =>
                    intro i o ls Z hi hu hdep hoth hthis hold hC
                    rcases (show i = 0 ∨ i = 1 ∨ i = 2 ∨ i = 3 ∨ i = 4 ∨ i = 5 ∨ i = 6 ∨ i = 7 ∨ i = 8 ∨ i = 9 ∨ i = 10 ∨ i = 11 ∨ i = 12 ∨ i = 13 from by have := (List.getElem?_eq_some_iff.1 hi).1; simp at this; omega) with rfl | rfl | rfl | rfl | rfl | rfl | rfl | rfl | rfl | rfl | rfl | rfl | rfl | rfl
                    all_goals (simp only [List.getElem?_cons_zero, List.getElem?_cons_succ, Option.some.injEq] at hi; subst hi)
                    all_goals clear hdep
                    case inr.inr.inr.inr.inr.inr.inr.inr.inr.inr.inr.inl =>
                      rw [hold] at hC
                      have kx := hC.side.cell hxn
                      have kf := hC.side.frozen x.1
                      refine ⟨_, .inr ⟨?_, rfl⟩, by rw [hthis, hoth 13 (by decide)]; exact hC.store1 hxn HR2.out.hv⟩
                      simp [execOp, Act.eval, go_sem, kx, kf]
                    case inr.inr.inr.inr.inr.inr.inr.inr.inr.inr.inr.inr.inr =>
                      rw [hold] at hC
                      have kx := hC.from'.cell hxn
                      have kf := hC.from'.frozen x.1
                      refine ⟨_, .inr ⟨?_, rfl⟩, by rw [hthis, hoth 11 (by decide)]; exact hC.store2 hxn HR2.out.hv⟩
                      simp [execOp, Act.eval, go_sem, kx, kf]
                    all_goals
                      have k0 := hC.sb.cell
                      have k1 := hC.fb.cell
                      have k2 := hC.vbox.cell
                      have k3 := hC.at_v hvn hxv
                      rw [sideV_in hvL', ← hc.out] at k3
                      refine ⟨Z, .inl ?_, by rw [hoth 11 (by decide), hoth 13 (by decide)]; exact hC⟩
                      simp [execOp, Act.eval, go_sem, k0, k1, k2, k3, h1, h0, hvi] <;> exact IntWalk.i64_in _ (by omega)
                  case cf =>
                    intro ls Z hl hC
                    simp only [hl 11 (by decide), hl 13 (by decide)] at hC
                    obtain ⟨qv, p1, p2, p3⟩ := HR2.out.q
                    have z1 := hC.ag.boxed p1 (by have := HR2.out.hq; omega)
                    have z2 := hC.ag.qrow p2 (fun k e hh => by have := (p2.lt k e).1; omega)
                    obtain ⟨s1, s2, rfl⟩ := p2.isSlice
                    have zc := z1.cell
                    have hlen' := HBT.out.len
                    have hzs : b + 1 + 1 + 1 + 1 + 1 + 1 ≤ Z.heap.size := by have := hC.ag.size; have := HR2.out.v.lt; have := HR2.out.hv; omega
                    have HC := Lib.hid hC
                    have HP1 := Lib.hid p1
                    have HP2 := Lib.hid p2
                    have HP3 := Lib.hid p3
                    have HZ1 := Lib.hid z1
                    have HQZ := Lib.hid z2
                    clear hC p1 p2 p3 z1 z2
                    gi_wp2_with (gi_at_builtin; go_must (refine wpListIn_append_q _ rfl (.tmp 90) (.tmp 92) 25 rfl (b + 1 + 1 + 1 + 1 + 1 + 1) 3 i0 (.int .i64 0) 1 8 Tryd.underlying25 hi hz0 hz1 hz2 rfl (by decide) _ (L'.length - (p + 1)) (iv (L'.drop (p + 1))) rfl (HQZ.out.alloc (.cells #[.int .i64 (x.1 : Int)] 3)) ⟨Z.heap.size, 0, none⟩ 1 1 [.int .i64 (x.1 : Int)] rfl rfl (cells_new1 _ _ _) (by simp [Value.oneCell']) (by unfold maxLen; omega) (by omega) (by simp; omega) ?_); intro v4 V4 hq4 hg4 ho4; obtain ⟨p4, c4, hv4⟩ := hq4.isSlice; subst hv4; have w3 := (HZ1.out.alloc (.cells #[.int .i64 (x.1 : Int)] 3)).kept hg4 (HQZ.out.ne_box HZ1.out (by decide)).symm; have y3 := w3.frozen; have y3c := w3.cell; clear w3 zc)
                    have hadd := SR.add (v := v) (x := x.1) HR2.out (by have := hb.out; omega) HC.out hx (by omega) hc.out HP1.out HP2.out HP3.out hq4 hg4 ho4
                    refine ⟨KeepsFrom.of_ag hadd.2.1 (fun k o hk ho2 hc e => by obtain ⟨_, o', h1, h2⟩ := hadd.2.2 k e; rw [ho2] at h1; cases h1; rw [h2] at hc; cases hc), fun h => h.ag hadd.2.1 (fun e => by have := (hadd.2.2 0 e).1; omega), _, _, _, hadd.1, HBT.out.add U hvL' hx HAX.out, by rw [nth_app_l hpl]; exact hnp, by simp; omega, fun y hy => List.mem_append_left _ (HALL2.out y hy), fun y hy => ?_⟩
                    have hvx : v ≠ x.1 := Ne.symm hxv
                    rcases List.mem_append.1 hy with hy | hy
                    · obtain ⟨g1, g2⟩ := HPRE.out y hy
                      have hyx : y.1 ≠ x.1 := fun e => hx (e ▸ g1)
                      simp only [if_neg hyx, if_neg hvx]
                      exact ⟨List.mem_append_left _ g1, g2⟩
                    · simp only [List.mem_singleton] at hy
                      subst hy
                      simp only [if_true, if_neg hvx]
                      exact ⟨by simp, by omega⟩
              case done =>
                rintro Dm xs Y hDm rfl ⟨L', lev', fr', hR, hBt, hnp, hpl, hall, hpre⟩ hDX
                have hnext := hBt.next hpl fun y hy => by
                  rw [hnp] at hy ⊢
                  have hm : y ∈ els s := (mem_els hs).2 (by rw [hse.out]; exact hy)
                  exact hpre ⟨y, hm⟩ (List.mem_attach _ _)
                obtain ⟨qv, p1, p2, p3⟩ := hR.q
                have hDn : Dm ∉ Ds2 := fun h => by have := (Array.getElem?_eq_some_iff.1 (RU.fix.marks.2 Dm h).2).1; omega
                have hbU := RU.fix.fb.lt
                have hF2 : SFix w Y b n (Dm :: Ds2) (sideV L' lev') (fromV fr') := ⟨hR.fix.r1, hR.fix.r2, hR.fix.sb, hR.fix.fb, hR.fix.side, hR.fix.from', hR.fix.below, ⟨List.nodup_cons.2 ⟨hDn, hR.fix.marks.1⟩, fun D hD => by
                  rcases List.mem_cons.1 hD with rfl | hD
                  · exact ⟨by omega, hDX⟩
                  · exact hR.fix.marks.2 D hD⟩⟩
                have hk2 : 1 ≤ k2 := by have := hBt.len; omega
                have hl' := hBt.len
                clear hpre hnx
                gi_wp2
                exact ⟨k2 - 1, by omega, hJ2 _ _ _ ⟨out3, qb, p + 1, Dm :: Ds2, L', lev', fr', sFr2_of _ rfl, rfl, hF2, ⟨qv, p1, p2⟩, hqb, hnext, hall, by omega⟩⟩
              case stop =>
                rintro Dm c pre Y hDm ⟨r, hr⟩ ⟨rfl, hE⟩ hDX
                have hDn : Dm ∉ Ds2 := fun h => by have := (Array.getElem?_eq_some_iff.1 (RU.fix.marks.2 Dm h).2).1; omega
                have hbU := RU.fix.fb.lt
                have HE := Lib.hid hE
                have HDX := Lib.hid hDX
                clear hE hDX hr
                gi_wp2
                have hE := HE.out
                obtain ⟨vr, lr, q1, q2, q3, q4⟩ := hE.r2
                refine leave_marks (Dm :: Ds2) Y (List.nodup_cons.2 ⟨hDn, hE.marks.1⟩) (fun D hD => by
                  rcases List.mem_cons.1 hD with rfl | hD
                  · exact HDX.out
                  · exact (hE.marks.2 D hD).2) fun W' g1 g2 g3 g4 g5 => ?_
                have hoff : ∀ k, k ≤ b + 1 → k ∉ Dm :: Ds2 := fun k hk h => by
                  rcases List.mem_cons.1 h with rfl | h
                  · omega
                  · have := (hE.marks.2 k h).1; omega
                have e1 := (show Boxed W' b 3 (.int .i64 0) from (g5 b (hoff b (by omega))).trans hE.r1).cell
                have e2 := (show Boxed W' (b + 1) 25 vr from (g5 (b + 1) (hoff _ (by omega))).trans q1).cell
                have hagD : Ag (fun k => k ∈ Dm :: Ds2) Y W' := ⟨g1, g2, g3, Nat.le_of_eq g4.symm, fun k _ hn => g5 k hn⟩
                have hbo := hb.out
                have hmk : ∀ k, k ∈ Dm :: Ds2 → ∀ o, Y.heap[k]? = some o → o.isCells = false := fun k hk o ho => by
                  rcases List.mem_cons.1 hk with rfl | hk
                  · rw [HDX.out] at ho; cases ho; rfl
                  · rw [(hE.marks.2 k hk).2] at ho; cases ho; rfl
                refine ⟨.tuple #[.int .i64 0, vr], by simp [results, Tryd.f63, go_sem, e1, e2], ⟨0, vr, rfl, .inr ⟨rfl, lr, q3, q4, (hagD.qrow q2 (fun k hk hh => ?_)).mono (by omega)⟩⟩, hagD.below hE.below hE.below.size (fun k hk h => by
                  have := hoff k (by omega) ; exact this h)⟩
                obtain ⟨o, ho, hc⟩ := q2.own_cells hk
                rw [hmk k hh o ho] at hc; cases hc
            · have hwx : wrap64 (2 ^ v) = ((pw v : Nat) : Int) := pw_cast _ (by omega)
              have hspw : Sm (pw v) := sm_pw (by omega)
              have hwv : IntKind.u64.wrap (v : Int) = (v : Int) := u64_same _ (by omega)
              by_cases he : lev2 v % 2 = 0
              · have ho : out3 = out2 ||| pw v := by rw [ho3.out, if_pos he]
                subst ho
                rw [he] at c2
                gi_wp2
                all_goals exact sFr3_of _ rfl
              · have ho : out3 = out2 := by rw [ho3.out, if_neg he]
                subst ho
                have h2 : ¬ ((lev2 v % 2 : Nat) : Int) = 0 := by omega
                gi_wp2
                all_goals exact sFr3_of _ rfl
          · have hpe : p = L2.length := by have := HB.out.ple; omega
            obtain ⟨sp, sc, rfl⟩ := q2.isSlice
            have hz : L2.length - p = 0 := by omega
            rw [hz] at cq
            clear q2
            gi_wp2
            refine ⟨k - 1, by omega, hJ _ _ _ ⟨out2, f + 1, Ds2, L2, lev2, fr2, sFr_of _ rfl, rfl, HF.out, ?_, HALL.out, by omega, by omega⟩⟩
            have := HB.out
            rw [hpe] at this; exact this
      · have h1 : ¬ (f : Int) < (n : Int) := by omega
        have r1 := HF.out.r1
        have r2 := HF.out.r2
        have hm := HF.out.marks
        have c1 := r1.cell
        have c2 := r1.frozen
        have c3 := r2.cell
        have c4 := r2.frozen
        gi_wp2
        have hg : Ag (fun k => k = b ∨ k = b + 1) W ((W.setCell ⟨b, 0, none⟩ (.int .i64 (out : Int))).setCell ⟨b + 1, 0, none⟩ (.slice none 0 0)) := ((Ag.refl _ W).set _ _ (.inr (.inl rfl))).set _ _ (.inr (.inr rfl))
        have x1 : Boxed ((W.setCell ⟨b, 0, none⟩ (.int .i64 (out : Int))).setCell ⟨b + 1, 0, none⟩ (.slice none 0 0)) b 3 (.int .i64 (out : Int)) := boxed_otherN (Boxed.set _ r1) (by omega) _
        have x2 : Boxed ((W.setCell ⟨b, 0, none⟩ (.int .i64 (out : Int))).setCell ⟨b + 1, 0, none⟩ (.slice none 0 0)) (b + 1) 25 (.slice none 0 0) := Boxed.set _ (boxed_otherN r2 (by omega) _)
        have hBF := hg.below HF.out.below HF.out.below.size (fun k hk e => by have := hb.out; omega)
        generalize ((W.setCell ⟨b, 0, none⟩ (.int .i64 (out : Int))).setCell ⟨b + 1, 0, none⟩ (.slice none 0 0)) = WF at *
        refine leave_marks Ds WF hm.1 (fun D hD => hg.obj (hm.2 D hD).2 (by have := (hm.2 D hD).1; omega)) fun W' g1 g2 g3 g4 g5 => ?_
        have e1 := (show Boxed W' b 3 (.int .i64 (out : Int)) from (g5 b (fun h => by have := (hm.2 _ h).1; omega)).trans x1).cell
        have e2 := (show Boxed W' (b + 1) 25 (.slice none 0 0) from (g5 (b + 1) (fun h => by have := (hm.2 _ h).1; omega)).trans x2).cell
        have hagD : Ag (fun k => k ∈ Ds) WF W' := ⟨g1, g2, g3, Nat.le_of_eq g4.symm, fun k _ hn => g5 k hn⟩
        have hbo := hb.out
        refine ⟨.tuple #[.int .i64 (out : Int), .slice none 0 0], by simp [results, Tryd.f63, go_sem, e1, e2], ⟨out, _, rfl, .inl ⟨rfl, HB.out.two U fun y hy => HALL.out y (by omega)⟩⟩, hagD.below hBF hBF.size (fun k hk h => by have := (hm.2 _ h).1; omega)⟩
end Go.Proofs.YtpknnjcbcndbbaaDoor
namespace Go.Proofs.YtpknnjcbcndbbaaDoor
open Go.RowKit

theorem KWay.side {g : List Nat} {us : Nat → Nat} {col : Nat × Nat → Option Nat} (H : HInv g us col) {side : Nat → Bool} (hs : ∀ x y, adj g x y → side x ≠ side y) {v a b : Nat} {l : List Nat} (h : KWay col v a b l) : ∀ i, i < l.length → (side (nth l i) = side v ↔ i % 2 = 0)
  | 0, _ => by rw [h.first]; simp
  | i + 1, hi => by
    have h1 := h.side H hs i (by omega)
    have h2 := hs _ _ (H.edge _ _ _ (h.step i hi)).2.2.2.1
    have h3 : side (nth l (i + 1)) = !side (nth l i) := by
      cases hx : side (nth l i) <;> cases hy : side (nth l (i + 1)) <;> simp_all
    rw [h3]
    by_cases h4 : side (nth l i) = side v
    · have := h1.1 h4
      rw [h4]
      constructor
      · intro h5; cases hv : side v <;> simp [hv] at h5
      · intro h5; omega
    · have h5 : ¬ i % 2 = 0 := fun e => h4 (h1.2 e)
      constructor
      · intro _; omega
      · intro _; cases hx : side (nth l i) <;> cases hy : side v <;> simp_all
/-- the way of a and b from w does not come to v -/
theorem KWay.off {g : List Nat} {us : Nat → Nat} {col : Nat × Nat → Option Nat} (H : HInv g us col) {side : Nat → Bool} (hs : ∀ x y, adj g x y → side x ≠ side y) {v w a b : Nat} {l : List Nat} (h : KWay col w a b l) (hab : a ≠ b) (hvw : adj g w v) (ha : ∀ y, col (ed v y) ≠ some a) : v ∉ l := fun hm => by
  have hne : v ≠ w := fun e => hs _ _ hvw (by rw [e])
  have hp := h.pos
  have ht := h.tip hm hne (.inl rfl) ha
  have hl : 1 < l.length := by
    refine Nat.lt_of_not_le fun hc => hne ?_
    rw [ht, show l.length - 1 = 0 by omega]; exact h.first
  have hst := h.step (l.length - 2) (by omega)
  rw [show l.length - 2 + 1 = l.length - 1 by omega, ← ht, ed_comm] at hst
  have hodd : (l.length - 2) % 2 = 1 := by
    rcases Nat.mod_two_eq_zero_or_one (l.length - 2) with h0 | h1
    · unfold hu at hst
      rw [if_pos h0] at hst
      exact absurd hst (ha _)
    · exact h1
  have hside := (h.side H hs (l.length - 1) (by omega)).2 (by omega)
  rw [← ht] at hside
  exact hs _ _ hvw hside.symm
/-- behind the exchange the hue a is free at both ends -/
theorem konig_free {g : List Nat} {us : Nat → Nat} {col col' : Nat × Nat → Option Nat} (H : HInv g us col) {side : Nat → Bool} (hs : ∀ x y, adj g x y → side x ≠ side y) {v w a b : Nat} {l : List Nat} (h : KWay col w a b l) (hab : a ≠ b) (hvw : adj g w v) (ha : ∀ y, col (ed v y) ≠ some a) (hb : ∀ y, col (ed w y) ≠ some b)
    (hcol : ∀ x y, col' (ed x y) = if x ∈ l then (col (ed x y)).map (xch a b) else col (ed x y)) : (∀ y, col' (ed v y) ≠ some a) ∧ ∀ y, col' (ed w y) ≠ some a := by
  have hv := h.off H hs hab hvw ha
  have hw : w ∈ l := h.first ▸ nth_mem h.pos
  refine ⟨fun y => by rw [hcol, if_neg hv]; exact ha y, fun y hy => ?_⟩
  rw [hcol, if_pos hw] at hy
  cases hq : col (ed w y) with
  | none => rw [hq] at hy; cases hy
  | some q =>
    rw [hq] at hy
    have h1 : xch a b q = a := Option.some.inj hy
    have h2 : q = b := xch_inj _ _ (h1.trans (xch_r a b).symm)
    exact hb y (h2 ▸ hq)
end Go.Proofs.YtpknnjcbcndbbaaDoor
namespace Go.Proofs.YtpknnjcbcndbbaaDoor
open Go.RowKit Go.Shelf

def konFr (G p bx x y c d eb eo len cap k : Nat) (j : Nat → Value) : Array Value :=
  #[.pointer (some ⟨G, 0, none⟩), undef, .slice none 0 0, .pointer (some ⟨p, 0, none⟩), undef, .pointer (some ⟨bx, 0, none⟩), .int .i64 (x : Int), .int .i64 (y : Int), .int .i64 (c : Int), .int .i64 (d : Int), .pointer (some ⟨G, 0, none⟩), .pointer (some ⟨p, 0, none⟩), .pointer (some ⟨G, 0, none⟩), .pointer (some ⟨G, 0, none⟩), .pointer (some ⟨G, 1, none⟩), .slice (some ⟨eb, eo, none⟩) len cap, .int .i64 (len : Int), .int .i64 (k : Int), .bool true, j 19, j 20, j 21, j 22, j 23, j 24, j 25, j 26, j 27, j 28, j 29, j 30, j 31, j 32, j 33, j 34, j 35, j 36, j 37, j 38, j 39, j 40, j 41, j 42, j 43, j 44, j 45, j 46, j 47, j 48, j 49, j 50, j 51, j 52, j 53, j 54, undef, undef]
theorem konFr_of {G p bx x y c d eb eo len cap k : Nat} (t : Array Value) (h : t = konFr G p bx x y c d eb eo len cap k fun n => t.getD n undef) : ∃ j, t = konFr G p bx x y c d eb eo len cap k j := ⟨_, h⟩
/-- the least free hue is less than the number of neighbours if an edge has none -/
theorem fr_lt {g : List Nat} {us : Nat → Nat} {col : Nat × Nat → Option Nat} (H : HInv g us col) {v x0 D : Nat} (hs : Sm (g[v]?.getD 0)) (hv : v < 16) (hd : (els (g[v]?.getD 0)).length ≤ D + 1) (hu : us v < 18446744073709551615) (ha : adj g v x0) (hno : col (ed v x0) = none) : fr (us v) ≤ D := by
  obtain ⟨h64, _, hl⟩ := fr_spec hu
  have hx : ∀ j, j < fr (us v) → ∃ x, col (ed v x) = some j := fun j hj => (H.used v j hv (by omega)).1 (hl j hj)
  let f : Nat → Nat := fun j => if h : j < fr (us v) then Classical.choose (hx j h) else 0
  have hf : ∀ j, j < fr (us v) → col (ed v (f j)) = some j := fun j hj => by
    show col (ed v (if h : j < fr (us v) then Classical.choose (hx j h) else 0)) = some j
    rw [dif_pos hj]; exact Classical.choose_spec (hx j hj)
  have hn : ((List.range (fr (us v))).map f).Nodup := by
    refine List.pairwise_map.2 (List.Pairwise.imp_of_mem (R := fun a b => a ≠ b) (fun {a b} ha hb hab e => hab ?_) List.nodup_range)
    have h1 := hf a (List.mem_range.1 ha)
    have h2 := hf b (List.mem_range.1 hb)
    rw [e, h2] at h1
    exact (Option.some.inj h1).symm
  have hx0 : x0 ∉ (List.range (fr (us v))).map f := fun hm => by
    obtain ⟨j, hj, e⟩ := List.mem_map.1 hm
    have h1 := hf j (List.mem_range.1 hj)
    rw [e, hno] at h1
    cases h1
  have := nodup_sub (x0 :: (List.range (fr (us v))).map f) (els (g[v]?.getD 0)) (List.nodup_cons.2 ⟨hx0, hn⟩) fun x hx => by
    rcases List.mem_cons.1 hx with rfl | hx
    · exact (mem_els hs).2 ha
    · obtain ⟨j, hj, rfl⟩ := List.mem_map.1 hx
      exact (mem_els hs).2 (H.edge _ _ _ (hf j (List.mem_range.1 hj))).2.2.2.1
  simp at this
  omega
set_option maxRecDepth 100000 in
set_option maxHeartbeats 20000000 in
theorem konig_any (side : Nat → Bool) (G n D : Nat) (a : Option Addr) (cap : Nat) (g : List Nat) (ps : List (Int × Int)) (w : World) (hT : Tab w) (hg : GraphAt w G n a cap ps.length g) (hE : Pairs w a ps) (hsm : ∀ i : Nat, Sm (g[i]?.getD 0)) (hok : EdgesOK g ps) (hlen : ps.length ≤ 1099511627776) (hD : D ≤ 15) (hside : ∀ x y, adj g x y → side x ≠ side y) (hdeg : ∀ u, u < 16 → (els (g[u]?.getD 0)).length ≤ D + 1) :
    Calls Tryd.prog 64 #[.pointer (some ⟨G, 0, none⟩)] w fun e w' => ∃ v us col, e = .returned v ∧ QRow w' w.heap.size 3 1 v ps.length (hl col ps) ∧ Below w.heap.size w w' ∧ HInv g us col ∧ (∀ e h, col e = some h → h ≤ D) ∧ ∀ q ∈ ps, col (pr q) ≠ none := by
  have HT := Lib.hid hT
  have HG := Lib.hid hg
  have HE := Lib.hid hE
  have HSM := Lib.hid hsm
  have HOK := Lib.hid hok
  have HDEG := Lib.hid hdeg
  have hGl := hg.lt
  have c1 := hg.e
  have HSD := Lib.hid hside
  clear hT hg hE hsm hok hdeg hside
  go_enter Tryd.func64, Tryd.ntmps64
  go_wp2_with (go_at_call 77; refine (newPaint_any G w).mono ?_; rintro e w1 ⟨rfl, hp1, hb1⟩; have HP1 := Lib.hid hp1; have HB1 := Lib.hid hb1; have c1' := (hb1.cell (p := ⟨G, 1, none⟩) hGl).trans c1; clear hp1 hb1 c1)
  obtain ⟨P, hPe⟩ : ∃ P, Hid (P = w.heap.size + 1) := ⟨_, rfl⟩
  have HP0 : Hid (∃ us col, PaintAt w1 P G w.heap.size us col ∧ HInv g us col ∧ (∀ e h, col e = some h → h ≤ D) ∧ ∀ e, col e = none ↔ ∀ j, j < 0 → e ≠ pr (ps[j]?.getD (0, 0))) :=
    ⟨_, _, by rw [hPe.out]; exact HP1.out, HInv.empty, (fun _ _ h => by cases h), fun e => ⟨(fun _ j hj => by omega), fun _ => rfl⟩⟩
  rw [← hPe.out]
  clear HP1 c1'
  go_loopw [5, 6, 7, 8, 9, 17] (fun _ _ _ _ _ s17 wr => ∃ k : Nat, k ≤ ps.length ∧ s17 = .int .i64 (k : Int) ∧ Hid (∃ us col, PaintAt wr P G w.heap.size us col ∧ HInv g us col ∧ (∀ e h, col e = some h → h ≤ D) ∧ ∀ e, col e = none ↔ ∀ j, j < k → e ≠ pr (ps[j]?.getD (0, 0))) ∧ Below w.heap.size w wr) (fun _ _ _ _ _ s17 _ => ps.length - (intOf s17).toNat)
  case atStart => exact ⟨0, by omega, rfl, HP0, HB1.out⟩
  case round =>
    clear HP0
    obtain ⟨k, hk, rfl, hR, hB⟩ := hrel
    by_cases hlt : k < ps.length
    · have h1 : (k : Int) < (ps.length : Int) := by omega
      have h0 : (0 : Int) ≤ (k : Int) := by omega
      obtain ⟨eb, eo, ea, helt, hec⟩ := HE.out (fun e => by rw [e] at hlt; simp at hlt)
      subst ea
      have hk0 := hec k hlt
      obtain ⟨x, y, hqe, hxy, hy16, hadj, hadj'⟩ := HOK.out.edge k hlt
      rw [hqe] at hk0
      simp only [Option.getD_some] at hk0
      have e0 := (hB.cell (p := ⟨eb, eo + k * 2, none⟩) helt).trans hk0.1
      have e1 := (hB.cell (p := ⟨eb, eo + k * 2 + 1, none⟩) helt).trans hk0.2
      obtain ⟨us, col, hP, hH, hbd, hdom⟩ := hR.out
      have hno : col (ed x y) = none := by
        rw [hdom, ed_lt hxy]
        intro j hj he
        obtain ⟨x', y', hq', _⟩ := HOK.out.edge j (by omega)
        rw [hq'] at he
        simp only [Option.getD_some, pr, Int.toNat_natCast] at he
        have := HOK.out.nd j k hj hlt
        rw [hq', hqe] at this
        cases he
        exact this rfl
      have hus : ∀ u, u < 16 → us u < 18446744073709551615 := fun u hu => by
        have h1 := hP.sm u
        refine Nat.lt_of_le_of_ne (by omega) fun e => ?_
        have h63 : (us u).testBit 63 = true := by rw [e]; decide
        obtain ⟨x, hx⟩ := (hH.used u 63 hu (by decide)).1 h63
        have := hbd _ _ hx
        omega
      have hux := hus x (by omega)
      have huy := hus y hy16
      have hcD : fr (us x) ≤ D := fr_lt hH (HSM.out x) (by omega) (HDEG.out x (by omega)) hux hadj hno
      have hdD : fr (us y) ≤ D := fr_lt hH (HSM.out y) hy16 (HDEG.out y hy16) huy hadj' (by rw [ed_comm]; exact hno)
      have HQQ : Hid (∀ e a', a' < 16 → us a' < 18446744073709551615 → e = fr (us a') → ∀ z, col (ed a' z) ≠ some e) := fun e a' ha hu he => by
        subst he
        obtain ⟨hc64, hcb, _⟩ := fr_spec hu
        exact (hH.free ha hc64).1 hcb
      have HPUT : Hid (∀ V us1 col1, Below wr.heap.size wr V ∨ Ag (fun k => k = P ∨ k = w.heap.size) wr V → PaintAt V P G w.heap.size us1 col1 → HInv g us1 col1 → (∀ e h, col1 e = some h → h ≤ D) → (∀ e, col1 e = none ↔ col e = none) → (∀ z, col1 (ed x z) ≠ some (fr (us x))) → (∀ z, col1 (ed y z) ≠ some (fr (us x))) → Calls Tryd.prog 79 #[.pointer (some ⟨P, 0, none⟩), .int .i64 (x : Int), .int .i64 (y : Int), .int .i64 (fr (us x) : Nat)] V fun e w' => e = .returned (.tuple #[]) ∧ (∃ us col, PaintAt w' P G w.heap.size us col ∧ HInv g us col ∧ (∀ e h, col e = some h → h ≤ D) ∧ ∀ e, col e = none ↔ ∀ j, j < k + 1 → e ≠ pr (ps[j]?.getD (0, 0))) ∧ Below w.heap.size w w') := fun V us1 col1 hV hP1 hH1 hb1 hn1 hf1 hf2 => by
        have hBV : Below w.heap.size w V := by
          rcases hV with hV | hV
          · exact hB.trans (hV.mono hB.size)
          · exact hV.below hB hB.size (fun k hk e => by have := hPe.out; omega)
        refine (put_any P G w.heap.size x y (fr (us x)) us1 col1 V hP1 (by omega) hy16 (by omega) (by omega)).mono ?_
        rintro e w' ⟨h1, h2, h6⟩
        refine ⟨h1, ⟨_, _, h2, hH1.put (by omega) hy16 (by omega) hadj hadj' (by omega) ((hn1 _).2 hno) hf1 hf2, fun e h he => ?_, fun e => ?_⟩, h6.below hBV hBV.size (fun k hk e => by have := hPe.out; omega)⟩
        · unfold setF at he
          split at he
          · cases he; exact hcD
          · exact hb1 _ _ he
        · have hpk : pr (ps[k]?.getD (0, 0)) = ed x y := by rw [hqe, ed_lt hxy]; simp [pr]
          unfold setF
          split
          · rename_i he
            constructor
            · intro h; cases h
            · intro h; exact absurd (he.trans hpk.symm) (h k (by omega))
          · rename_i he
            rw [hn1, hdom]
            constructor
            · intro h7 j hj
              by_cases hjk : j = k
              · subst hjk; rw [hpk]; exact he
              · exact h7 j (by omega)
            · intro h7 j hj; exact h7 j (by omega)
      have HSW : Hid (fr (us x) ≠ fr (us y) → ∀ V, Below wr.heap.size wr V → Calls Tryd.prog 88 #[.pointer (some ⟨P, 0, none⟩), .int .i64 (y : Int), .int .i64 (fr (us x) : Nat), .int .i64 (fr (us y) : Nat)] V fun e w' => e = .returned (.tuple #[]) ∧ ∃ us1 col1, PaintAt w' P G w.heap.size us1 col1 ∧ HInv g us1 col1 ∧ (∀ e h, col1 e = some h → h ≤ D) ∧ (∀ e, col1 e = none ↔ col e = none) ∧ (∀ z, col1 (ed x z) ≠ some (fr (us x))) ∧ (∀ z, col1 (ed y z) ≠ some (fr (us x))) ∧ Ag (fun k => k = P ∨ k = w.heap.size) wr w') := fun hab V hV => by
        have hBV := hB.trans (hV.mono hB.size)
        have hfx := HQQ.out _ x (by omega) hux rfl
        have hfy := HQQ.out _ y hy16 huy rfl
        refine (swap_any P G w.heap.size n y (fr (us x)) (fr (us y)) _ cap ps.length g us col V (HT.out.below hBV (Nat.le_refl _)) (HG.out.below hBV (Nat.le_refl _)) HSM.out (hP.below hV) hH hy16 (by omega) (by omega) hab hfy).mono ?_
        rintro e w' ⟨h1, us', wy, hk, he, hP2, hH2, hag⟩
        have hdone := hk.done hH hab hfy he
        have hmost := swap_most hH hH2 hdone hbd hcD hdD
        have hfree := konig_free hH HSD.out hk hab hadj' hfx hfy hdone
        exact ⟨h1, us', _, hP2, hH2, hmost.1, hmost.2, hfree.1, hfree.2, (Ag.of_below hV).trans hag⟩
      have HSC : Hid (∀ W', Below wr.heap.size wr W' → W'.cell? ⟨P, 2 + x, none⟩ = some (.int .u64 (us x : Nat)) ∧ W'.cell? ⟨P, 2 + y, none⟩ = some (.int .u64 (us y : Nat))) := fun W' h =>
        ⟨(h.cell (p := ⟨P, 2 + x, none⟩) hP.lt).trans (hP.cells.2.2.1 x (by omega)), (h.cell (p := ⟨P, 2 + y, none⟩) hP.lt).trans (hP.cells.2.2.1 y hy16)⟩
      have HPH : Hid (PaintAt wr P G w.heap.size us col ∧ HInv g us col ∧ ∀ e h, col e = some h → h ≤ D) := ⟨hP, hH, hbd⟩
      have HTB : Hid (∀ W', Below wr.heap.size wr W' → Tab W') := fun W' h => (HT.out.below hB (Nat.le_refl _)).below h (Nat.le_refl _)
      have HUX := Lib.hid hux
      have HUY := Lib.hid huy
      have HCD := Lib.hid hcD
      have HDD := Lib.hid hdD
      clear hux huy hcD hdD hus
      clear hec hk0 hqe hR hP hH hbd hdom hno hadj hadj' hB
      go_wp2
      have hBV : Below wr.heap.size wr (wr.alloc (.cells #[.int .i64 (x : Int), .int .i64 (y : Int)] 72)) := (Below.refl _ wr).alloc (Nat.le_refl _) _
      have hbn : BoxN (wr.alloc (.cells #[.int .i64 (x : Int), .int .i64 (y : Int)] 72)) wr.heap.size 72 #[.int .i64 (x : Int), .int .i64 (y : Int)] := BoxN.new rfl
      obtain ⟨bx, hbx⟩ : ∃ bx, Hid (bx = wr.heap.size) := ⟨_, rfl⟩
      rw [← hbx.out] at hbn ⊢
      generalize (wr.alloc (.cells #[.int .i64 (x : Int), .int .i64 (y : Int)] 72)) = V at *
      have r0 : ∀ d : BW V.heap.size V, d.w.cell? ⟨bx, 0, none⟩ = some (.int .i64 (x : Int)) := fun d => d.cell (hbn.lt) (by rw [hbn.cell]; rfl)
      have r1 : ∀ d : BW V.heap.size V, d.w.cell? ⟨bx, 1, none⟩ = some (.int .i64 (y : Int)) := fun d => d.cell (hbn.lt) (by rw [hbn.cell]; rfl)
      have HBV := Lib.hid hBV
      clear hbn hBV e0 e1
      refine wp_region_bw (by kernel_rfl) (by kernel_rfl) ?_
      repeat (go_big_quiet_step (rfl))
      refine wpQuiet_nil ?_
      rintro _ ⟨d, rfl⟩
      clear r0 r1
      go_wp2
      have hBW := HBV.out.trans (d.b.mono HBV.out.size)
      generalize d.w = W at *
      refine wp_mono (Q := fun e a' w' => e = .normal ∧ (∃ j', a' = { tmps := konFr G P bx x y (fr (us x)) (fr (us y)) eb eo ps.length cap k j', defers := [] }) ∧ Below wr.heap.size wr w') ?reg ?rest
      case reg =>
        have HS : Hid (∀ W', Below W.heap.size W W' → Below W.heap.size W W' ∧ W'.cell? ⟨P, 2 + x, none⟩ = some (.int .u64 (us x : Nat)) ∧ W'.cell? ⟨P, 2 + y, none⟩ = some (.int .u64 (us y : Nat))) := fun W' h =>
          ⟨h, (HSC.out _ (hBW.trans (h.mono hBW.size))).1, (HSC.out _ (hBW.trans (h.mono hBW.size))).2⟩
        have HTW : Hid (∀ W', Below W.heap.size W W' → Tab W') := fun W' h => HTB.out _ (hBW.trans (h.mono hBW.size))
        have HBW := Lib.hid hBW
        clear hBW
        have i1 : (x : Int) < 16 := by omega
        have i2 : (0 : Int) ≤ (x : Int) := by omega
        have i3 : (y : Int) < 16 := by omega
        have i4 : (0 : Int) ≤ (y : Int) := by omega
        go_region_held3 (fun W' => Below W.heap.size W W' ∧ W'.cell? ⟨P, 2 + x, none⟩ = some (.int .u64 (us x : Nat)) ∧ W'.cell? ⟨P, 2 + y, none⟩ = some (.int .u64 (us y : Nat)))
          (first
            | (refine HS.out _ ?_; exact below_dr (Below.refl _ _) 1)
            | (refine HS.out _ (Below.alloc (And.left (by assumption)) (Below.size (And.left (by assumption))) _))
            | assumption)
          (first
            | (go_at_call 87; refine (free_any _ _ (us x) _ (HTW.out _ (And.left (by assumption))) ?_ HUX.out).mono ?_; (next => (simp; done)); rintro e w' ⟨rfl, rfl⟩)
            | (go_at_call 87; refine (free_any _ _ (us y) _ (HTW.out _ (And.left (by assumption))) ?_ HUY.out).mono ?_; (next => (simp; done)); rintro e w' ⟨rfl, rfl⟩))
        all_goals exact ⟨rfl, (konFr_of _ rfl).elim (fun j h => ⟨j, congrArg (fun t => ({ tmps := t, defers := [] } : Act)) h⟩), HBW.out.trans (Below.mono (And.left (by assumption)) HBW.out.size)⟩
      case rest =>
        rintro e a' W2 ⟨rfl, ⟨j', rfl⟩, hB2⟩
        simp only [konFr]
        have HB2 := Lib.hid hB2
        clear hB2
        have HFX := Lib.hid (HQQ.out _ x (by omega) HUX.out rfl)
        have HFY := Lib.hid (HQQ.out _ y (by omega) HUY.out rfl)
        clear HQQ HSC HUX HUY
        have hcD := HCD.out
        have hdD := HDD.out
        clear HCD HDD
        generalize fr (us x) = c at *
        generalize fr (us y) = dd at *
        by_cases hab : c = dd
        · subst hab
          go_wp2_with (go_at_call 79; refine (HPUT.out _ us col (.inl HB2.out) (HPH.out.1.below HB2.out) HPH.out.2.1 HPH.out.2.2 (fun _ => Iff.rfl) HFX.out HFY.out).mono ?_; rintro e w5 ⟨rfl, hR5, hb5⟩; have HR5 := Lib.hid hR5; have HB5 := Lib.hid hb5; clear hR5 hb5)
          exact ⟨⟨k + 1, by omega, int_eq (by omega), HR5, HB5.out⟩, by simp [intOf]; omega⟩
        · have hab' : ¬ (c : Int) = (dd : Int) := by omega
          have HAB := Lib.hid hab
          clear hab
          go_wp2_with (first
            | (go_at_call 88; refine (HSW.out HAB.out _ HB2.out).mono ?_; rintro e w4 ⟨rfl, us1, col1, hsw⟩; have HW := Lib.hid hsw; clear hsw)
            | (go_at_call 79; refine (HPUT.out _ us1 col1 (.inr HW.out.2.2.2.2.2.2) HW.out.1 HW.out.2.1 HW.out.2.2.1 HW.out.2.2.2.1 HW.out.2.2.2.2.1 HW.out.2.2.2.2.2.1).mono ?_; rintro e w5 ⟨rfl, hR5, hb5⟩; have HR5 := Lib.hid hR5; have HB5 := Lib.hid hb5; clear hR5 hb5))
          exact ⟨⟨k + 1, by omega, int_eq (by omega), HR5, HB5.out⟩, by simp [intOf]; omega⟩
    · have h1 : ¬ (k : Int) < (ps.length : Int) := by omega
      have hke : k = ps.length := by omega
      rw [hke] at hR
      obtain ⟨us, col, hP, hH, hbd, hdom⟩ := hR.out
      have HL := Lib.hid (list_any P G w.heap.size n a cap g us col ps wr (HG.out.below hB (Nat.le_refl _)) (HE.out.below hB (Nat.le_refl _)) hP (fun q hq => by
        obtain ⟨j, hj⟩ := List.getElem?_of_mem hq
        obtain ⟨x, y, h1, _⟩ := HOK.out.edge j (List.getElem?_eq_some_iff.1 hj).1
        rw [hj] at h1; cases h1; exact ⟨by simp, by simp⟩) hlen)
      have HH := Lib.hid hH
      have HBD := Lib.hid hbd
      have HDO := Lib.hid hdom
      have HB := Lib.hid hB
      clear hR hP hH hbd hdom hB hke
      go_wp2_with (go_at_call 82; refine (HL.out).mono ?_; rintro e w5 ⟨v5, rfl, hq5, hb5⟩; obtain ⟨s1, s2, rfl⟩ := hq5.isSlice; have HQ5 := Lib.hid hq5; have HB5 := Lib.hid hb5; clear hq5 hb5)
      go_ret
      refine ⟨_, us, col, rfl, HQ5.out.mono HB.out.size, HB.out.trans (HB5.out.mono HB.out.size), HH.out, HBD.out, fun q hq hc => ?_⟩
      obtain ⟨j, hj⟩ := List.getElem?_of_mem hq
      have := (HDO.out _).1 hc j (List.getElem?_eq_some_iff.1 hj).1
      rw [hj] at this
      exact this rfl
end Go.Proofs.YtpknnjcbcndbbaaDoor
namespace Go.Proofs.YtpknnjcbcndbbaaDoor
open Go.RowKit

/-- a walk of this parity leads to x from the least vertex that any walk reaches -/
def Par (g : List Nat) (b x : Nat) : Prop := ∃ r k, Wk g r k x ∧ k % 2 = b ∧ ∀ k y, Wk g r k y → r ≤ y
structure RSt (g : List Nat) (n l r : Nat) : Prop where
  left : ∀ x, l.testBit x = true → x < n ∧ Par g 0 x
  right : ∀ x, r.testBit x = true → x < n ∧ Par g 1 x
/-- nothing is to be added at k -/
def Shut (g : List Nat) (l r k : Nat) : Prop := (l.testBit k = true → ldiff (g[k]?.getD 0) r = 0) ∧ (r.testBit k = true → ldiff (g[k]?.getD 0) l = 0)
theorem ldiff_zero {a b : Nat} (h : ldiff a b = 0) (i : Nat) (ha : a.testBit i = true) : b.testBit i = true := by
  have := congrArg (fun z => z.testBit i) h
  simp only [testBit_ldiff, Nat.zero_testBit] at this
  rw [ha] at this
  cases hb : b.testBit i with
  | true => rfl
  | false => rw [hb] at this; cases this
theorem RSt.zero (g : List Nat) (n : Nat) : RSt g n 0 0 := ⟨fun x h => by simp at h, fun x h => by simp at h⟩
theorem Par.next {g : List Nat} {b x y : Nat} (h : Par g b x) (ha : adj g x y) : Par g (1 - b) y := by
  obtain ⟨r, k, h1, h2, h3⟩ := h
  exact ⟨r, k + 1, ⟨x, h1, ha⟩, by omega, h3⟩
theorem RSt.addR {g : List Nat} {n l r k : Nat} (U : Und g n) (R : RSt g n l r) (hk : l.testBit k = true) : RSt g n l (r ||| (g[k]?.getD 0)) := by
  refine ⟨R.left, fun x hx => ?_⟩
  rw [Nat.testBit_or] at hx
  cases h : r.testBit x with
  | true => exact R.right x h
  | false =>
    rw [h] at hx
    have ha : adj g k x := by unfold adj; simpa using hx
    exact ⟨(U.lt _ _ ha).2, (R.left k hk).2.next ha⟩
theorem RSt.addL {g : List Nat} {n l r k : Nat} (U : Und g n) (R : RSt g n l r) (hk : r.testBit k = true) : RSt g n (l ||| (g[k]?.getD 0)) r := by
  refine ⟨fun x hx => ?_, R.right⟩
  rw [Nat.testBit_or] at hx
  cases h : l.testBit x with
  | true => exact R.left x h
  | false =>
    rw [h] at hx
    have ha : adj g k x := by unfold adj; simpa using hx
    exact ⟨(U.lt _ _ ha).2, (R.right k hk).2.next ha⟩
/-- more bits make a greater number -/
theorem or_lt {a b : Nat} (h : ldiff b a ≠ 0) : a < a ||| b := by
  refine Nat.lt_of_le_of_ne Nat.left_le_or fun e => h ?_
  apply Nat.eq_of_testBit_eq
  intro i
  rw [testBit_ldiff, Nat.zero_testBit]
  have := congrArg (fun z => z.testBit i) e
  simp only [Nat.testBit_or] at this
  cases ha : a.testBit i <;> cases hb : b.testBit i <;> rw [ha, hb] at this <;> first | rfl | cases this
/-- closed sets keep walks -/
theorem shut_walk {g : List Nat} {n l r : Nat} (U : Und g n) (hs : ∀ k, k < n → Shut g l r k) {x : Nat} (hx : (l ||| r).testBit x = true) : ∀ {k y : Nat}, Wk g x k y → (l ||| r).testBit y = true
  | 0, _, e => by cases e; exact hx
  | k + 1, w, ⟨v, h1, h2⟩ => by
    have h3 := shut_walk U hs hx h1
    rw [Nat.testBit_or] at h3 ⊢
    have hv := hs v (U.lt _ _ h2).1
    cases hl : l.testBit v with
    | true => rw [ldiff_zero (hv.1 hl) w h2, Bool.or_true]
    | false => rw [hl, Bool.false_or] at h3; rw [ldiff_zero (hv.2 h3) w h2, Bool.true_or]
theorem RSt.root {g : List Nat} {n l r i : Nat} (U : Und g n) (R : RSt g n l r) (hs : ∀ k, k < n → Shut g l r k) (hin : i < n) (hi : (l ||| r).testBit i = false) (hall : ∀ y, y < i → (l ||| r).testBit y = true) : RSt g n (l ||| pw i) r := by
  refine ⟨fun x hx => ?_, R.right⟩
  rw [Nat.testBit_or, pw, Nat.testBit_two_pow] at hx
  cases h : l.testBit x with
  | true => exact R.left x h
  | false =>
    rw [h] at hx
    have e : i = x := by simpa using hx
    subst e
    refine ⟨hin, i, 0, rfl, rfl, fun k y hk => Nat.le_of_not_lt fun hlt => ?_⟩
    have := shut_walk U hs (hall y hlt) (hk.rev U)
    rw [hi] at this; cases this
theorem RSt.good {g : List Nat} {n l r : Nat} (_U : Und g n) (R : RSt g n l r) (hs : ∀ k, k < n → Shut g l r k) (hall : ∀ y, y < n → (l ||| r).testBit y = true) (h0 : l &&& r = 0) : TwoCol g l ∧ (∀ x, x < n → Rooted g l x) ∧ ∀ x, l.testBit x = true → x < n := by
  have hno : ∀ x, l.testBit x = true → r.testBit x = true → False := fun x h1 h2 => by
    have := congrArg (fun z => z.testBit x) h0
    simp only [Nat.testBit_and, Nat.zero_testBit, h1, h2] at this
    cases this
  have hor : ∀ x, x < n → l.testBit x = false → r.testBit x = true := fun x hx h => by
    have := hall x hx
    rw [Nat.testBit_or, h] at this; simpa using this
  refine ⟨fun x y ha e => ?_, fun x hx => ?_, fun x hx => (R.left x hx).1⟩
  · have hx := (_U.lt _ _ ha).1
    have hy := (_U.lt _ _ ha).2
    cases h : l.testBit x with
    | true =>
      rw [h] at e
      exact hno y e.symm (ldiff_zero ((hs x hx).1 h) y ha)
    | false =>
      rw [h] at e
      have := ldiff_zero ((hs x hx).2 (hor x hx h)) y ha
      rw [← e] at this; cases this
  · cases h : l.testBit x with
    | true =>
      obtain ⟨_, q, k, h1, h2, h3⟩ := R.left x h
      exact ⟨q, k, h1, by rw [h]; simp [h2], h3⟩
    | false =>
      obtain ⟨_, q, k, h1, h2, h3⟩ := R.right x (hor x hx h)
      exact ⟨q, k, h1, by rw [h]; simp [h2], h3⟩
theorem RSt.bad {g : List Nat} {n l r : Nat} (U : Und g n) (R : RSt g n l r) (h0 : l &&& r ≠ 0) (s : Nat) : ¬ TwoCol g s := fun hs => by
  obtain ⟨x, hx⟩ : ∃ x, (l &&& r).testBit x = true := by
    refine Classical.byContradiction fun h => h0 (Nat.eq_of_testBit_eq fun i => ?_)
    rw [Nat.zero_testBit]
    cases h' : (l &&& r).testBit i with
    | false => rfl
    | true => exact absurd ⟨i, h'⟩ h
  rw [Nat.testBit_and, Bool.and_eq_true] at hx
  obtain ⟨_, q, k, h1, h2, h3⟩ := R.left x hx.1
  obtain ⟨_, q', k', h1', h2', h3'⟩ := R.right x hx.2
  have e : q = q' := Nat.le_antisymm (h3 _ _ (h1.trans (h1'.rev U))) (h3' _ _ (h1'.trans (h1.rev U)))
  subst e
  have := (hs.walk (h1.trans (h1'.rev U))).1 rfl
  omega
/-- what the document's Sides returns -/
def SidesR (g : List Nat) (n s : Nat) (two : Bool) : Prop := (two = true ∧ TwoCol g s ∧ (∀ x, x < n → Rooted g s x) ∧ ∀ x, s.testBit x = true → x < n) ∨ (two = false ∧ s = 0 ∧ ∀ t, ¬ TwoCol g t)
theorem SidesR.unique {g : List Nat} {n s t : Nat} {a b : Bool} (U : Und g n) (h : SidesR g n s a) (h' : SidesR g n t b) : s = t ∧ a = b := by
  rcases h with ⟨rfl, h1, h2, h3⟩ | ⟨rfl, rfl, h1⟩
  · rcases h' with ⟨rfl, h1', h2', h3'⟩ | ⟨rfl, rfl, h1'⟩
    · exact ⟨two_unique U h1 h1' h2 h2' h3 h3', rfl⟩
    · exact absurd h1 (h1' _)
  · rcases h' with ⟨rfl, h1', h2', h3'⟩ | ⟨rfl, rfl, h1'⟩
    · exact absurd h1' (h1 _)
    · exact ⟨rfl, rfl⟩
end Go.Proofs.YtpknnjcbcndbbaaDoor
