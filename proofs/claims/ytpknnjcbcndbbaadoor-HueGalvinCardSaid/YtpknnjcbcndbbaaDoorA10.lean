/- The program's with: the neighbour to which an edge of a hue leads. Hues under way, in plain text: a hue is free, an edge is given a hue or loses it; the program's free. Two hues exchanged along a way, in plain text. Regions that draw their order, of a class of worlds: a copy that the call at the tail's head does not wait for is taken first. The program's swap: a walk. A fan of edges at a vertex (Misra and Gries), in plain text. -/
import Derived.Test.YtpknnjcbcndbbaaDoorA09
import Derived.Stop.RegionWithIn
set_option linter.unusedVariables false
set_option linter.unusedSimpArgs false
namespace Go.Proofs.YtpknnjcbcndbbaaDoor
open Go.RowKit Go.Shelf
attribute [local go_sem] Oper.semAt_some

/-- a region in a round, of the class of the worlds that keep what was there -/
theorem quietR_bw {F : Fence} {n : Nat} {P : Program} {id : Nat} {Q : Exit → Act → World → Prop} {a : Act} {w : World} {l : List Oper} (hro : l.all plainOp = true) (hm : P.follows .mixedOrders = true) (hB : Region.lexB .any l.toArray = true)
    (h : wpQuietIn F n P l.toArray (fun W => ∃ d : BW w.heap.size w, W = d.w) (fun a' => ∀ W, (∃ d : BW w.heap.size w, W = d.w) → Q .normal a' W) l a) : (Code.region id l.toArray true).wpIn F n P Q a w := by
  simp only [Region.lexB, Bool.and_eq_true] at hB
  refine wpIn_region_any hm (quietR_any (C := fun W => ∃ d : BW w.heap.size w, W = d.w) (Q := fun a' => ∀ W, (∃ d : BW w.heap.size w, W = d.w) → Q .normal a' W) ?_ (fun _ w' hw' h => h w' hw') _ _ _ _ ⟨BW.of _ (below_dr (Below.refl _ w) 1), rfl⟩ ?_)
  · intro i o ho
    refine plainOp_spec (List.all_eq_true.1 hro o ?_)
    simp only [List.getElem?_toArray] at ho
    exact List.mem_of_getElem? ho
  · have := wpAnyQIn_lex (F := F) (n := n) (C := fun W => ∃ d : BW w.heap.size w, W = d.w) (md := .any) hB.1 l.toArray.toList 0 (Array.replicate l.toArray.size false) a (by simp) (by simpa using hB.2) (by simpa using h)
    simpa using this
section
variable {F : Fence} {n : Nat} {P : Program} {ops : Array Oper} {md : Region.Mode} {C : World → Prop}
/-- the first m operations in any order, each quiet in the class; then L: within a fence -/
def headI (F : Fence) (n : Nat) (P : Program) (md : Region.Mode) (ops : Array Oper) (C : World → Prop) (m : Nat) (L : Array Bool → Act → Prop) : Nat → Array Bool → Act → Prop
  | 0, listed, a => L listed a
  | f + 1, listed, a => Region.ready md ops listed ≠ [] ∧ ∀ i ∈ Region.ready md ops listed, i < m ∧ qOpIn F n P ops C i (headI F n P md ops C m L f (listed.setIfInBounds i true)) a
theorem headI_any {m g : Nat} {L : Array Bool → Act → Prop} {Q' : Exit → Act → World → Prop} (hro : ∀ (i : Nat) (o : Oper), ops[i]? = some o → ∀ c, o.op ≠ .defer c) (hL : ∀ listed a w, C w → L listed a → wpAnyIn F n P md ops Q' g listed a w) :
    ∀ (f : Nat) (listed : Array Bool) (a : Act) (w : World), C w → headI F n P md ops C m L f listed a → wpAnyIn F n P md ops Q' (f + g) listed a w
  | 0, listed, a, w, hw, h => by rw [Nat.zero_add]; exact hL _ _ _ hw h
  | f + 1, listed, a, w, hw, h => by
    rw [Nat.add_right_comm]
    exact ⟨fun h0 => absurd h0 h.1, fun i hi => quietR_at hro hw (fun a' w' hw' h' => headI_any hro hL f _ a' w' hw' h') (h.2 i hi).2⟩
theorem headI_first {m i : Nat} {oi : Oper} {v : Value} {L : Array Bool → Act → Prop} (hi : ops[i]? = some oi) (hsel : ∀ (j : Nat) (o : Oper) cs b, ops[j]? = some o → o.op ≠ .select cs b)
    (hs : Region.sinkB md ops m = true) (hc : Region.chainB md ops m = true) (hn : m < ops.size) (hin : i < m) (hdone : ∀ listed a, L listed a → ∀ j ∈ Region.ready md ops listed, m ≤ j) :
    ∀ (f : Nat) (listed : Array Bool) (a : Act), HeadInv md ops m listed →
      (∀ j oj, ops[j]? = some oj → j ≠ i → listed.getD j true = false → (∀ e ∈ oj.after, Region.binds md e = true → e.on ≠ i) → oi.apart ops oj = true) →
      i ∈ Region.ready md ops listed → YieldsQuiet F n P ops C oi v a → headI F n P md ops C m L f (listed.setIfInBounds i true) (a.put oi.dst v) → headI F n P md ops C m L (f + 1) listed a := by
  intro f
  induction f with
  | zero =>
    intro listed a inv _ hr hy H
    refine ⟨List.ne_nil_of_mem hr, fun j hj => ?_⟩
    have hjn : j < m := Nat.lt_of_not_le fun h => tail_waits hs hc hn inv _ i rfl hin (mem_ready.1 hr).1 j h hj
    by_cases hji : j = i
    · subst hji; exact ⟨hjn, hy.qOpIn hi H⟩
    · exact absurd (hdone _ _ H j (ready_mono hj hji)) (by omega)
  | succ f ih =>
    intro listed a inv hfree hr hy H
    have hun := (mem_ready.1 hr).1
    refine ⟨List.ne_nil_of_mem hr, fun j hj => ?_⟩
    have hjn : j < m := Nat.lt_of_not_le fun h => tail_waits hs hc hn inv _ i rfl hin hun j h hj
    refine ⟨hjn, ?_⟩
    by_cases hji : j = i
    · subst hji; exact hy.qOpIn hi H
    · have h1 := (H.2 j (ready_mono hj hji)).2
      obtain ⟨hjun, oj, hoj, hall⟩ := mem_ready.1 hj
      have hnot : ∀ e ∈ oj.after, Region.binds md e = true → e.on ≠ i := fun e he hb heq => by
        have h3 := hall e he hb
        rw [heq, getD_both hun] at h3
        cases h3
      have h2 := qOpIn_put hoj (hfree j oj hoj hji hjun hnot) (fun cs b => hsel i oi cs b hi) (fun cs b => hsel j oj cs b hoj) hy h1
      refine qOpIn_mono (fun a' h3 => ih (listed.setIfInBounds j true) a' (inv.set hj hjn) (fun k ok hk hki hu hno => ?_) (ready_mono hr (Ne.symm hji)) h3.1 ?_) h2
      · by_cases hjk : j = k
        · subst hjk; exact hfree j ok hk hki hjun hno
        · rw [getD_set_ne true hjk] at hu; exact hfree k ok hk hki hu hno
      · rw [Array.setIfInBounds_comm _ _ hji]; exact h3.2
theorem headI_lex {m g : Nat} {Lq : Act → Prop} (hsel : Region.noSelect ops = true) (hs : Region.sinkB md ops m = true) (hc : Region.chainB md ops m = true) (hn : m < ops.size) :
    ∀ (l : List Oper) (k : Nat) (listed : Array Bool) (a : Act), (∀ j, j < l.length → l[j]? = ops[k + j]?) → k + l.length = m → HeadInv md ops m listed →
    Region.lexHead md ops g l.length k listed = true → wpQuietIn F n P ops C Lq l a → headI F n P md ops C m (fun listed' a' => Region.seqB md ops g m listed' = true ∧ Lq a') l.length listed a
  | [], k, listed, a, _, hk, _, hB, h => by
    obtain rfl : k = m := by simpa using hk
    exact ⟨by simpa [Region.lexHead] using hB, h⟩
  | o :: l, k, listed, a, hl, hk, inv, hB, h => by
    have h0 : ops[k]? = some o := by simpa using (hl 0 (by simp)).symm
    simp only [List.length_cons, Region.lexHead, Bool.and_eq_true] at hB
    have hkn : k < m := by simp only [List.length_cons] at hk; omega
    have hr : k ∈ Region.ready md ops listed := by simpa using hB.1.1
    have hst : qOpIn F n P ops C k (wpQuietIn F n P ops C Lq l) a := by unfold qOpIn; simp only [h0]; exact h
    obtain ⟨v, hy, hK⟩ := yieldsQuiet_of_qOpIn h0 hst
    exact headI_first h0 (Region.noSelect_spec hsel) hs hc hn hkn (fun listed' a' hL => seqB_ready hL.1) l.length listed a inv (Region.free_spec h0 hB.1.2) hr hy
      (headI_lex hsel hs hc hn l (k + 1) _ _ (fun j hj => by have := hl (j + 1) (by simp; omega); simpa [Nat.add_assoc, Nat.add_comm 1 j] using this) (by simp only [List.length_cons] at hk; omega) (inv.set hr hkn) hB.2 hK)
theorem seqI_any {Q' : Exit → Act → World → Prop} : ∀ (l : List Oper) (k : Nat) (listed : Array Bool) (a : Act) (w : World), (∀ j, l[j]? = ops[k + j]?) →
    Region.seqB md ops l.length k listed = true → wpListIn F n P ops Q' l a w → wpAnyIn F n P md ops Q' l.length listed a w
  | [], _, _, _, _, _, hB, h => ⟨by simpa [Region.seqB] using hB, h⟩
  | o :: l, k, listed, a, w, hl, hB, h => by
    have h0 : ops[k]? = some o := by simpa using (hl 0).symm
    simp only [List.length_cons, Region.seqB, Bool.and_eq_true, decide_eq_true_eq] at hB
    refine ⟨fun h1 => (by rw [hB.1] at h1; cases h1), fun i hi => ?_⟩
    rw [hB.1] at hi
    have hik : i = k := by simpa using hi
    subst hik
    have hw : wpOpIn F n P ops Q' i (wpListIn F n P ops Q' l) a w := by unfold wpOpIn; simp only [h0]; exact h
    exact wpOpIn_mono (fun a' w' h' => seqI_any l (i + 1) _ a' w' (fun j => by have := hl (j + 1); simpa [Nat.add_assoc, Nat.add_comm 1 j] using this) hB.2 h') hw
end
/-- within a fence, in a round or not: quiet first, then a tail -/
theorem wpIn_region_bw_tail {F : Fence} {n : Nat} {P : Program} {id : Nat} {Q : Exit → Act → World → Prop} {a : Act} {w : World} {l : List Oper} (m : Nat) (hro : l.all plainOp = true) (hm : P.follows .mixedOrders = true) (hB : Region.lexTailB .any l.toArray m = true)
    (h : wpQuietIn F n P l.toArray (fun W => ∃ d : BW w.heap.size w, W = d.w) (fun a' => ∀ W, (∃ d : BW w.heap.size w, W = d.w) → wpListIn F n P l.toArray Q (l.drop m) a' W) (l.take m) a) : (Code.region id l.toArray true).wpIn F n P Q a w := by
  simp only [Region.lexTailB, Bool.and_eq_true, decide_eq_true_eq] at hB
  obtain ⟨⟨⟨⟨hsel, hn⟩, hs⟩, hc⟩, hlex⟩ := hB
  have hn' : m < l.length := by simpa using hn
  have htl : (l.take m).length = m := by simp; omega
  have hdl : (l.drop m).length = l.toArray.size - m := by simp
  have inv0 : HeadInv .any l.toArray m (Array.replicate l.toArray.size false) :=
    ⟨by simp, fun j oj _ hl => (by rw [getD_replicate_false] at hl; cases hl), fun t _ ht => getD_in (by simpa using ht) (getD_replicate_false _ _)⟩
  have H := headI_lex (md := .any) (g := l.toArray.size - m) hsel hs hc hn (l.take m) 0 _ a (fun j hj => by
    have hj' : j < m := by rw [htl] at hj; exact hj
    simp [hj']) (by simpa using htl) inv0 (by rw [htl]; exact hlex) h
  refine wpIn_region_any hm ?_
  have hro' : ∀ (i : Nat) (o : Oper), l.toArray[i]? = some o → ∀ c, o.op ≠ .defer c := fun i o ho => by
    refine plainOp_spec (List.all_eq_true.1 hro o ?_)
    simp only [List.getElem?_toArray] at ho
    exact List.mem_of_getElem? ho
  have := headI_any (Q' := Q) (g := l.toArray.size - m) hro' (fun listed a' w' hw' hL => by
    rw [← hdl]
    exact seqI_any (l.drop m) m listed a' w' (fun j => by simp) (by rw [hdl]; exact hL.1) (hL.2 w' hw')) (l.take m).length _ a _ ⟨BW.of _ (below_dr (Below.refl _ w) 1), rfl⟩ H
  rw [htl, show m + (l.toArray.size - m) = l.toArray.size by omega] at this
  exact this
theorem below_kf {B : Nat} {W W' : World} (h : Below W.heap.size W W') : KeepsFrom B W W' := ⟨h.size, fun k o _ hk _ => (h.block k (Array.getElem?_eq_some_iff.1 hk).1).trans hk⟩
theorem boxed_below {W W' : World} {b : Nat} {t : TypeId} {v : Value} (h : Boxed W b t v) (hB : Below W.heap.size W W') : Boxed W' b t v := (hB.block b h.lt).trans h
theorem ownFrom_ag {β : Type} {B : Nat} {ex : Nat → Prop} {w : World} (hB : w.heap.size ≤ B) : OwnFrom B (fun (_ : β) W => Ag ex w W) := fun _ X Y row hs hg hr =>
  ⟨hg.os.trans hs.os, hg.tape.trans hs.tape, hg.output.trans hs.output, Nat.le_trans hs.size hg.size, fun k hk hn => (hg.block k (Nat.lt_of_lt_of_le hk hs.size) (fun e => by have := (hr k e.symm).1; omega)).trans (hs.block k hk hn)⟩
/-- the first neighbour to which an edge of the hue leads -/
def withF (g : List Nat) (col : Nat × Nat → Option Nat) (v hue : Nat) : Option Nat := (els (g[v]?.getD 0)).find? (fun y => decide (col (ed v y) = some hue))
def withV (o : Option Nat) : Int := match o with | some y => y | none => -1
set_option maxRecDepth 100000 in
set_option maxHeartbeats 1000000 in
theorem with_in (p G M n v hue : Nat) (a : Option Addr) (cap len : Nat) (g : List Nat) (us : Nat → Nat) (col : Nat × Nat → Option Nat) (w : World) (hT : Tab w) (hg : GraphAt w G n a cap len g) (hsm : ∀ i : Nat, Sm (g[i]?.getD 0)) (hP : PaintAt w p G M us col) (hv : v < 16) :
    CallsIn Fence.wide 6 Tryd.prog 101 #[.pointer (some ⟨p, 0, none⟩), .int .i64 (v : Int), .int .i64 (hue : Int)] w fun e w' => e = .returned (.int .i64 (withV (withF g col v hue))) ∧ Below w.heap.size w w' := by
  obtain ⟨c0, c1, cu, cf⟩ := hP.cells
  have hp := hP.lt
  have hGlt := hg.lt
  have hs := hsm v
  have hnx := hg.next v hv
  obtain ⟨s, hse⟩ : ∃ s, Hid (s = g[v]?.getD 0) := ⟨_, rfl⟩
  rw [← hse.out] at hs hnx
  have HP := Lib.hid hP
  have HG := Lib.hid hg
  have HT := Lib.hid hT
  clear hg hsm hT cu cf hP
  refine callsIn_of_wp_marks Tryd.func101 rfl trivial ?_ rfl
  simp only [Tryd.ntmps101, List.size_toArray, List.length_cons, List.length_nil, Nat.reduceAdd, Nat.reduceSub, Array.replicate_succ, Array.replicate_zero, List.push_toArray, List.append_toArray, List.nil_append, List.cons_append]
  gi_wp2
  have k0 := (((boxed_at (W := w) (B := w.heap.size) (t := 112) (v := .pointer (some ⟨p, 0, none⟩)) rfl).alloc (.cells #[.int .i64 (v : Int)] 3)).alloc (.cells #[.int .i64 (hue : Int)] 3)).alloc (.cells #[.int .i64 0] 3)
  have k1 := ((boxed_at (W := w.alloc (.cells #[.pointer (some ⟨p, 0, none⟩)] 112)) (B := w.heap.size + 1) (t := 3) (v := .int .i64 (v : Int)) (by simp)).alloc (.cells #[.int .i64 (hue : Int)] 3)).alloc (.cells #[.int .i64 0] 3)
  have k2 := (boxed_at (W := (w.alloc (.cells #[.pointer (some ⟨p, 0, none⟩)] 112)).alloc (.cells #[.int .i64 (v : Int)] 3)) (B := w.heap.size + 1 + 1) (t := 3) (v := .int .i64 (hue : Int)) (by simp)).alloc (.cells #[.int .i64 0] 3)
  have k3 := boxed_at (W := ((w.alloc (.cells #[.pointer (some ⟨p, 0, none⟩)] 112)).alloc (.cells #[.int .i64 (v : Int)] 3)).alloc (.cells #[.int .i64 (hue : Int)] 3)) (B := w.heap.size + 1 + 1 + 1) (t := 3) (v := .int .i64 0) (by simp)
  have hBV : Below w.heap.size w ((((w.alloc (.cells #[.pointer (some ⟨p, 0, none⟩)] 112)).alloc (.cells #[.int .i64 (v : Int)] 3)).alloc (.cells #[.int .i64 (hue : Int)] 3)).alloc (.cells #[.int .i64 0] 3)) := ((((Below.refl _ w).alloc (Nat.le_refl _) _).alloc (by simp) _).alloc (by simp; omega) _).alloc (by simp; omega) _
  obtain ⟨b, hb⟩ : ∃ b, Hid (b = w.heap.size) := ⟨_, rfl⟩
  rw [← hb.out] at k0 k1 k2 k3 ⊢
  generalize ((((w.alloc (.cells #[.pointer (some ⟨p, 0, none⟩)] 112)).alloc (.cells #[.int .i64 (v : Int)] 3)).alloc (.cells #[.int .i64 (hue : Int)] 3)).alloc (.cells #[.int .i64 0] 3)) = V at *
  have HBV := Lib.hid hBV
  have r0 : ∀ d : BW V.heap.size V, d.w.cell? ⟨b, 0, none⟩ = some (.pointer (some ⟨p, 0, none⟩)) := fun d => d.cell k0.lt k0.cell
  have r1 : ∀ d : BW V.heap.size V, d.w.cell? ⟨p, 0, none⟩ = some (.pointer (some ⟨G, 0, none⟩)) := fun d => d.cell (Nat.lt_of_lt_of_le hp hBV.size) ((hBV.cell (p := ⟨p, 0, none⟩) hp).trans c0)
  have r2 : ∀ d : BW V.heap.size V, d.w.cell? ⟨b + 1, 0, none⟩ = some (.int .i64 (v : Int)) := fun d => d.cell k1.lt k1.cell
  clear hBV c0 c1
  refine wpIn_region_bw_tail 5 (by kernel_rfl) (by kernel_rfl) (by kernel_rfl) ?_
  simp only [List.take_succ_cons, List.take_zero, List.drop_succ_cons, List.drop_zero]
  repeat (gi_big_quiet_step ((rfl)))
  refine wpQuietIn_nil ?_
  rintro _ ⟨d, rfl⟩
  clear r0 r1 r2
  gi_wp2_with (gi_at_call 85; go_must (refine (callsIn_wide.2 (at_in G v _)).mono ?_); rintro e w' ⟨rfl, rfl⟩)
  have hBU : Below V.heap.size V ((d.w.alloc (.cells #[.pointer (some ⟨G, 0, none⟩)] 79)).alloc (.cells #[.int .i64 (v : Int)] 3)) := (d.b.alloc d.b.size _).alloc (by have := d.b.size; simp; omega) _
  have hBU' := HBV.out.trans (hBU.mono HBV.out.size)
  have k4 := (boxed_at (W := d.w) (B := d.w.heap.size) (t := 79) (v := .pointer (some ⟨G, 0, none⟩)) rfl).alloc (.cells #[.int .i64 (v : Int)] 3)
  have k5 := boxed_at (W := d.w.alloc (.cells #[.pointer (some ⟨G, 0, none⟩)] 79)) (B := d.w.heap.size + 1) (t := 3) (v := .int .i64 (v : Int)) (by simp)
  have hszV := d.b.size
  have hszU : ((d.w.alloc (.cells #[.pointer (some ⟨G, 0, none⟩)] 79)).alloc (.cells #[.int .i64 (v : Int)] 3)).heap.size = d.w.heap.size + 2 := by simp
  generalize hde : d.w.heap.size = ds at *
  have HDE := Lib.hid hde
  clear hde
  generalize ((d.w.alloc (.cells #[.pointer (some ⟨G, 0, none⟩)] 79)).alloc (.cells #[.int .i64 (v : Int)] 3)) = U at *
  have HSU := Lib.hid hszU
  clear hszU
  have k3U := boxed_below k3 hBU
  have hbU := k3U.lt
  refine rf_setsG (by decide) (gf := 98) (lb := #[.pointer (some ⟨ds, 0, none⟩), .pointer (some ⟨ds + 1, 0, none⟩)]) rfl (enters_of Tryd.func98 (by kernel_rfl) rfl)
    (at_stops 5 (by decide) ds (ds + 1) G v s hv hs U (HT.out.below hBU' (Nat.le_refl _)) k4.lt k5.lt (Nat.lt_of_lt_of_le hGlt hBU'.size) k4.cell k5.cell ((hBU'.cell (p := ⟨G, 2 + v, none⟩) hGlt).trans hnx)) keepsTab_t (keepsTab_b (by omega)) (fun W => KeepsTab.refl W) (by simp)
    (fun pre W => Below U.heap.size U W ∧ ∀ y ∈ pre, col (ed v y.1) ≠ some hue)
    (fun c pre W => (c = .ret ∧ ∃ p' x, pre = p' ++ [x] ∧ (∀ y ∈ p', col (ed v y.1) ≠ some hue) ∧ col (ed v x.1) = some hue ∧ Boxed W (b + 1 + 1 + 1) 3 (.int .i64 (x.1 : Int))) ∧ Ag (fun k => k = b + 1 + 1 + 1) U W)
    ?hI ?hIx ?h0 ?body ?done ?stop
  case hI => exact OwnFrom.and (ownFrom_below (Nat.le_refl _) (Nat.le_refl _)) (ownFrom_pure _ _)
  case hIx =>
    intro c
    exact OwnFrom.and (fun s A B row hs hg hr => by
      obtain ⟨e, p', x, e1, e2, e3, e4⟩ := hs
      exact ⟨e, p', x, e1, e2, e3, (Own.from (boxed_own (b + 1 + 1 + 1) 3 (fun _ : Unit => Value.int .i64 ((x.1 : Nat) : Int))) _) () A B row e4 hg hr⟩) (ownFrom_ag (Nat.le_refl _))
  case h0 => exact ⟨Below.refl _ _, fun y hy => by cases hy⟩
  case body =>
    rintro l pre x W ⟨hB, hno⟩ _
    simp only [List.setIfInBounds_toArray, List.set_cons_zero, List.set_cons_succ]
    have HNO := Lib.hid hno
    have hBW := hBU'.trans (hB.mono hBU'.size)
    have hBV := hBU.trans (hB.mono hBU.size)
    have k0W := boxed_below k0 hBV
    have k1W := boxed_below k1 hBV
    have k2W := boxed_below k2 hBV
    have k3W := boxed_below k3 hBV
    have hPW := HP.out.below hBW
    obtain ⟨_, c1, _, _⟩ := hPW.cells
    have r0 : ∀ d : BW W.heap.size W, d.w.cell? ⟨b, 0, none⟩ = some (.pointer (some ⟨p, 0, none⟩)) := fun d => d.cell k0W.lt k0W.cell
    have r1 : ∀ d : BW W.heap.size W, d.w.cell? ⟨p, 1, none⟩ = some (.map (some M)) := fun d => d.cell hPW.lt c1
    have r2 : ∀ d : BW W.heap.size W, d.w.cell? ⟨b + 1, 0, none⟩ = some (.int .i64 (v : Int)) := fun d => d.cell k1W.lt k1W.cell
    have HE : Hid (∀ d : BW W.heap.size W, Calls Tryd.prog 96 #[.int .i64 (v : Int), .int .i64 (x.1 : Int)] d.w fun e w' => e = .returned (ekv (ed v x.1)) ∧ ∃ d' : BW W.heap.size W, w' = d'.w) := fun d => Calls.bw ((edgeOf_any v x.1 d.w).mono fun e w' ⟨h1, h2⟩ => ⟨h1, d.b.trans (h2.mono d.b.size)⟩)
    obtain ⟨hv2, ok, hcase, HL⟩ : ∃ (hv2 : Nat) (ok : Bool), Hid ((ok = false ∧ col (ed v x.1) = none) ∨ (ok = true ∧ col (ed v x.1) = some hv2)) ∧ ∀ d : BW W.heap.size W, (Instr.lookup 114 (.map (some M)) (ekv (ed v x.1)) true).run Tryd.prog d.w = .ok (.tuple #[.int .i64 (hv2 : Int), .bool ok]) d.w := by
      have hl := fun d : BW W.heap.size W => look_f edgeKind true (ed v x.1) d.w M col (hPW.map.below d.b hPW.map.lt)
      cases hc : col (ed v x.1) with
      | none => exact ⟨0, false, Lib.hid (.inl ⟨rfl, rfl⟩), fun d => by have := hl d; rw [hc] at this; exact this⟩
      | some h => exact ⟨h, true, Lib.hid (.inr ⟨rfl, rfl⟩), fun d => by have := hl d; rw [hc] at this; exact this⟩
    have HBd := Lib.hid hB
    have HK3 := Lib.hid k3W
    have HK2 := Lib.hid k2W
    clear c1 hno hB hBW hBV k0W k1W k2W k3W hPW
    gi_wp2
    refine quietR_bw (by kernel_rfl) (by kernel_rfl) (by kernel_rfl) ?_
    repeat (gi_big_quiet_step ((first
      | rfl
      | (gi_at_call 96; exact CallsIn.inRound l (callsIn_wide.2 (HE.out _))))))
    refine wpQuietIn_nil ?_
    rintro _ ⟨d2, rfl⟩
    clear r0 r1 r2 HE HL
    have k2d := boxed_below HK2.out d2.b
    have k3d := boxed_below HK3.out d2.b
    have hBd2 := Lib.hid d2.b
    have c2 := k2d.cell
    have c3 := k3d.cell
    have f3 := k3d.frozen
    have HK3d := Lib.hid k3d
    clear k2d k3d
    generalize d2.w = X at *
    cases ok
    · have hn : Hid (col (ed v x.1) ≠ some hue) := by
        unfold Hid
        rcases hcase.out with ⟨_, h⟩ | ⟨h, _⟩
        · rw [h]; simp
        · cases h
      gi_wp2
      exact ⟨below_kf hBd2.out, fun h => h.below hBd2.out (Nat.le_refl _), HBd.out.trans (hBd2.out.mono HBd.out.size), fun y hy => by
        rcases List.mem_append.1 hy with hy | hy
        · exact HNO.out y hy
        · simp at hy; subst hy; exact hn.out⟩
    · by_cases heq : hv2 = hue
      · have hn : Hid (col (ed v x.1) = some hue) := by
          unfold Hid
          rcases hcase.out with ⟨h, _⟩ | ⟨_, h⟩
          · cases h
          · rw [h, heq]
        have he1 : (((hv2 : Nat) : Int) == (hue : Int)) = true := by rw [heq]; simp
        clear heq
        gi_wp2
        have hag : Ag (fun k => k = b + 1 + 1 + 1) W (X.setCell ⟨b + 1 + 1 + 1, 0, none⟩ (.int .i64 (x.1 : Int))) := (Ag.of_below hBd2.out).set _ _ (.inr rfl)
        exact ⟨KeepsFrom.of_ag hag (fun k o hk _ _ e => by omega), ⟨rfl, pre, x, rfl, HNO.out, hn.out, Boxed.set _ HK3d.out⟩, (Ag.of_below HBd.out).trans hag⟩
      · have hn : Hid (col (ed v x.1) ≠ some hue) := by
          unfold Hid
          rcases hcase.out with ⟨h, _⟩ | ⟨_, h⟩
          · cases h
          · rw [h]; intro e; exact heq (Option.some.inj e)
        have he1 : (((hv2 : Nat) : Int) == (hue : Int)) = false := by rw [beq_eq_false_iff_ne]; omega
        clear heq
        gi_wp2
        exact ⟨below_kf hBd2.out, fun h => h.below hBd2.out (Nat.le_refl _), HBd.out.trans (hBd2.out.mono HBd.out.size), fun y hy => by
          rcases List.mem_append.1 hy with hy | hy
          · exact HNO.out y hy
          · simp at hy; subst hy; exact hn.out⟩
  case done =>
    rintro D ys W hD rfl ⟨hB, hno⟩ hK
    have k3W := boxed_below k3U hB
    have c3 := k3W.cell
    have f3 := k3W.frozen
    gi_wp2
    have hb3 : w.heap.size = b := hb.out.symm
    have hbd : b + 1 + 1 + 1 < D := by omega
    have hK2 := (KeepsOthers.setCell W ⟨b + 1 + 1 + 1, 0, none⟩ (.int .i64 (-1))).same D _ hK rfl
    refine ⟨by simp, .inl ⟨_, _, rfl, run_takeDeferred hK2, ?_⟩⟩
    have bF := ((Boxed.set (.int .i64 (-1)) k3W).kept (grownBy_putObj' _ D (.deferred none)) (by simp; omega))
    have cF := bF.cell
    have hall : withF g col v hue = none := by
      unfold withF
      rw [List.find?_eq_none, ← hse.out]
      intro y hy
      have := hno _ (List.mem_map.2 ⟨y, hy, rfl⟩)
      rw [toS_val (sm_of (by have := bit_lt20 hs ((mem_els hs).1 hy); omega))] at this
      simpa using this
    refine ⟨.int .i64 (-1), by simp [results, Tryd.f101, go_sem, cF], ret_int (by rw [hall]; rfl), ((hBU'.trans (hB.mono hBU'.size)).setCell (p := ⟨b + 1 + 1 + 1, 0, none⟩) (by show w.heap.size ≤ b + 1 + 1 + 1; omega) _).trans (belowK_b (w := w) (Nat.le_refl _) _ D _ _ (by omega) hK2 rfl rfl)⟩
  case stop =>
    rintro D c pre W hD ⟨r, hr⟩ ⟨⟨rfl, p', x, rfl, hp', hx, hbx⟩, hag⟩ hK
    gi_wp2
    have hb3 : w.heap.size = b := hb.out.symm
    have hbd : b + 1 + 1 + 1 < D := by omega
    refine ⟨by simp, .inl ⟨_, _, rfl, run_takeDeferred hK, ?_⟩⟩
    have bF := (hbx.kept (grownBy_putObj' _ D (.deferred none)) (by simp; omega))
    have cF := bF.cell
    have hfind : withF g col v hue = some x.1 := by
      unfold withF
      rw [← hse.out]
      have he : els s = p'.map (fun y => y.1) ++ x.1 :: r.map (fun y => y.1) := by
        have := congrArg (List.map (fun y : S20 => y.1)) hr
        rw [List.map_map] at this
        have hid : (els s).map ((fun y : S20 => y.1) ∘ toS) = els s := by
          refine (List.map_congr_left fun t ht => ?_).trans (List.map_id _)
          exact toS_val (sm_of (by have := bit_lt20 hs ((mem_els hs).1 ht); omega))
        rw [hid] at this
        rw [this]; simp
      rw [he, List.find?_append, List.find?_eq_none.2 (fun t ht => by obtain ⟨y, hy, rfl⟩ := List.mem_map.1 ht; simpa using hp' y hy)]
      simp [hx]
    have hBf : Below w.heap.size w W := ⟨hag.os.trans hBU'.os, hag.tape.trans hBU'.tape, hag.output.trans hBU'.output, Nat.le_trans hBU'.size hag.size, fun k hk => (hag.block k (Nat.lt_of_lt_of_le hk hBU'.size) (by omega)).trans (hBU'.block k hk)⟩
    refine ⟨.int .i64 ((x.1 : Nat) : Int), by simp [results, Tryd.f101, go_sem, cF], ret_int (by rw [hfind]; rfl), hBf.trans (belowK_b (w := w) (Nat.le_refl _) _ D _ _ (by omega) hK rfl rfl)⟩
end Go.Proofs.YtpknnjcbcndbbaaDoor
namespace Go.Proofs.YtpknnjcbcndbbaaDoor
open Go.RowKit

theorem ed_comm (v x : Nat) : ed v x = ed x v := by unfold ed; rw [Nat.min_comm, Nat.max_comm]
theorem ed_inj {v x y : Nat} (h : ed v x = ed v y) : x = y := by
  unfold ed at h
  have h1 := congrArg Prod.fst h
  have h2 := congrArg Prod.snd h
  simp only at h1 h2
  omega
theorem ed_eq {v x a b : Nat} (h : ed v x = ed a b) : (v = a ∧ x = b) ∨ (v = b ∧ x = a) := by
  unfold ed at h
  have h1 := congrArg Prod.fst h
  have h2 := congrArg Prod.snd h
  simp only at h1 h2
  omega
def adj (g : List Nat) (v x : Nat) : Prop := (g[v]?.getD 0).testBit x = true
/-- hues under way: of edges alone, each at a vertex once, none beyond 63; the bits say which hues a vertex has -/
structure HInv (g : List Nat) (us : Nat → Nat) (col : Nat × Nat → Option Nat) : Prop where
  edge : ∀ v x h, col (ed v x) = some h → v ≠ x ∧ v < 16 ∧ x < 16 ∧ adj g v x ∧ h < 64
  key : ∀ e h, col e = some h → ∃ v x, e = ed v x
  inj : ∀ v x y h, col (ed v x) = some h → col (ed v y) = some h → x = y
  used : ∀ v h, v < 16 → h < 64 → ((us v).testBit h = true ↔ ∃ x, col (ed v x) = some h)
theorem HInv.free {g : List Nat} {us : Nat → Nat} {col : Nat × Nat → Option Nat} (H : HInv g us col) {v h : Nat} (hv : v < 16) (hh : h < 64) : (us v).testBit h = false ↔ ∀ x, col (ed v x) ≠ some h := by
  have := H.used v h hv hh
  constructor
  · intro h1 x hx
    rw [this.2 ⟨x, hx⟩] at h1; cases h1
  · intro h1
    cases e : (us v).testBit h with
    | false => rfl
    | true => obtain ⟨x, hx⟩ := this.1 e; exact absurd hx (h1 x)
theorem bit_or_pow (a h j : Nat) : (a ||| 2 ^ h).testBit j = (a.testBit j || decide (h = j)) := by rw [Nat.testBit_or, Nat.testBit_two_pow]
theorem bit_ldiff_pow (a h j : Nat) : (ldiff a (2 ^ h)).testBit j = (a.testBit j && !decide (h = j)) := by rw [testBit_ldiff, Nat.testBit_two_pow]
theorem HInv.put {g : List Nat} {us : Nat → Nat} {col : Nat × Nat → Option Nat} (H : HInv g us col) {v x h : Nat} (hv : v < 16) (hx : x < 16) (hvx : v ≠ x) (ha : adj g v x) (ha' : adj g x v) (hh : h < 64) (hno : col (ed v x) = none) (fv : ∀ y, col (ed v y) ≠ some h) (fx : ∀ y, col (ed x y) ≠ some h) :
    HInv g (fun y => if y = v ∨ y = x then us y ||| 2 ^ h else us y) (setF col (ed v x) (some h)) := by
  have key : ∀ a b k, setF col (ed v x) (some h) (ed a b) = some k ↔ ((ed a b = ed v x ∧ k = h) ∨ (ed a b ≠ ed v x ∧ col (ed a b) = some k)) := fun a b k => by
    unfold setF
    by_cases e : ed a b = ed v x
    · simp [e, eq_comm]
    · simp [e]
  refine ⟨fun a b k hk => ?_, fun e k hk => ?_, fun a b c k hb hc => ?_, fun a k ha16 hk64 => ?_⟩
  · rcases (key a b k).1 hk with ⟨e, rfl⟩ | ⟨_, hk⟩
    · rcases ed_eq e with ⟨rfl, rfl⟩ | ⟨rfl, rfl⟩
      · exact ⟨hvx, hv, hx, ha, hh⟩
      · exact ⟨Ne.symm hvx, hx, hv, ha', hh⟩
    · exact H.edge a b k hk
  · unfold setF at hk
    by_cases e' : e = ed v x
    · exact ⟨v, x, e'⟩
    · rw [if_neg e'] at hk; exact H.key e k hk
  · rcases (key a b k).1 hb with ⟨e, rfl⟩ | ⟨e, hb2⟩
    · rcases (key a c k).1 hc with ⟨e', _⟩ | ⟨e', hc2⟩
      · exact ed_inj (e.trans e'.symm)
      · rcases ed_eq e with ⟨rfl, rfl⟩ | ⟨rfl, rfl⟩
        · exact absurd hc2 (fv c)
        · exact absurd hc2 (fx c)
    · rcases (key a c k).1 hc with ⟨e', rfl⟩ | ⟨e', hc2⟩
      · rcases ed_eq e' with ⟨rfl, rfl⟩ | ⟨rfl, rfl⟩
        · exact absurd hb2 (fv b)
        · exact absurd hb2 (fx b)
      · exact H.inj a b c k hb2 hc2
  · have hu := H.used a k ha16 hk64
    by_cases hav : a = v ∨ a = x
    · simp only [hav, if_true]
      rw [bit_or_pow, Bool.or_eq_true, hu, decide_eq_true_iff]
      constructor
      · rintro (⟨y, hy⟩ | rfl)
        · refine ⟨y, (key a y k).2 (.inr ⟨fun e => ?_, hy⟩)⟩
          rw [e, hno] at hy; cases hy
        · rcases hav with rfl | rfl
          · exact ⟨x, (key _ _ _).2 (.inl ⟨rfl, rfl⟩)⟩
          · exact ⟨v, (key _ _ _).2 (.inl ⟨ed_comm _ _, rfl⟩)⟩
      · rintro ⟨y, hy⟩
        rcases (key a y k).1 hy with ⟨_, rfl⟩ | ⟨_, hy⟩
        · exact .inr rfl
        · exact .inl ⟨y, hy⟩
    · simp only [hav, if_false]
      rw [hu]
      have hne : ∀ y, ed a y ≠ ed v x := fun y e => by
        rcases ed_eq e with ⟨rfl, _⟩ | ⟨rfl, _⟩
        · exact hav (.inl rfl)
        · exact hav (.inr rfl)
      exact exists_congr fun y => by rw [key]; simp [hne y]
theorem HInv.take {g : List Nat} {us : Nat → Nat} {col : Nat × Nat → Option Nat} (H : HInv g us col) {v x h : Nat} (hc : col (ed v x) = some h) :
    HInv g (fun y => if y = v ∨ y = x then ldiff (us y) (2 ^ h) else us y) (setF col (ed v x) none) := by
  have key : ∀ a b k, setF col (ed v x) none (ed a b) = some k ↔ (ed a b ≠ ed v x ∧ col (ed a b) = some k) := fun a b k => by
    unfold setF
    by_cases e : ed a b = ed v x
    · simp [e]
    · simp [e]
  refine ⟨fun a b k hk => H.edge a b k ((key a b k).1 hk).2, fun e k hk => ?_, fun a b c k hb hc' => H.inj a b c k ((key a b k).1 hb).2 ((key a c k).1 hc').2, fun a k ha16 hk64 => ?_⟩
  · unfold setF at hk
    by_cases e' : e = ed v x
    · exact ⟨v, x, e'⟩
    · rw [if_neg e'] at hk; exact H.key e k hk
  · have hu := H.used a k ha16 hk64
    by_cases hav : a = v ∨ a = x
    · simp only [hav, if_true]
      rw [bit_ldiff_pow, Bool.and_eq_true, hu]
      simp only [Bool.not_eq_true', decide_eq_false_iff_not]
      constructor
      · rintro ⟨⟨y, hy⟩, hne⟩
        refine ⟨y, (key a y k).2 ⟨fun e => ?_, hy⟩⟩
        rw [e, hc] at hy
        exact hne (Option.some.inj hy)
      · rintro ⟨y, hy⟩
        obtain ⟨h1, h2⟩ := (key a y k).1 hy
        refine ⟨⟨y, h2⟩, fun e => ?_⟩
        subst e
        rcases hav with rfl | rfl
        · exact h1 (by rw [H.inj _ _ _ _ h2 hc])
        · rw [ed_comm] at hc
          exact h1 (by rw [H.inj _ _ _ _ h2 hc, ed_comm])
    · simp only [hav, if_false]
      rw [hu]
      have hne : ∀ y, ed a y ≠ ed v x := fun y e => by
        rcases ed_eq e with ⟨rfl, _⟩ | ⟨rfl, _⟩
        · exact hav (.inl rfl)
        · exact hav (.inr rfl)
      exact exists_congr fun y => by rw [key]; simp [hne y]
/-- the neighbour along a hue -/
theorem withF_some {g : List Nat} {col : Nat × Nat → Option Nat} {v hue y : Nat} (h : withF g col v hue = some y) : col (ed v y) = some hue := by
  unfold withF at h
  simpa using List.find?_some h
theorem withF_none {g : List Nat} {us : Nat → Nat} {col : Nat × Nat → Option Nat} {v : Nat} (H : HInv g us col) (hsm : Sm (g[v]?.getD 0)) {hue : Nat} (h : withF g col v hue = none) : ∀ y, col (ed v y) ≠ some hue := fun y hy => by
  unfold withF at h
  rw [List.find?_eq_none] at h
  have := h y ((mem_els hsm).2 (H.edge v y hue hy).2.2.2.1)
  simp [hy] at this
/-- the least number that is no bit -/
def fr (x : Nat) : Nat := lo (18446744073709551615 - x)
theorem bit_compl {x j : Nat} (hx : x < 18446744073709551616) (hj : j < 64) : (18446744073709551615 - x).testBit j = !x.testBit j := by
  have := Nat.testBit_two_pow_sub_succ (n := 64) (x := x) hx j
  rw [show 2 ^ 64 - (x + 1) = 18446744073709551615 - x by omega] at this
  rw [this]; simp [hj]
theorem fr_spec {x : Nat} (hx : x < 18446744073709551615) : fr x < 64 ∧ x.testBit (fr x) = false ∧ ∀ j, j < fr x → x.testBit j = true := by
  have h0 : 18446744073709551615 - x ≠ 0 := by omega
  obtain ⟨_, _, h64⟩ := lo_spec h0 (by omega)
  obtain ⟨b1, b2⟩ := lo_bit h0 (by omega)
  refine ⟨h64, ?_, fun j hj => ?_⟩
  · unfold fr
    rw [bit_compl (by omega) h64] at b1
    simpa using b1
  · have : ¬ (18446744073709551615 - x).testBit j = true := fun hc => by
      have := b2 j hc
      unfold fr at hj
      omega
    unfold fr at hj
    rw [bit_compl (by omega) (by omega)] at this
    simpa using this
theorem bxor64 (x : Nat) (hx : x < 18446744073709551616) : bits .xor .u64 (IntKind.u64.max) (x : Int) = ((18446744073709551615 - x : Nat) : Int) := by
  have hm : (BitVec.ofInt 64 (IntKind.u64.max)) = BitVec.allOnes 64 := by decide
  show IntKind.u64.wrap ((BitVec.ofInt 64 IntKind.u64.max ^^^ BitVec.ofInt 64 (x : Int)).toNat : Int) = _
  rw [hm, BitVec.allOnes_xor, BitVec.toNat_not, ofNat64 x hx, u64_same _ (by omega)]
theorem bor64n (a b : Nat) (ha : a < 18446744073709551616) (hb : b < 18446744073709551616) : bits .or .u64 (a : Int) (b : Int) = ((a ||| b : Nat) : Int) := by
  have hx : a ||| b < 18446744073709551616 := Nat.or_lt_two_pow (n := 64) ha hb
  show IntKind.u64.wrap ((BitVec.ofInt 64 (a : Int) ||| BitVec.ofInt 64 (b : Int)).toNat : Int) = _
  rw [BitVec.toNat_or, ofNat64 a ha, ofNat64 b hb, u64_same _ hx]
set_option maxHeartbeats 1000000 in
theorem free_any (b cap x : Nat) (w : World) (hT : Tab w) (hc : w.cell? ⟨b, 0, none⟩ = some (.int .u64 (x : Int))) (hx : x < 18446744073709551615) :
    Calls Tryd.prog 87 #[.slice (some ⟨b, 0, none⟩) 1 cap] w fun e w' => e = .returned (.int .i64 (fr x : Nat)) ∧ w' = w := by
  have h0 : 18446744073709551615 - x ≠ 0 := by omega
  have HTZ : Hid (Calls Tryd.prog 80 #[.int .u64 ((18446744073709551615 - x : Nat) : Int)] w fun e w' => e = .returned (.int .i64 (fr x : Nat)) ∧ w' = w) := tz64_any _ (by omega) h0 w hT
  clear hT h0
  go_enter Tryd.func87, Tryd.ntmps87
  go_wp2
  go_loopw [3, 8] (fun s3 s8 wr => ∃ k : Nat, k ≤ 1 ∧ s8 = .int .i64 k ∧ s3 = .int .u64 ((if k = 0 then 0 else x : Nat) : Int) ∧ Hid (wr = w)) (fun _ s8 _ => 1 - (intOf s8).toNat)
  case atStart => exact ⟨0, by omega, rfl, rfl, rfl⟩
  case round =>
    obtain ⟨k, hk, rfl, rfl, hw⟩ := hrel
    have hor : bits BinOp.or IntKind.u64 (0 : Int) (x : Int) = (x : Int) := by
      have := bor64n 0 x (by omega) (by omega)
      rw [Nat.zero_or] at this
      exact this
    have hxx : ((18446744073709551615 - x : Nat) : Int) = 18446744073709551615 - (x : Int) := by omega
    rw [hw.out]
    by_cases hk0 : k = 0
    · subst hk0
      have h01 : ((0 : Nat) : Int) < 1 := by decide
      simp only [if_true]
      go_wp2
      exact ⟨⟨1, by omega, rfl, by simp, Lib.hid trivial⟩, by simp [intOf]⟩
    · obtain rfl : k = 1 := by omega
      simp only [Nat.one_ne_zero, if_false]
      have hsg : IntKind.u64.signed = false := rfl
      have hxr := bxor64 x (by omega)
      clear hxx hk0
      go_wp2_with (go_at_call 80; refine (HTZ.out).mono ?_; rintro e w1 ⟨rfl, hw1⟩; subst hw1; try dsimp only)
      go_ret
      exact ⟨rfl, rfl⟩
end Go.Proofs.YtpknnjcbcndbbaaDoor
namespace Go.Proofs.YtpknnjcbcndbbaaDoor
open Go.RowKit

def nth (l : List Nat) (i : Nat) : Nat := l[i]?.getD 0
/-- the hue of the i-th edge of a way -/
def hu (a b i : Nat) : Nat := if i % 2 = 0 then a else b
theorem hu_other {a b i : Nat} : a + b - hu a b i = hu a b (i + 1) := by unfold hu; split <;> split <;> omega
theorem hu_two (a b i : Nat) : hu a b (i + 2) = hu a b i := by unfold hu; rw [show (i + 2) % 2 = i % 2 by omega]
theorem hu_ne {a b i : Nat} (h : a ≠ b) : hu a b i ≠ hu a b (i + 1) := by unfold hu; split <;> split <;> omega
theorem hu_cases (a b i : Nat) : hu a b i = a ∨ hu a b i = b := by unfold hu; split <;> simp
theorem hu_eq {a b i j : Nat} (h : a ≠ b) : hu a b i = hu a b j ↔ i % 2 = j % 2 := by unfold hu; split <;> split <;> omega
/-- a way along two hues that begins at v with the former one -/
structure KWay (col : Nat × Nat → Option Nat) (v a b : Nat) (l : List Nat) : Prop where
  pos : 0 < l.length
  first : nth l 0 = v
  step : ∀ i, i + 1 < l.length → col (ed (nth l i) (nth l (i + 1))) = some (hu a b i)
theorem KWay.one (col : Nat × Nat → Option Nat) (v a b : Nat) : KWay col v a b [v] := ⟨by simp, rfl, fun i hi => by simp at hi⟩
theorem nth_app_l {l : List Nat} {x i : Nat} (h : i < l.length) : nth (l ++ [x]) i = nth l i := by unfold nth; rw [List.getElem?_append_left h]
theorem nth_app_r (l : List Nat) (x : Nat) : nth (l ++ [x]) l.length = x := by unfold nth; simp
theorem KWay.snoc {col : Nat × Nat → Option Nat} {v a b : Nat} {l : List Nat} (h : KWay col v a b l) {x : Nat} (hx : col (ed (nth l (l.length - 1)) x) = some (hu a b (l.length - 1))) : KWay col v a b (l ++ [x]) := by
  have hp := h.pos
  refine ⟨by simp, by rw [nth_app_l hp]; exact h.first, fun i hi => ?_⟩
  simp at hi
  by_cases e : i + 1 < l.length
  · rw [nth_app_l (by omega), nth_app_l e]; exact h.step i e
  · obtain rfl : i = l.length - 1 := by omega
    rw [nth_app_l (by omega), show l.length - 1 + 1 = l.length by omega, nth_app_r]; exact hx
/-- no vertex comes twice -/
theorem KWay.ne {g : List Nat} {us : Nat → Nat} {col : Nat × Nat → Option Nat} (H : HInv g us col) {v a b : Nat} {l : List Nat} (h : KWay col v a b l) (hab : a ≠ b) (hb : ∀ y, col (ed v y) ≠ some b) : ∀ d, 1 ≤ d → ∀ i, i + d < l.length → nth l i ≠ nth l (i + d) := by
  intro d
  induction d using Nat.strongRecOn with
  | _ d ihd =>
    intro hd i
    induction i with
    | zero =>
      intro hi e
      have h1 := h.step (0 + d - 1) (by omega)
      rw [show 0 + d - 1 + 1 = 0 + d by omega, ← e, h.first, ed_comm] at h1
      by_cases hp : (0 + d - 1) % 2 = 0
      · have h2 := h.step 0 (by omega)
        rw [h.first] at h2
        have hh : hu a b (0 + d - 1) = hu a b 0 := (hu_eq hab).2 (by omega)
        rw [hh] at h1
        have h3 := H.inj _ _ _ _ h1 h2
        by_cases d1 : d = 1
        · subst d1
          have := (H.edge _ _ _ h2).1
          exact this (by rw [← e, h.first])
        · exact ihd (d - 2) (by omega) (by omega) (0 + 1) (by omega) (by rw [show 0 + 1 + (d - 2) = 0 + d - 1 by omega]; exact h3.symm)
      · have hh : hu a b (0 + d - 1) = b := by unfold hu; rw [if_neg hp]
        rw [hh] at h1
        exact hb _ h1
    | succ i ihi =>
      intro hi e
      have h1 := h.step (i + 1 + d - 1) (by omega)
      rw [show i + 1 + d - 1 + 1 = i + 1 + d by omega, ← e, ed_comm] at h1
      by_cases hp : (i + 1 + d - 1) % 2 = (i + 1) % 2
      · have h2 := h.step (i + 1) (by omega)
        have hh : hu a b (i + 1 + d - 1) = hu a b (i + 1) := (hu_eq hab).2 hp
        rw [hh] at h1
        have h3 := H.inj _ _ _ _ h1 h2
        by_cases d1 : d = 1
        · subst d1
          have := (H.edge _ _ _ h2).1
          rw [show i + 1 + 1 - 1 = i + 1 by omega] at h3
          exact this h3
        · exact ihd (d - 2) (by omega) (by omega) (i + 1 + 1) (by omega) (by rw [show i + 1 + 1 + (d - 2) = i + 1 + d - 1 by omega]; exact h3.symm)
      · have h2 := h.step i (by omega)
        rw [ed_comm] at h2
        have hh : hu a b (i + 1 + d - 1) = hu a b i := (hu_eq hab).2 (by omega)
        rw [hh] at h1
        have h3 := H.inj _ _ _ _ h1 h2
        exact ihi (by omega) (by rw [← h3]; congr 1; omega)
theorem KWay.nd {g : List Nat} {us : Nat → Nat} {col : Nat × Nat → Option Nat} (H : HInv g us col) {v a b : Nat} {l : List Nat} (h : KWay col v a b l) (hab : a ≠ b) (hb : ∀ y, col (ed v y) ≠ some b) {i j : Nat} (hi : i < l.length) (hj : j < l.length) (e : nth l i = nth l j) : i = j := by
  apply Classical.byContradiction
  intro hne
  rcases Nat.lt_or_gt_of_ne hne with hlt | hlt
  · exact h.ne H hab hb (j - i) (by omega) i (by omega) (by rw [show i + (j - i) = j by omega]; exact e)
  · exact h.ne H hab hb (i - j) (by omega) j (by omega) (by rw [show j + (i - j) = i by omega]; exact e.symm)
theorem nodup_below' : ∀ (m : Nat) (l : List Nat), l.Nodup → (∀ x ∈ l, x < m) → l.length ≤ m
  | 0, l, _, h => by
    cases l with
    | nil => exact Nat.le_refl _
    | cons x l => exact absurd (h x List.mem_cons_self) (by omega)
  | m + 1, l, hn, h => by
    by_cases hm : m ∈ l
    · have h1 := nodup_below' m (l.erase m) (hn.erase m) (fun x hx => by
        have h2 := h x (List.mem_of_mem_erase hx)
        have h3 : x ≠ m := fun e => by subst e; exact (hn.not_mem_erase) hx
        omega)
      rw [List.length_erase_of_mem hm] at h1
      omega
    · have := nodup_below' m l hn (fun x hx => by
        have h2 := h x hx
        have h3 : x ≠ m := fun e => hm (by rw [← e]; exact hx)
        omega)
      omega
theorem nth_mem {l : List Nat} {i : Nat} (h : i < l.length) : nth l i ∈ l := by unfold nth; rw [List.getElem?_eq_getElem h]; exact List.getElem_mem h
theorem mem_nth {l : List Nat} {x : Nat} (h : x ∈ l) : ∃ i, i < l.length ∧ nth l i = x := by
  obtain ⟨i, hi, e⟩ := List.getElem_of_mem h
  exact ⟨i, hi, by unfold nth; rw [List.getElem?_eq_getElem hi]; exact e⟩
theorem KWay.lt16 {g : List Nat} {us : Nat → Nat} {col : Nat × Nat → Option Nat} (H : HInv g us col) {v a b : Nat} {l : List Nat} (h : KWay col v a b l) (hv : v < 16) {i : Nat} (hi : i < l.length) : nth l i < 16 := by
  cases i with
  | zero => rw [h.first]; exact hv
  | succ i => exact (H.edge _ _ _ (h.step i hi)).2.2.1
theorem KWay.len {g : List Nat} {us : Nat → Nat} {col : Nat × Nat → Option Nat} (H : HInv g us col) {v a b : Nat} {l : List Nat} (h : KWay col v a b l) (hab : a ≠ b) (hb : ∀ y, col (ed v y) ≠ some b) (hv : v < 16) : l.length ≤ 16 := by
  refine nodup_below' 16 l ?_ (fun x hx => ?_)
  · refine List.pairwise_iff_getElem.2 fun i j hi hj hij e => ?_
    have := h.nd H hab hb (i := i) (j := j) hi hj (by unfold nth; rw [List.getElem?_eq_getElem hi, List.getElem?_eq_getElem hj]; exact e)
    omega
  · obtain ⟨i, hi, rfl⟩ := mem_nth hx
    exact h.lt16 H hv hi
/-- the i-th edge of a way -/
def pe (l : List Nat) (i : Nat) : Nat × Nat := ed (nth l i) (nth l (i + 1))
theorem KWay.pe_inj {g : List Nat} {us : Nat → Nat} {col : Nat × Nat → Option Nat} (H : HInv g us col) {v a b : Nat} {l : List Nat} (h : KWay col v a b l) (hab : a ≠ b) (hb : ∀ y, col (ed v y) ≠ some b) {i j : Nat} (hi : i + 1 < l.length) (hj : j + 1 < l.length) (e : pe l i = pe l j) : i = j := by
  rcases ed_eq e with ⟨e1, _⟩ | ⟨e1, e2⟩
  · exact h.nd H hab hb (by omega) (by omega) e1
  · have h1 := h.nd H hab hb (by omega) (by omega) e1
    have h2 := h.nd H hab hb (by omega) (by omega) e2
    omega
/-- when the first k edges of the way have lost their hues -/
def colT (col : Nat × Nat → Option Nat) (l : List Nat) : Nat → Nat × Nat → Option Nat
  | 0 => col
  | k + 1 => setF (colT col l k) (pe l k) none
theorem colT_at (col : Nat × Nat → Option Nat) (l : List Nat) (e : Nat × Nat) : ∀ k, colT col l k e = if ∃ i, i < k ∧ e = pe l i then none else col e
  | 0 => by simp [colT]
  | k + 1 => by
    unfold colT setF
    by_cases h : e = pe l k
    · rw [if_pos h, if_pos ⟨k, by omega, h⟩]
    · rw [if_neg h, colT_at col l e k]
      by_cases h2 : ∃ i, i < k ∧ e = pe l i
      · obtain ⟨i, hi, he⟩ := h2
        rw [if_pos ⟨i, hi, he⟩, if_pos ⟨i, by omega, he⟩]
      · rw [if_neg h2, if_neg]
        rintro ⟨i, hi, he⟩
        by_cases e1 : i = k
        · subst e1; exact h he
        · exact h2 ⟨i, by omega, he⟩
theorem KWay.takes {g : List Nat} {us : Nat → Nat} {col : Nat × Nat → Option Nat} (H : HInv g us col) {v a b : Nat} {l : List Nat} (h : KWay col v a b l) (hab : a ≠ b) (hb : ∀ y, col (ed v y) ≠ some b) {k : Nat} (hk : k + 1 < l.length) : colT col l k (pe l k) = some (hu a b k) := by
  rw [colT_at, if_neg]
  · exact h.step k hk
  · rintro ⟨i, hi, e⟩
    have := h.pe_inj H hab hb hk (by omega) e
    omega
/-- when, then, its first k edges have got the other hue -/
def colP (col : Nat × Nat → Option Nat) (a b : Nat) (l : List Nat) : Nat → Nat × Nat → Option Nat
  | 0 => colT col l (l.length - 1)
  | k + 1 => setF (colP col a b l k) (pe l k) (some (hu a b (k + 1)))
theorem colP_iff {g : List Nat} {us : Nat → Nat} {col : Nat × Nat → Option Nat} (H : HInv g us col) {v a b : Nat} {l : List Nat} (h : KWay col v a b l) (hab : a ≠ b) (hb : ∀ y, col (ed v y) ≠ some b) (e : Nat × Nat) (c : Nat) : ∀ k, k + 1 ≤ l.length →
    (colP col a b l k e = some c ↔ (∃ i, i < k ∧ e = pe l i ∧ c = hu a b (i + 1)) ∨ ((∀ i, i + 1 < l.length → e ≠ pe l i) ∧ col e = some c))
  | 0, _ => by
    unfold colP
    rw [colT_at]
    constructor
    · intro hh
      split at hh
      · cases hh
      · rename_i hn
        exact .inr ⟨fun i hi he => hn ⟨i, by omega, he⟩, hh⟩
    · rintro (⟨i, hi, _⟩ | ⟨h1, h2⟩)
      · omega
      · rw [if_neg]
        · exact h2
        · rintro ⟨i, hi, he⟩; exact h1 i (by omega) he
  | k + 1, hk => by
    have ih := colP_iff H h hab hb e c k (by omega)
    unfold colP setF
    by_cases he : e = pe l k
    · rw [if_pos he]
      constructor
      · intro hh; cases hh; exact .inl ⟨k, by omega, he, rfl⟩
      · rintro (⟨i, hi, h1, h2⟩ | ⟨h1, _⟩)
        · have := h.pe_inj H hab hb (i := k) (j := i) (by omega) (by omega) (he.symm.trans h1)
          subst this; rw [h2]
        · exact absurd he (h1 k (by omega))
    · rw [if_neg he, ih]
      constructor
      · rintro (⟨i, hi, h1, h2⟩ | h1)
        · exact .inl ⟨i, by omega, h1, h2⟩
        · exact .inr h1
      · rintro (⟨i, hi, h1, h2⟩ | h1)
        · refine .inl ⟨i, ?_, h1, h2⟩
          by_cases e1 : i = k
          · subst e1; exact absurd h1 he
          · omega
        · exact .inr h1
/-- the way ends where no edge of the next hue leads on -/
def KEnd (col : Nat × Nat → Option Nat) (a b : Nat) (l : List Nat) : Prop := ∀ y, col (ed (nth l (l.length - 1)) y) ≠ some (hu a b (l.length - 1))
/-- an edge of the two hues at a vertex of the way is the way's -/
theorem KWay.closed {g : List Nat} {us : Nat → Nat} {col : Nat × Nat → Option Nat} (H : HInv g us col) {v a b : Nat} {l : List Nat} (h : KWay col v a b l) (hb : ∀ y, col (ed v y) ≠ some b) (hend : KEnd col a b l) {i y c : Nat} (hi : i < l.length) (hc : c = a ∨ c = b) (hy : col (ed (nth l i) y) = some c) :
    (c = hu a b i ∧ i + 1 < l.length ∧ y = nth l (i + 1)) ∨ (0 < i ∧ c = hu a b (i - 1) ∧ y = nth l (i - 1)) := by
  have hcc : c = hu a b i ∨ c = hu a b (i + 1) := by
    unfold hu
    rcases hc with rfl | rfl <;> split <;> split <;> first | (left; rfl) | (right; rfl) | omega
  rcases hcc with rfl | rfl
  · by_cases h1 : i + 1 < l.length
    · exact .inl ⟨rfl, h1, H.inj _ _ _ _ hy (h.step i h1)⟩
    · obtain rfl : i = l.length - 1 := by omega
      exact absurd hy (hend y)
  · cases i with
    | zero =>
      rw [h.first] at hy
      exact absurd hy (hb y)
    | succ i =>
      right
      have h2 := h.step i hi
      rw [ed_comm] at h2
      have e : hu a b (i + 1 + 1) = hu a b i := hu_two a b i
      rw [e] at hy ⊢
      exact ⟨by omega, rfl, H.inj _ _ _ _ hy h2⟩
theorem KWay.puts {g : List Nat} {us : Nat → Nat} {col : Nat × Nat → Option Nat} (H : HInv g us col) {v a b : Nat} {l : List Nat} (h : KWay col v a b l) (hab : a ≠ b) (hb : ∀ y, col (ed v y) ≠ some b) (hend : KEnd col a b l) {k : Nat} (hk : k + 1 < l.length) :
    colP col a b l k (pe l k) = none ∧ (∀ y, colP col a b l k (ed (nth l k) y) ≠ some (hu a b (k + 1))) ∧ (∀ y, colP col a b l k (ed (nth l (k + 1)) y) ≠ some (hu a b (k + 1))) := by
  refine ⟨?_, fun y hy => ?_, fun y hy => ?_⟩
  · cases hc : colP col a b l k (pe l k) with
    | none => rfl
    | some c =>
      exfalso
      rcases (colP_iff H h hab hb _ _ k (by omega)).1 hc with ⟨i, hi, e, _⟩ | ⟨h1, _⟩
      · have := h.pe_inj H hab hb hk (by omega) e
        omega
      · exact h1 k hk rfl
  · rcases (colP_iff H h hab hb _ _ k (by omega)).1 hy with ⟨i, hi, e, e2⟩ | ⟨h1, h2⟩
    · have hpar := (hu_eq hab).1 e2
      rcases ed_eq e with ⟨e1, _⟩ | ⟨e1, _⟩
      · have := h.nd H hab hb (by omega) (by omega) e1; omega
      · have := h.nd H hab hb (by omega) (by omega) e1; omega
    · rcases h.closed H hb hend (i := k) (by omega) (hu_cases a b (k + 1)) h2 with ⟨e, _, _⟩ | ⟨h0, _, e⟩
      · exact hu_ne hab e.symm
      · refine h1 (k - 1) (by omega) ?_
        unfold pe
        rw [e, ed_comm, show k - 1 + 1 = k by omega]
  · rcases (colP_iff H h hab hb _ _ k (by omega)).1 hy with ⟨i, hi, e, e2⟩ | ⟨h1, h2⟩
    · rcases ed_eq e with ⟨e1, _⟩ | ⟨e1, _⟩
      · have := h.nd H hab hb (by omega) (by omega) e1; omega
      · have := h.nd H hab hb (by omega) (by omega) e1; omega
    · rcases h.closed H hb hend (i := k + 1) hk (hu_cases a b (k + 1)) h2 with ⟨_, h3, e⟩ | ⟨_, e, _⟩
      · exact h1 (k + 1) h3 (by unfold pe; rw [e])
      · rw [show k + 1 - 1 = k by omega] at e
        exact hu_ne hab e.symm
/-- two hues exchanged -/
def xch (a b h : Nat) : Nat := if h = a then b else if h = b then a else h
/-- AFTER THE EXCHANGE: at the way's vertices the two hues have changed places -/
theorem KWay.done {g : List Nat} {us : Nat → Nat} {col : Nat × Nat → Option Nat} (H : HInv g us col) {v a b : Nat} {l : List Nat} (h : KWay col v a b l) (hab : a ≠ b) (hb : ∀ y, col (ed v y) ≠ some b) (hend : KEnd col a b l) (x y : Nat) :
    colP col a b l (l.length - 1) (ed x y) = if x ∈ l then (col (ed x y)).map (xch a b) else col (ed x y) := by
  have hp := h.pos
  refine Option.ext fun c => ?_
  rw [colP_iff H h hab hb _ _ _ (by omega)]
  have xhu : ∀ i, xch a b (hu a b i) = hu a b (i + 1) := fun i => by
    unfold xch hu
    split <;> split <;> simp <;> omega
  constructor
  · rintro (⟨i, hi, e, rfl⟩ | ⟨h1, h2⟩)
    · have hm : x ∈ l := by
        rcases ed_eq e with ⟨e1, _⟩ | ⟨e1, _⟩
        · rw [e1]; exact nth_mem (by omega)
        · rw [e1]; exact nth_mem (by omega)
      rw [if_pos hm, e, show col (pe l i) = some (hu a b i) from h.step i (by omega)]
      simp [xhu]
    · by_cases hm : x ∈ l
      · rw [if_pos hm, h2]
        obtain ⟨i, hi, rfl⟩ := mem_nth hm
        by_cases hc : c = a ∨ c = b
        · exfalso
          rcases h.closed H hb hend hi hc h2 with ⟨_, h3, e⟩ | ⟨h0, _, e⟩
          · exact h1 i h3 (by unfold pe; rw [e])
          · exact h1 (i - 1) (by omega) (by unfold pe; rw [e, ed_comm, show i - 1 + 1 = i by omega])
        · have : xch a b c = c := by unfold xch; rw [if_neg (fun e => hc (.inl e)), if_neg (fun e => hc (.inr e))]
          simp [this]
      · rw [if_neg hm]; exact h2
  · intro hh
    by_cases hm : x ∈ l
    · rw [if_pos hm] at hh
      obtain ⟨c0, h0, rfl⟩ := Option.map_eq_some_iff.1 hh
      obtain ⟨i, hi, rfl⟩ := mem_nth hm
      by_cases hc : c0 = a ∨ c0 = b
      · rcases h.closed H hb hend hi hc h0 with ⟨e1, h3, e⟩ | ⟨hi0, e1, e⟩
        · exact .inl ⟨i, by omega, by unfold pe; rw [e], by rw [e1, xhu]⟩
        · exact .inl ⟨i - 1, by omega, by unfold pe; rw [e, ed_comm, show i - 1 + 1 = i by omega], by rw [e1, xhu]⟩
      · refine .inr ⟨fun j hj e => ?_, ?_⟩
        · have := h.step j hj
          have h4 : col (ed (nth l i) y) = some (hu a b j) := by rw [e]; exact this
          rw [h0] at h4
          cases h4
          exact hc (hu_cases a b j)
        · have : xch a b c0 = c0 := by unfold xch; rw [if_neg (fun e => hc (.inl e)), if_neg (fun e => hc (.inr e))]
          rw [this]; exact h0
    · rw [if_neg hm] at hh
      refine .inr ⟨fun j hj e => ?_, hh⟩
      rcases ed_eq e with ⟨e1, _⟩ | ⟨e1, _⟩
      · exact hm (by rw [e1]; exact nth_mem (by omega))
      · exact hm (by rw [e1]; exact nth_mem (by omega))
end Go.Proofs.YtpknnjcbcndbbaaDoor
namespace Go.Proofs.YtpknnjcbcndbbaaDoor
open Go.RowKit
section
variable {P : Program} {ops : Array Oper} {md : Region.Mode} {C : World → Prop}
/-- each operation from m on and ahead of n has one behind it, at most n, that waits for it -/
def sinkFrom (md : Region.Mode) (ops : Array Oper) (m n : Nat) : Bool :=
  (List.range n).all fun i => decide (i < m) || (List.range (n + 1)).any fun j => decide (i < j) && Region.waitsFor md ops j i
theorem tail_waits_from {m n : Nat} {listed : Array Bool} (hs : sinkFrom md ops m n = true) (hc : Region.chainB md ops n = true) (hn : n < ops.size) (inv : HeadInv md ops n listed) :
    ∀ (d i : Nat), n - i = d → i < n → m ≤ i → listed.getD i true = false → ∀ t, n ≤ t → t ∉ Region.ready md ops listed := by
  intro d
  induction d using Nat.strongRecOn with
  | _ d ih =>
    intro i hd hi hmi hun t ht hr
    obtain ⟨_, ot, hot, hall⟩ := mem_ready.1 hr
    have htlt : t < ops.size := (Array.getElem?_eq_some_iff.1 hot).1
    by_cases htn : t = n
    · subst htn
      have h1 := List.all_eq_true.1 hs i (List.mem_range.2 hi)
      simp only [Bool.or_eq_true, decide_eq_true_eq] at h1
      obtain ⟨j, hj, hj2⟩ := List.any_eq_true.1 (h1.resolve_left (by omega))
      simp only [Bool.and_eq_true, decide_eq_true_eq] at hj2
      obtain ⟨oj, hoj, e, he, hb, hon⟩ := Region.waitsFor_spec hj2.2
      have hjle : j ≤ t := by have := List.mem_range.1 hj; omega
      by_cases hjt : j = t
      · subst hjt
        have : oj = ot := Option.some.inj (hoj.symm.trans hot)
        subst this
        have h2 := hall e he hb
        rw [hon, getD_both hun] at h2
        cases h2
      · cases hl : listed.getD j false with
        | true =>
          have h2 := inv.closed j oj hoj hl e he hb
          rw [hon, getD_both hun] at h2
          cases h2
        | false =>
          have hjs : j < listed.size := by rw [inv.size]; omega
          exact ih (t - j) (by omega) j rfl (by omega) (by omega) (getD_in hjs hl) t (Nat.le_refl _) hr
    · have h1 := List.all_eq_true.1 hc t (List.mem_range.2 htlt)
      simp only [Bool.or_eq_true, decide_eq_true_eq] at h1
      rcases h1 with h1 | h1
      · omega
      · obtain ⟨o', ho', e, he, hb, hon⟩ := Region.waitsFor_spec h1
        have : o' = ot := Option.some.inj (ho'.symm.trans hot)
        subst this
        have h2 := hall e he hb
        rw [hon, getD_both (inv.tail (t - 1) (by omega) (by omega))] at h2
        cases h2
theorem headC_first_from {m n i : Nat} {oi : Oper} {v : Value} {L : Array Bool → Act → Prop} (hi : ops[i]? = some oi) (hsel : ∀ (j : Nat) (o : Oper) cs b, ops[j]? = some o → o.op ≠ .select cs b)
    (hs : sinkFrom md ops m n = true) (hc : Region.chainB md ops n = true) (hn : n < ops.size) (hin : i < n) (hmi : m ≤ i) (hdone : ∀ listed a, L listed a → ∀ j ∈ Region.ready md ops listed, n ≤ j) :
    ∀ (f : Nat) (listed : Array Bool) (a : Act), HeadInv md ops n listed →
      (∀ j oj, ops[j]? = some oj → j ≠ i → listed.getD j true = false → (∀ e ∈ oj.after, Region.binds md e = true → e.on ≠ i) → oi.apart ops oj = true) →
      i ∈ Region.ready md ops listed → YieldsIn P ops C oi v a → headC P md ops C n L f (listed.setIfInBounds i true) (a.put oi.dst v) → headC P md ops C n L (f + 1) listed a := by
  intro f
  induction f with
  | zero =>
    intro listed a inv _ hr hy H
    refine ⟨List.ne_nil_of_mem hr, fun j hj => ?_⟩
    have hjn : j < n := Nat.lt_of_not_le fun h => tail_waits_from hs hc hn inv _ i rfl hin hmi (mem_ready.1 hr).1 j h hj
    by_cases hji : j = i
    · subst hji; exact ⟨hjn, hy.qOp hi H⟩
    · exact absurd (hdone _ _ H j (ready_mono hj hji)) (by omega)
  | succ f ih =>
    intro listed a inv hfree hr hy H
    have hun := (mem_ready.1 hr).1
    refine ⟨List.ne_nil_of_mem hr, fun j hj => ?_⟩
    have hjn : j < n := Nat.lt_of_not_le fun h => tail_waits_from hs hc hn inv _ i rfl hin hmi hun j h hj
    refine ⟨hjn, ?_⟩
    by_cases hji : j = i
    · subst hji; exact hy.qOp hi H
    · have h1 := (H.2 j (ready_mono hj hji)).2
      obtain ⟨hjun, oj, hoj, hall⟩ := mem_ready.1 hj
      have hnot : ∀ e ∈ oj.after, Region.binds md e = true → e.on ≠ i := fun e he hb heq => by
        have h3 := hall e he hb
        rw [heq, getD_both hun] at h3
        cases h3
      have h2 := qOp_put hoj (hfree j oj hoj hji hjun hnot) (fun cs b => hsel i oi cs b hi) (fun cs b => hsel j oj cs b hoj) hy h1
      refine qOp_mono (fun a' h3 => ih (listed.setIfInBounds j true) a' (inv.set hj hjn) (fun k ok hk hki hu hno => ?_) (ready_mono hr (Ne.symm hji)) h3.1 ?_) h2
      · by_cases hjk : j = k
        · subst hjk; exact hfree j ok hk hki hjun hno
        · rw [getD_set_ne true hjk] at hu; exact hfree k ok hk hki hu hno
      · rw [Array.setIfInBounds_comm _ _ hji]; exact h3.2
theorem headC_lex_from {m n g : Nat} {Lq : Act → Prop} (hsel : Region.noSelect ops = true) (hs : sinkFrom md ops m n = true) (hc : Region.chainB md ops n = true) (hn : n < ops.size) :
    ∀ (l : List Oper) (k : Nat) (listed : Array Bool) (a : Act), m ≤ k → (∀ j, j < l.length → l[j]? = ops[k + j]?) → k + l.length = n → HeadInv md ops n listed →
    Region.lexHead md ops g l.length k listed = true → wpQuiet P ops C Lq l a → headC P md ops C n (fun listed' a' => Region.seqB md ops g n listed' = true ∧ Lq a') l.length listed a
  | [], k, listed, a, _, _, hk, _, hB, h => by
    obtain rfl : k = n := by simpa using hk
    exact ⟨by simpa [Region.lexHead] using hB, h⟩
  | o :: l, k, listed, a, hmk, hl, hk, inv, hB, h => by
    have h0 : ops[k]? = some o := by simpa using (hl 0 (by simp)).symm
    simp only [List.length_cons, Region.lexHead, Bool.and_eq_true] at hB
    have hkn : k < n := by simp only [List.length_cons] at hk; omega
    have hr : k ∈ Region.ready md ops listed := by simpa using hB.1.1
    have hst : qOp P ops C k (wpQuiet P ops C Lq l) a := by unfold qOp; simp only [h0]; exact h
    obtain ⟨v, hy, hK⟩ := yieldsIn_of_qOp h0 hst
    exact headC_first_from h0 (Region.noSelect_spec hsel) hs hc hn hkn hmk (fun listed' a' hL => seqB_ready hL.1) l.length listed a inv (Region.free_spec h0 hB.1.2) hr hy
      (headC_lex_from hsel hs hc hn l (k + 1) _ _ (by omega) (fun j hj => by have := hl (j + 1) (by simp; omega); simpa [Nat.add_assoc, Nat.add_comm 1 j] using this) (by simp only [List.length_cons] at hk; omega) (inv.set hr hkn) hB.2 hK)
end
/-- the region's first operation may be taken first, and then its head to n is quiet, and what waits for it follows -/
def copyTailB (md : Region.Mode) (ops : Array Oper) (n : Nat) : Bool :=
  Region.noSelect ops && decide (n < ops.size) && decide (1 ≤ n) && sinkFrom md ops 1 n && Region.chainB md ops n && Region.free md ops (Array.replicate ops.size false) 0 && (Region.ready md ops (Array.replicate ops.size false)).contains 0 &&
    Region.lexHead md ops (ops.size - n) (n - 1) 1 ((Array.replicate ops.size false).setIfInBounds 0 true)
theorem wp_region_bw_copy_tail {P : Program} {id : Nat} {Q : Exit → Act → World → Prop} {a : Act} {w : World} {l : List Oper} {o : Oper} {v : Value} (n : Nat) (hm : P.follows .mixedOrders = true) (hB : copyTailB .any (o :: l).toArray n = true)
    (hQ : ∀ c a w, Q (.panic c) (a.put o.dst v) w → Q (.panic c) a w) (hy : Yields P (o :: l).toArray o v a)
    (h : wpQuiet P (o :: l).toArray (fun W => ∃ d : BW w.heap.size w, W = d.w) (fun a' => ∀ W, (∃ d : BW w.heap.size w, W = d.w) → wpList P (o :: l).toArray Q (l.drop (n - 1)) a' W) (l.take (n - 1)) (a.put o.dst v)) : (Code.region id (o :: l).toArray true).wp P Q a w := by
  simp only [copyTailB, Bool.and_eq_true, decide_eq_true_eq] at hB
  obtain ⟨⟨⟨⟨⟨⟨⟨hsel, hn⟩, hn1⟩, hs⟩, hc⟩, hfr⟩, hrd⟩, hlex⟩ := hB
  have hC : ∃ d : BW w.heap.size w, { w with drawn := w.drawn + 1 } = d.w := ⟨BW.of _ (below_dr (Below.refl _ w) 1), rfl⟩
  generalize hops : (o :: l).toArray = ops at *
  have hsz : ops.size = l.length + 1 := by rw [← hops]; simp
  have ho0 : ops[0]? = some o := by rw [← hops]; rfl
  have htl : (l.take (n - 1)).length = n - 1 := by simp; omega
  have hdl : (l.drop (n - 1)).length = ops.size - n := by simp; omega
  have hr0 : 0 ∈ Region.ready .any ops (Array.replicate ops.size false) := by simpa using hrd
  have inv0 : HeadInv .any ops n (Array.replicate ops.size false) :=
    ⟨by simp, fun j oj _ hl => (by rw [getD_replicate_false] at hl; cases hl), fun t _ ht => getD_in (by simpa using ht) (getD_replicate_false _ _)⟩
  have H := headC_lex_from (md := .any) (g := ops.size - n) hsel hs hc hn (l.take (n - 1)) 1 _ _ (Nat.le_refl _) (fun j hj => by
    have hj' : j < n - 1 := by rw [htl] at hj; exact hj
    rw [← hops]
    simp [hj', Nat.add_comm 1 j]) (by rw [htl]; omega) (inv0.set hr0 hn1) (by rw [htl]; exact hlex) h
  refine wp_region_any hm ?_
  have H2 := headC_any (Q' := Q) (g := ops.size - n) (fun listed a' w' hw' hL => by
    rw [← hdl]
    exact wpAny_of_seq (l.drop (n - 1)) n listed a' w' (fun j => by rw [← hops]; simp; rw [show n + j = (n - 1 + j) + 1 by omega]; simp) (by rw [hdl]; exact hL.1) (hL.2 w' hw')) (l.take (n - 1)).length _ _ _ hC H
  rw [htl] at H2
  have H3 := wpAny_take ho0 hsel hfr hrd hQ hy H2
  rw [show n - 1 + (ops.size - n) + 1 = ops.size by omega] at H3
  exact H3
end Go.Proofs.YtpknnjcbcndbbaaDoor
namespace Go.Proofs.YtpknnjcbcndbbaaDoor
open Go.RowKit Go.Shelf

def lenV : Value → Nat
  | .slice _ n _ => n
  | _ => 0
def iv (l : List Nat) : List Value := l.map fun (x : Nat) => Value.int .i64 (x : Int)
theorem iv_length (l : List Nat) : (iv l).length = l.length := by unfold iv; simp
theorem iv_get {l : List Nat} {i : Nat} (h : i < l.length) : (iv l)[i]? = some (.int .i64 (nth l i : Nat)) := by unfold iv nth; rw [List.getElem?_map, List.getElem?_eq_getElem h]; rfl
theorem iv_snoc (l : List Nat) (x : Nat) : iv (l ++ [x]) = iv l ++ [.int .i64 (x : Int)] := by unfold iv; simp
theorem int_eq {k : IntKind} {a b : Int} (h : a = b) : Value.int k a = .int k b := by rw [h]
theorem PaintAt.grown {W W' : World} {p G M : Nat} {us : Nat → Nat} {col : Nat × Nat → Option Nat} {row : Option Nat} (h : PaintAt W p G M us col) (hg : W.grownBy W' row) (hp : some p ≠ row) (hM : some M ≠ row) : PaintAt W' p G M us col :=
  ⟨h.box.elim fun vs hv => ⟨vs, (hg.block p hv.1.lt hp).trans hv.1, hv.2⟩, h.map.grown hg hM, h.ne, h.sm⟩
theorem PaintAt.alloc {W : World} {p G M : Nat} {us : Nat → Nat} {col : Nat × Nat → Option Nat} (h : PaintAt W p G M us col) (o : Obj) : PaintAt (W.alloc o) p G M us col :=
  h.grown (World.grownBy_alloc W o none) (by simp) (by simp)
theorem PaintAt.ag {ex : Nat → Prop} {W W' : World} {p G M : Nat} {us : Nat → Nat} {col : Nat × Nat → Option Nat} (h : PaintAt W p G M us col) (hg : Ag ex W W') (hp : ¬ ex p) (hM : ¬ ex M) : PaintAt W' p G M us col :=
  ⟨h.box.elim fun vs hv => ⟨vs, hg.boxN hv.1 hp, hv.2⟩, h.map.kept (hg.block M h.map.lt hM), h.ne, h.sm⟩
/-- the hues taken off the way's first k edges, as the program keeps them -/
def hvs (a b k : Nat) : List Value := (List.range k).map fun i => .int .i64 (hu a b i : Nat)
theorem hvs_snoc (a b k : Nat) : hvs a b (k + 1) = hvs a b k ++ [.int .i64 (hu a b k : Nat)] := by unfold hvs; rw [List.range_succ, List.map_append]; rfl
theorem hvs_get {a b k i : Nat} (h : i < k) : (hvs a b k)[i]? = some (.int .i64 (hu a b i : Nat)) := by unfold hvs; simp [h]
set_option maxRecDepth 100000 in
set_option maxHeartbeats 4000000 in
theorem swap_any (p G M n v a b : Nat) (ea : Option Addr) (cap elen : Nat) (g : List Nat) (us : Nat → Nat) (col : Nat × Nat → Option Nat) (w : World) (hT : Tab w) (hg : GraphAt w G n ea cap elen g) (hsm : ∀ i : Nat, Sm (g[i]?.getD 0)) (hP : PaintAt w p G M us col) (H : HInv g us col) (hv : v < 16) (ha : a < 64) (hb64 : b < 64) (hab : a ≠ b) (hb : ∀ y, col (ed v y) ≠ some b) :
    Calls Tryd.prog 88 #[.pointer (some ⟨p, 0, none⟩), .int .i64 (v : Int), .int .i64 (a : Int), .int .i64 (b : Int)] w fun e w' => e = .returned (.tuple #[]) ∧ ∃ us' l, KWay col v a b l ∧ KEnd col a b l ∧ PaintAt w' p G M us' (colP col a b l (l.length - 1)) ∧ HInv g us' (colP col a b l (l.length - 1)) ∧ Ag (fun k => k = p ∨ k = M) w w' := by
  obtain ⟨i0, hi, hz0, hz1, hz2⟩ := info_parts info3
  have HH := Lib.hid H
  have HB := Lib.hid hb
  have HAB := Lib.hid hab
  have KW : Hid (∀ (x h : Nat) W, x < 16 → Below w.heap.size w W → Calls Tryd.prog 101 #[.pointer (some ⟨p, 0, none⟩), .int .i64 (x : Int), .int .i64 (h : Int)] W fun e w' => e = .returned (.int .i64 (withV (withF g col x h))) ∧ Below W.heap.size W w') := fun x h W hx hB =>
    callsIn_wide.1 (with_in p G M n x h ea cap elen g us col W (hT.below hB (Nat.le_refl _)) (hg.below hB (Nat.le_refl _)) hsm (hP.below hB) hx)
  have HSM := Lib.hid hsm
  have HP := Lib.hid hP
  clear hT hg hsm hP H hb hab
  go_enter Tryd.func88, Tryd.ntmps88
  go_wp2
  have hq0 : QRow (w.alloc (.cells #[.int .i64 (v : Int)] 3)) w.heap.size 3 1 (.slice (some ⟨w.heap.size, 0, none⟩) 1 1) [v].length (iv [v]) := by
    refine ⟨rfl, .inr ⟨w.heap.size, 0, 1, #[.int .i64 (v : Int)], rfl, Nat.le_refl _, BoxN.new rfl, Nat.le_refl _, by decide, by simp, fun j hj => ?_⟩⟩
    have : j = 0 := by simp at hj; omega
    subst this
    rfl
  have HQ0 := Lib.hid hq0
  have HB0 := Lib.hid ((Below.refl _ w).alloc (Nat.le_refl _) (Obj.cells #[.int .i64 (v : Int)] 3))
  clear hq0
  generalize (w.alloc (.cells #[.int .i64 (v : Int)] 3)) = U at *
  go_loopw [8, 9, 10] (fun s8 s9 _ wr => ∃ l : List Nat, Hid (KWay col v a b l) ∧ s9 = .int .i64 (hu a b (l.length - 1) : Nat) ∧ QRow wr w.heap.size 3 1 s8 l.length (iv l) ∧ Below w.heap.size w wr) (fun s8 _ _ _ => 20 - lenV s8)
  case atStart => exact ⟨[v], KWay.one col v a b, rfl, HQ0.out, HB0.out⟩
  case round =>
    obtain ⟨l, hk, rfl, hq, hB⟩ := hrel
    have hlen := hk.out.len HH.out HAB.out HB.out hv
    have hpos := hk.out.pos
    obtain ⟨lb, lo, lc, rfl, q1, q2, q3, q4, q5, q6⟩ := hq.at hpos
    obtain ⟨m, hm⟩ : ∃ m, l.length = m + 1 := ⟨l.length - 1, by omega⟩
    have hcm : wr.cell? ⟨lb, lo + m, none⟩ = some (.int .i64 (nth l m : Nat)) := by rw [q5 m (by omega), iv_get (by omega)]
    have hx16 : nth l m < 16 := hk.out.lt16 HH.out hv (by omega)
    have HKW := Lib.hid (KW.out (nth l m) (hu a b m) wr hx16 hB)
    rw [hm] at hq ⊢
    simp only [Nat.add_sub_cancel]
    have hm15 : m ≤ 15 := by omega
    have HM := Lib.hid hm
    have HQ := Lib.hid hq
    have hszB := hB.size
    have hh1 : hu a b m + hu a b (m + 1) = a + b := by have := @hu_other a b m; have := hu_cases a b m; omega
    have hh2 : hu a b m < 64 := by rcases hu_cases a b m with h | h <;> omega
    have hh3 : hu a b (m + 1) < 64 := by rcases hu_cases a b (m + 1) with h | h <;> omega
    clear q5 q6 hm hq
    cases hw : withF g col (nth l m) (hu a b m) with
    | none =>
      have HW := Lib.hid hw
      rw [hw] at HKW
      clear hw
      go_wp2_with (go_at_call 101; refine (HKW.out).mono ?_; rintro e w1 ⟨rfl, hB1⟩; have HB1 := Lib.hid hB1; clear hB1; simp only [withV]; try dsimp only)
      have hend : Hid (KEnd col a b l) := by
        unfold Hid KEnd
        rw [HM.out, Nat.add_sub_cancel]
        exact withF_none HH.out (HSM.out _) HW.out
      -- the way is known: its edges lose their hues
      obtain ⟨u1, hP1, hH1⟩ : ∃ u1, PaintAt w1 p G M u1 (colT col l 0) ∧ HInv g u1 (colT col l 0) := ⟨us, (HP.out.below hB).below HB1.out, HH.out⟩
      have hsz1 := HB1.out.size
      have hp1 : p < w1.heap.size := hP1.lt
      have hM1 : M < w1.heap.size := hP1.map.lt
      have hpw : p < w.heap.size := HP.out.lt
      have hMw : M < w.heap.size := HP.out.map.lt
      have HQ1 := Lib.hid (HQ.out.below HB1.out (fun k e => by have e' : some lb = some k := e; cases e'; exact q2))
      have HBw1 := Lib.hid (hB.trans (HB1.out.mono hB.size))
      have hR1 : Hid (∃ u1, PaintAt w1 p G M u1 (colT col l 0) ∧ HInv g u1 (colT col l 0)) := ⟨u1, hP1, hH1⟩
      clear hP1 hH1
      go_loopw [11, 12] (fun s11 s12 wr => ∃ k : Nat, k ≤ m ∧ s12 = .int .i64 ((k : Int) + 1) ∧ Hid (∃ u, PaintAt wr p G M u (colT col l k) ∧ HInv g u (colT col l k)) ∧ Ag (fun k => k = p ∨ k = M) w1 wr ∧ QRow wr w1.heap.size 3 1 s11 k (hvs a b k)) (fun _ s12 _ => 40 - (intOf s12).toNat)
      case atStart => exact ⟨0, by omega, rfl, hR1, Ag.refl _ _, QRow.nil _ _ _ _⟩
      case round =>
        clear hR1
        obtain ⟨k, hkm, rfl, hR, hag, hqh⟩ := hrel
        by_cases hlt : k < m
        · have hki : ((k : Int) + 1) < (m : Int) + 1 := by omega
          obtain ⟨u, hPk, hHk⟩ := hR.out
          have htk := hk.out.takes HH.out HAB.out HB.out (k := k) (by rw [HM.out]; omega)
          have HQk := HQ1.out
          have hcell := (hag.qrow HQ1.out (fun kk e hh => by have e' : some lb = some kk := e; cases e'; rcases hh with h | h <;> omega)).at (by omega)
          obtain ⟨_, _, _, e, _, _, _, _, hcl, _⟩ := hcell
          cases e
          have cl0 := hcl k (by omega)
          rw [iv_get (by rw [HM.out]; omega)] at cl0
          have cl1 := hcl (k + 1) (by omega)
          rw [iv_get (by rw [HM.out]; omega)] at cl1
          have hszk := hag.size
          have hlbk : lb < wr.heap.size := by omega
          have r0 : ∀ d : BW wr.heap.size wr, d.w.cell? ⟨lb, lo + k, none⟩ = some (.int .i64 (nth l k : Nat)) := fun d => d.cell hlbk cl0
          have r1 : ∀ d : BW wr.heap.size wr, d.w.cell? ⟨lb, lo + (k + 1), none⟩ = some (.int .i64 (nth l (k + 1) : Nat)) := fun d => d.cell hlbk cl1
          have hx0 : nth l k < 16 := hk.out.lt16 HH.out hv (by rw [HM.out]; omega)
          have hx1 : nth l (k + 1) < 16 := hk.out.lt16 HH.out hv (by rw [HM.out]; omega)
          have hhk : hu a b k < 64 := by rcases hu_cases a b k with h | h <;> omega
          have hne := (hHk.edge _ _ _ htk).1
          have HT : Hid (∀ d : BW wr.heap.size wr, Calls Tryd.prog 81 #[.pointer (some ⟨p, 0, none⟩), .int .i64 (nth l k : Nat), .int .i64 (nth l (k + 1) : Nat)] d.w fun e w' => e = .returned (.int .i64 (hu a b k : Nat)) ∧ (∃ u', PaintAt w' p G M u' (colT col l (k + 1)) ∧ HInv g u' (colT col l (k + 1))) ∧ Ag (fun k => k = p ∨ k = M) d.w w') := fun d =>
            (take_any p G M (nth l k) (nth l (k + 1)) (hu a b k) u (colT col l k) d.w (hPk.below d.b) hx0 hx1 hne hhk htk).mono fun e w' ⟨h1, h2, h3⟩ => ⟨h1, ⟨_, h2, hHk.take htk⟩, h3⟩
          have HQH := Lib.hid hqh
          have HAG := Lib.hid hag
          have e1 : IntKind.i64.wrap ((k : Int) + 1 - 1) = (k : Int) := by rw [IntWalk.i64_in _ (by omega)]; omega
          have e2 : (0 : Int) ≤ (k : Int) := by omega
          have e3 : ((k : Int) + 1).toNat = k + 1 := by omega
          have e4 : (k : Int) < (m : Int) + 1 := by omega
          have e5 : (0 : Int) ≤ (k : Int) + 1 := by omega
          clear hPk hHk htk HQk hcl cl0 cl1 hqh hag hR hne
          go_wp2
          refine wp_region_bw_copy_tail 11 (by kernel_rfl) (by kernel_rfl) (fun _ _ _ h => h) (.inl ⟨rfl, fun _ => rfl⟩) ?_
          simp only [Act.put, Act.eval, List.getElem?_toArray, List.getElem?_cons_zero, List.getElem?_cons_succ, Option.getD_some, List.setIfInBounds_toArray, List.set_cons_zero, List.set_cons_succ, Nat.reduceSub, Array.getD_eq_getD_getElem?]
          simp only [List.take_succ_cons, List.take_zero, List.drop_succ_cons, List.drop_zero]
          repeat (go_big_quiet_step (rfl))
          refine wpQuiet_nil ?_
          rintro _ ⟨d, rfl⟩
          clear e1 e3 r0 r1
          have HQD := Lib.hid (fun w2 (h2 : Ag (fun k => k = p ∨ k = M) d.w w2) => 
            h2.qrow (HQH.out.below d.b (fun kk e => (HQH.out.lt kk e).2)) (fun kk e hh => by have := (HQH.out.lt kk e).1; rcases hh with h | h <;> omega))
          have HAD := Lib.hid (HAG.out.trans (Ag.of_below d.b))
          have hszd := d.b.size
          clear HAG hk
          have HKH := Lib.hid (fun kk => HQH.out.lt kk)
          go_wp2_with (first
            | (go_at_call 81; refine ((HT.out) d).mono ?_; rintro e w2 ⟨rfl, hR2, hag2⟩; have HR2 := Lib.hid hR2; have HQ2 := Lib.hid ((HQD.out _ hag2).alloc (.cells #[.int .i64 (hu a b k : Nat)] 3)); have HA2 := Lib.hid (HAD.out.trans hag2); have hsz2 := hag2.size; clear hR2 hag2)
            | (at_builtin; go_must (refine wpList_append_q _ rfl (.tmp 44) (.tmp 56) 25 rfl w1.heap.size 3 i0 (.int .i64 0) 1 8 Tryd.underlying25 hi hz0 hz1 hz2 rfl (by decide) _ k (hvs a b k) rfl HQ2.out ⟨w2.heap.size, 0, none⟩ 1 1 [.int .i64 (hu a b k : Nat)] rfl rfl (cells_new1 _ _ _) (by simp [Value.oneCell']) (by unfold maxLen; omega) (by omega) (by simp; omega) ?_); intro v4 w4 hq4 hg4 ho4))
          obtain ⟨u2, hP2, hH2⟩ := HR2.out
          have hA4 : Ag (fun k => k = p ∨ k = M) w1 w4 := (HA2.out.alloc _).grown hg4 (fun kk e => .inl (HKH.out kk e).1)
          refine ⟨⟨k + 1, by omega, int_eq (by omega), ⟨u2, (hP2.alloc _).grown hg4 (fun e => ?_) (fun e => ?_), hH2⟩, hA4, ?_⟩, ?_⟩
          · have := (HKH.out p e.symm).1; omega
          · have := (HKH.out M e.symm).1; omega
          · rw [hvs_snoc]; exact hq4
          · simp [intOf]; omega
        · have hkm' : k = m := by omega
          rw [hkm'] at hR hqh
          obtain ⟨sp, sc, rfl⟩ := hqh.isSlice
          have hR3 : Hid (∃ u, PaintAt wr p G M u (colP col a b l 0) ∧ HInv g u (colP col a b l 0)) := by
            unfold Hid colP
            rw [HM.out, Nat.add_sub_cancel]
            exact hR.out
          have hag1 := Lib.hid hag
          have HQH := Lib.hid hqh
          clear hR hag hqh
          have hsz2 := hag1.out.size
          have hki : ¬ ((k : Int) + 1 < (m : Int) + 1) := by omega
          go_wp2
          go_loopw [13, 14, 60] (fun _ _ s60 wr' => ∃ k : Nat, k ≤ m ∧ s60 = .int .i64 (k : Int) ∧ Hid (∃ u, PaintAt wr' p G M u (colP col a b l k) ∧ HInv g u (colP col a b l k)) ∧ Ag (fun k => k = p ∨ k = M) wr wr') (fun _ _ s60 _ => 40 - (intOf s60).toNat)
          case atStart => exact ⟨0, by omega, rfl, hR3, Ag.refl _ _⟩
          case round =>
            clear hR3
            obtain ⟨j, hjm, rfl, hR, hag⟩ := hrel
            by_cases hlt2 : j < m
            · have hji : (j : Int) < (m : Int) := by omega
              obtain ⟨u, hPk, hHk⟩ := hR.out
              have htp := hk.out.puts HH.out HAB.out HB.out hend.out (k := j) (by rw [HM.out]; omega)
              have hE := HH.out.edge _ _ _ (hk.out.step j (by rw [HM.out]; omega))
              have hE' := HH.out.edge _ _ _ ((congrArg col (ed_comm _ _)).trans (hk.out.step j (by rw [HM.out]; omega)))
              have hcell := (hag.qrow (hag1.out.qrow HQ1.out (fun kk e hh => by have e' : some lb = some kk := e; cases e'; rcases hh with h | h <;> omega)) (fun kk e hh => by have e' : some lb = some kk := e; cases e'; rcases hh with h | h <;> omega)).at (by omega)
              obtain ⟨_, _, _, e, _, _, _, _, hcl, _⟩ := hcell
              cases e
              have cl0 := hcl j (by omega)
              rw [iv_get (by rw [HM.out]; omega)] at cl0
              have cl1 := hcl (j + 1) (by omega)
              rw [iv_get (by rw [HM.out]; omega)] at cl1
              have hszk := hag.size
              have hlbk : lb < wr.heap.size := by omega
              have r0 : ∀ d : BW wr.heap.size wr, d.w.cell? ⟨lb, lo + j, none⟩ = some (.int .i64 (nth l j : Nat)) := fun d => d.cell hlbk cl0
              have r1 : ∀ d : BW wr.heap.size wr, d.w.cell? ⟨lb, lo + (j + 1), none⟩ = some (.int .i64 (nth l (j + 1) : Nat)) := fun d => d.cell hlbk cl1
              have hhk : hu a b (j + 1) < 64 := by rcases hu_cases a b (j + 1) with h | h <;> omega
              obtain ⟨_, ho, hc, e, _, _, _, _, hcl2, _⟩ := (hag.qrow HQH.out (fun kk e hh => by have := (HQH.out.lt kk e).1; rcases hh with h | h <;> omega)).at (by omega)
              have HT : Hid (∀ d : BW wr.heap.size wr, Calls Tryd.prog 79 #[.pointer (some ⟨p, 0, none⟩), .int .i64 (nth l j : Nat), .int .i64 (nth l (j + 1) : Nat), .int .i64 (hu a b (j + 1) : Nat)] d.w fun e w' => e = .returned (.tuple #[]) ∧ (∃ u', PaintAt w' p G M u' (colP col a b l (j + 1)) ∧ HInv g u' (colP col a b l (j + 1))) ∧ Ag (fun k => k = p ∨ k = M) d.w w') := fun d =>
                (put_any p G M (nth l j) (nth l (j + 1)) (hu a b (j + 1)) u (colP col a b l j) d.w (hPk.below d.b) hE.2.1 hE.2.2.1 hE.1 hhk).mono fun e w' ⟨h1, h2, h3⟩ => ⟨h1, ⟨_, h2, hHk.put hE.2.1 hE.2.2.1 hE.1 hE.2.2.2.1 hE'.2.2.2.1 hhk htp.1 htp.2.1 htp.2.2⟩, h3⟩
              cases e
              have cl2 := hcl2 j (by omega)
              rw [hvs_get hlt2] at cl2
              have hhj : hu a b j < 64 := by rcases hu_cases a b j with h | h <;> omega
              have hs1 : hu a b j + hu a b (j + 1) = a + b := by have := @hu_other a b j; rcases hu_cases a b j with h | h <;> omega
              have e7 : ((a : Int) + (b : Int) - (hu a b j : Nat)) = (hu a b (j + 1) : Nat) := by omega
              rw [← e7] at HT
              have e8 : (0 : Int) ≤ (j : Int) := by omega
              have e9 : (j : Int) < (m : Int) + 1 := by omega
              have e10 : (j : Int) + 1 < (m : Int) + 1 := by omega
              have e11 : (0 : Int) ≤ (j : Int) + 1 := by omega
              have e12 : ((j : Int) + 1).toNat = j + 1 := by omega
              have HAG := Lib.hid hag
              clear hPk hHk htp hcl hcl2 cl0 cl1 hag hR hE hE' e7 hki
              go_wp2
              refine wp_region_bw_tail 15 (by kernel_rfl) (by kernel_rfl) ?_
              simp only [List.take_succ_cons, List.take_zero, List.drop_succ_cons, List.drop_zero]
              repeat (go_big_quiet_step (rfl))
              refine wpQuiet_nil ?_
              rintro _ ⟨d, rfl⟩
              clear r0 r1
              go_wp2_with (go_at_call 79; refine ((HT.out) d).mono ?_; rintro e w2 ⟨rfl, hR2, hag2⟩; have HR2 := Lib.hid hR2; have HA2 := Lib.hid ((HAG.out.trans (Ag.of_below d.b)).trans hag2); clear hR2 hag2)
              refine ⟨⟨j + 1, by omega, int_eq (by omega), HR2, HA2.out⟩, ?_⟩
              simp [intOf]; omega
            · have hji : ¬ ((j : Int) < (m : Int)) := by omega
              have hjm' : j = m := by omega
              rw [hjm'] at hR
              obtain ⟨u, hPk, hHk⟩ := hR.out
              have HF := Lib.hid (show ∃ us' l, KWay col v a b l ∧ KEnd col a b l ∧ PaintAt wr p G M us' (colP col a b l (l.length - 1)) ∧ HInv g us' (colP col a b l (l.length - 1)) from ⟨u, l, hk.out, hend.out, by rw [HM.out, Nat.add_sub_cancel]; exact hPk, by rw [HM.out, Nat.add_sub_cancel]; exact hHk⟩)
              have HA := Lib.hid (show Ag (fun k => k = p ∨ k = M) w wr from ⟨((hag1.out.trans hag).os.trans HBw1.out.os), ((hag1.out.trans hag).tape.trans HBw1.out.tape), ((hag1.out.trans hag).output.trans HBw1.out.output), Nat.le_trans HBw1.out.size (hag1.out.trans hag).size, fun i hi hn => ((hag1.out.trans hag).block i (Nat.lt_of_lt_of_le hi HBw1.out.size) hn).trans (HBw1.out.block i hi)⟩)
              clear hR hag hPk hHk
              go_wp2
              go_end0
              exact ⟨rfl, by obtain ⟨u, l, h1, h2, h3, h4⟩ := HF.out; exact ⟨u, l, h1, h2, h3, h4, HA.out⟩⟩
    | some y =>
      have HW := Lib.hid hw
      rw [hw] at HKW
      clear hw
      have hy0 : ¬ ((y : Nat) : Int) < 0 := by omega
      go_wp2_with (first
        | (go_at_call 101; refine (HKW.out).mono ?_; rintro e w1 ⟨rfl, hB1⟩; have HB1 := Lib.hid hB1; have hsz1 := hB1.size; have HQ1 := Lib.hid ((HQ.out.below hB1 (fun k e => by have e' : some lb = some k := e; cases e'; exact q2)).alloc (.cells #[.int .i64 (y : Int)] 3)); clear hB1; simp only [withV]; try dsimp only)
        | (at_builtin; go_must (refine wpList_append_q _ rfl (.tmp 34) (.tmp 36) 25 rfl w.heap.size 3 i0 (.int .i64 0) 1 8 Tryd.underlying25 hi hz0 hz1 hz2 rfl (by decide) _ (m + 1) (iv l) rfl HQ1.out ⟨w1.heap.size, 0, none⟩ 1 1 [.int .i64 (y : Int)] rfl rfl (cells_new1 _ _ _) (by simp [Value.oneCell']) (by unfold maxLen; omega) (by omega) (by simp; omega) ?_); intro v4 w4 hq4 hg4 ho4))
      have hy := withF_some HW.out
      have hk2 : KWay col v a b (l ++ [y]) := hk.out.snoc (by rw [HM.out, Nat.add_sub_cancel]; exact hy)
      obtain ⟨lb4, lo4, lc4, rfl, _⟩ := hq4.at (by omega)
      refine ⟨⟨l ++ [y], Lib.hid hk2, ?_, ?_, ?_⟩, ?_⟩
      · rw [List.length_append, HM.out, show m + 1 + [y].length - 1 = m + 1 by simp]
        exact int_eq (by omega)
      · rw [List.length_append, HM.out, iv_snoc]
        exact hq4
      · exact Below.grown ((hB.trans (HB1.out.mono hB.size)).alloc (by have := HB1.out.size; omega) _) hg4 (by have := HB1.out.size; simp; omega) (fun k e => by have e' : some lb = some k := e; cases e'; exact q1)
      · simp [lenV]; omega
end Go.Proofs.YtpknnjcbcndbbaaDoor
namespace Go.Proofs.YtpknnjcbcndbbaaDoor
open Go.RowKit

/-- a fan at v: the first edge has no hue; each later one has a hue that is free at the end before it -/
structure FanOK (g : List Nat) (col : Nat × Nat → Option Nat) (v : Nat) (l : List Nat) : Prop where
  pos : 0 < l.length
  nd : l.Nodup
  first : col (ed v (nth l 0)) = none
  adj : ∀ i, i < l.length → adj g v (nth l i) ∧ adj g (nth l i) v ∧ nth l i < 16 ∧ v ≠ nth l i
  hue : ∀ i, i + 1 < l.length → ∃ h, col (ed v (nth l (i + 1))) = some h ∧ ∀ y, col (ed (nth l i) y) ≠ some h
/-- .. that cannot be longer -/
def FanMax (col : Nat × Nat → Option Nat) (v : Nat) (l : List Nat) : Prop :=
  ∀ x h, col (ed v x) = some h → x ∉ l → ∃ y, col (ed (nth l (l.length - 1)) y) = some h
/-- its beginning to k may be turned, and its k-th edge has the hue d -/
structure FanR (col : Nat × Nat → Option Nat) (v d : Nat) (l : List Nat) (k : Nat) : Prop where
  lt : k < l.length
  first : col (ed v (nth l 0)) = none
  hue : ∀ i, i < k → ∃ h, col (ed v (nth l (i + 1))) = some h ∧ ∀ y, col (ed (nth l i) y) ≠ some h
  fv : ∀ y, col (ed v y) ≠ some d
  fk : ∀ y, col (ed (nth l k) y) ≠ some d
theorem nth_nd {l : List Nat} (h : l.Nodup) {i j : Nat} (hi : i < l.length) (hj : j < l.length) (e : nth l i = nth l j) : i = j := by
  unfold nth at e
  rw [List.getElem?_eq_getElem hi, List.getElem?_eq_getElem hj] at e
  have e' : l[i] = l[j] := by simpa using e
  have hp := List.pairwise_iff_getElem.1 h
  rcases Nat.lt_trichotomy i j with h1 | h1 | h1
  · exact absurd e' (hp i j hi hj h1)
  · exact h1
  · exact absurd e'.symm (hp j i hj hi h1)
theorem FanOK.snoc {g : List Nat} {col : Nat × Nat → Option Nat} {v : Nat} {l : List Nat} (F : FanOK g col v l) {x h : Nat} (hx : col (ed v x) = some h) (hf : ∀ y, col (ed (nth l (l.length - 1)) y) ≠ some h) (hn : x ∉ l) (ha : Go.Proofs.YtpknnjcbcndbbaaDoor.adj g v x) (ha' : Go.Proofs.YtpknnjcbcndbbaaDoor.adj g x v) (hx16 : x < 16) (hvx : v ≠ x) : FanOK g col v (l ++ [x]) where
  pos := by simp
  nd := by rw [List.nodup_append]; exact ⟨F.nd, by simp, fun a ha b hb => by rw [List.mem_singleton] at hb; rintro rfl; exact hn (hb ▸ ha)⟩
  first := by rw [nth_app_l F.pos]; exact F.first
  adj := fun i hi => by
    by_cases h1 : i < l.length
    · rw [nth_app_l h1]; exact F.adj i h1
    · have : i = l.length := by simp at hi; omega
      subst this
      rw [nth_app_r]; exact ⟨ha, ha', hx16, hvx⟩
  hue := fun i hi => by
    by_cases h1 : i + 1 < l.length
    · rw [nth_app_l h1, nth_app_l (by omega)]; exact F.hue i h1
    · have h2 : i + 1 = l.length := by simp at hi; omega
      rw [h2, nth_app_r, nth_app_l (by omega)]
      refine ⟨h, hx, ?_⟩
      rw [show i = l.length - 1 by omega]
      exact hf
/-- no hues need be exchanged -/
theorem FanOK.r {g : List Nat} {col : Nat × Nat → Option Nat} {v d : Nat} {l : List Nat} (F : FanOK g col v l) (hd : ∀ y, col (ed (nth l (l.length - 1)) y) ≠ some d) (hv : ∀ y, col (ed v y) ≠ some d) {k : Nat} (hk : k < l.length) (hstop : k + 1 < l.length → ∀ y, col (ed (nth l k) y) ≠ some d) : FanR col v d l k where
  lt := hk
  first := F.first
  hue := fun i hi => F.hue i (by omega)
  fv := hv
  fk := by
    by_cases h : k + 1 < l.length
    · exact hstop h
    · rw [show k = l.length - 1 by omega]; exact hd
/-- where one of a way's hues is free, the way ends -/
theorem KWay.tip {col : Nat × Nat → Option Nat} {v a b : Nat} {l : List Nat} (h : KWay col v a b l) {u c : Nat} (hm : u ∈ l) (huv : u ≠ v) (hc : c = a ∨ c = b) (hf : ∀ y, col (ed u y) ≠ some c) : u = nth l (l.length - 1) := by
  obtain ⟨i, hi, rfl⟩ := mem_nth hm
  have hp := h.pos
  have hi0 : i ≠ 0 := fun e => huv (by rw [e]; exact h.first)
  by_cases hl : i + 1 < l.length
  · have h1 := h.step i hl
    have h2 := h.step (i - 1) (by omega)
    rw [show i - 1 + 1 = i by omega, ed_comm] at h2
    have hcc : c = hu a b i ∨ c = hu a b (i - 1) := by
      unfold hu
      rcases hc with rfl | rfl <;> split <;> split <;> first | (left; rfl) | (right; rfl) | omega
    rcases hcc with e | e
    · exact absurd (e ▸ h1) (hf _)
    · exact absurd (e ▸ h2) (hf _)
  · rw [show i = l.length - 1 by omega]
theorem xch_inj {a b : Nat} (x y : Nat) (h : xch a b x = xch a b y) : x = y := by
  unfold xch at h
  split at h <;> split at h <;> (try split at h) <;> (try split at h) <;> omega
theorem xch_other {a b h : Nat} (ha : h ≠ a) (hb : h ≠ b) : xch a b h = h := by unfold xch; rw [if_neg ha, if_neg hb]
theorem xch_l (a b : Nat) : xch a b a = b := by unfold xch; simp
theorem xch_r (a b : Nat) : xch a b b = a := by unfold xch; split <;> simp_all
/-- .. hues are exchanged: d from v on, until then free at the fan's last end; c till then free at v -/
theorem FanOK.swapped {g : List Nat} {us : Nat → Nat} {col col' : Nat × Nat → Option Nat} (H : HInv g us col) {v d c : Nat} {l wy : List Nat} (F : FanOK g col v l) (hm : FanMax col v l) (hcd : d ≠ c) (hc : ∀ y, col (ed v y) ≠ some c) (hd : ∀ y, col (ed (nth l (l.length - 1)) y) ≠ some d) (hdv : ∃ x, col (ed v x) = some d) (hw : KWay col v d c wy) (hcol : ∀ x y, col' (ed x y) = if x ∈ wy then (col (ed x y)).map (xch d c) else col (ed x y))
    {k : Nat} (hk : k < l.length) (hbefore : ∀ i, i < k → ∃ y, col' (ed (nth l i) y) = some d) (hstop : k + 1 < l.length → ∀ y, col' (ed (nth l k) y) ≠ some d) : FanR col' v d l k := by
  have hv : v ∈ wy := hw.first ▸ nth_mem hw.pos
  have hvy : ∀ y, col' (ed v y) = (col (ed v y)).map (xch d c) := fun y => by rw [hcol, if_pos hv]
  obtain ⟨x, hx⟩ := hdv
  have hxl : x ∈ l := Classical.byContradiction fun hn => by obtain ⟨y, hy⟩ := hm x d hx hn; exact hd y hy
  obtain ⟨j, hj, rfl⟩ := mem_nth hxl
  have hj0 : j ≠ 0 := fun e => by rw [e, F.first] at hx; cases hx
  obtain ⟨h, hh, hhf⟩ := F.hue (j - 1) (by omega)
  rw [show j - 1 + 1 = j by omega, hx] at hh
  obtain rfl : d = h := Option.some.inj hh
  -- what is free off the way stays free
  have off : ∀ u e, u ∉ wy → (∀ y, col (ed u y) ≠ some e) → ∀ y, col' (ed u y) ≠ some e := fun u e hu hf y => by rw [hcol, if_neg hu]; exact hf y
  have onw : ∀ u e, u ∈ wy → (∀ y, col (ed u y) ≠ some e) → ∀ y, col' (ed u y) ≠ some (xch d c e) := fun u e hu hf y hy => by
    rw [hcol, if_pos hu] at hy
    cases hq : col (ed u y) with
    | none => rw [hq] at hy; cases hy
    | some q =>
      rw [hq] at hy
      have := xch_inj _ _ (Option.some.inj hy)
      exact hf y (by rw [hq, this])
  have oth : ∀ u e, e ≠ d → e ≠ c → (∀ y, col (ed u y) ≠ some e) → ∀ y, col' (ed u y) ≠ some e := fun u e h1 h2 hf => by
    by_cases hu : u ∈ wy
    · have := onw u e hu hf; rw [xch_other h1 h2] at this; exact this
    · exact off u e hu hf
  have hprev : nth l (j - 1) ∉ wy → k ≤ j - 1 := fun hn => Nat.le_of_not_lt fun hlt => by
    obtain ⟨y, hy⟩ := hbefore (j - 1) hlt
    exact off _ d hn hhf y hy
  refine ⟨hk, ?_, fun i hi => ?_, fun y hy => ?_, ?_⟩
  · rw [hvy, F.first]; rfl
  · obtain ⟨e, he, hf⟩ := F.hue i (by omega)
    have hec : e ≠ c := fun h => hc _ (h ▸ he)
    by_cases hed : e = d
    · subst hed
      have h1 : nth l (i + 1) = nth l j := H.inj v _ _ e he hx
      have h2 : i + 1 = j := nth_nd F.nd (by omega) hj h1
      refine ⟨c, by rw [hvy, he]; show some (xch e c e) = _; rw [xch_l], ?_⟩
      by_cases hin : nth l i ∈ wy
      · have := onw _ e hin hf; rw [xch_l] at this; exact this
      · have := hprev (by rw [← h2]; simpa using hin)
        omega
    · exact ⟨e, by rw [hvy, he]; show some (xch d c e) = _; rw [xch_other hed hec], oth _ e hed hec hf⟩
  · rw [hvy] at hy
    cases hq : col (ed v y) with
    | none => rw [hq] at hy; cases hy
    | some q =>
      rw [hq] at hy
      have h1 : xch d c q = d := Option.some.inj hy
      have h2 : q = c := xch_inj _ _ (h1.trans (xch_r d c).symm)
      exact hc y (h2 ▸ hq)
  · by_cases hl : k + 1 < l.length
    · exact hstop hl
    · have hkl : k = l.length - 1 := by omega
      rw [hkl]
      by_cases hin : nth l (l.length - 1) ∈ wy
      · have hne : nth l (l.length - 1) ≠ v := fun e => (F.adj (l.length - 1) (by omega)).2.2.2 e.symm
        have t1 := hw.tip hin hne (.inl rfl) hd
        by_cases hin2 : nth l (j - 1) ∈ wy
        · have hne2 : nth l (j - 1) ≠ v := fun e => (F.adj (j - 1) (by omega)).2.2.2 e.symm
          have t2 := hw.tip hin2 hne2 (.inl rfl) hhf
          have := nth_nd F.nd (by omega) (by omega) (t1.trans t2.symm)
          omega
        · have := hprev hin2
          omega
      · exact off _ d hin hd
/-- the fan turned i times -/
def colR (col : Nat × Nat → Option Nat) (v : Nat) (l : List Nat) : Nat → Nat × Nat → Option Nat
  | 0 => col
  | i + 1 => setF (setF (colR col v l i) (ed v (nth l (i + 1))) none) (ed v (nth l i)) (col (ed v (nth l (i + 1))))
theorem setF_same {α β : Type} [DecidableEq α] (col : α → Option β) (a : α) (b : Option β) : setF col a b a = b := by unfold setF; simp
theorem setF_ne {α β : Type} [DecidableEq α] (col : α → Option β) {a x : α} (b : Option β) (h : x ≠ a) : setF col a b x = col x := by unfold setF; simp [h]
theorem ed_nth {v : Nat} {l : List Nat} (hn : l.Nodup) {i j : Nat} (hi : i < l.length) (hj : j < l.length) (hne : i ≠ j) : ed v (nth l i) ≠ ed v (nth l j) := fun e => hne (nth_nd hn hi hj (ed_inj e))
theorem colR_other (col : Nat × Nat → Option Nat) (v : Nat) (l : List Nat) (e : Nat × Nat) : ∀ i, (∀ m, m ≤ i → e ≠ ed v (nth l m)) → colR col v l i e = col e
  | 0, _ => rfl
  | i + 1, h => by
    unfold colR
    rw [setF_ne _ _ (h i (by omega)), setF_ne _ _ (h (i + 1) (Nat.le_refl _))]
    exact colR_other col v l e i fun m hm => h m (by omega)
theorem colR_none {col : Nat × Nat → Option Nat} {v : Nat} {l : List Nat} (hn : l.Nodup) (h0 : col (ed v (nth l 0)) = none) : ∀ i, i < l.length → colR col v l i (ed v (nth l i)) = none
  | 0, _ => h0
  | i + 1, hi => by
    unfold colR
    rw [setF_ne _ _ (ed_nth hn hi (by omega) (by omega)), setF_same]
theorem colR_past {col : Nat × Nat → Option Nat} {v : Nat} {l : List Nat} (hn : l.Nodup) : ∀ i, i < l.length → ∀ m, m < i → colR col v l i (ed v (nth l m)) = col (ed v (nth l (m + 1)))
  | 0, _, _, hm => by omega
  | i + 1, hi, m, hm => by
    unfold colR
    by_cases h : m = i
    · subst h; rw [setF_same]
    · rw [setF_ne _ _ (ed_nth hn (by omega) (by omega) h), setF_ne _ _ (ed_nth hn (by omega) (by omega) (by omega))]
      exact colR_past hn i (by omega) m (by omega)
/-- the hue that is taken at a turn -/
theorem colR_next {col : Nat × Nat → Option Nat} {v : Nat} {l : List Nat} (hn : l.Nodup) {i : Nat} (hi : i + 1 < l.length) : colR col v l i (ed v (nth l (i + 1))) = col (ed v (nth l (i + 1))) :=
  colR_other _ _ _ _ _ fun m hm => ed_nth hn hi (by omega) (by omega)
/-- hues at v are hues that v had -/
theorem colR_at_v {col : Nat × Nat → Option Nat} {v : Nat} {l : List Nat} (hn : l.Nodup) (h0 : col (ed v (nth l 0)) = none) {i : Nat} (hi : i < l.length) {y h : Nat} (hy : colR col v l i (ed v y) = some h) : ∃ y', col (ed v y') = some h := by
  by_cases hm : ∃ m, m ≤ i ∧ y = nth l m
  · obtain ⟨m, hmi, rfl⟩ := hm
    by_cases h1 : m = i
    · subst h1; rw [colR_none hn h0 m hi] at hy; cases hy
    · rw [colR_past hn i hi m (by omega)] at hy; exact ⟨_, hy⟩
  · rw [colR_other _ _ _ _ _ fun m hmi e => hm ⟨m, hmi, ed_inj e⟩] at hy; exact ⟨_, hy⟩
/-- hues at the edge whose turn it is, but for the one from v -/
theorem colR_at_l {g : List Nat} {us : Nat → Nat} {col : Nat × Nat → Option Nat} {v : Nat} {l : List Nat} (hn : l.Nodup) (h0 : col (ed v (nth l 0)) = none) (hv : ∀ i, i < l.length → v ≠ nth l i) {i : Nat} (hi : i < l.length) {y h : Nat} (hy : colR col v l i (ed (nth l i) y) = some h) : col (ed (nth l i) y) = some h := by
  by_cases hyv : y = v
  · subst hyv
    rw [ed_comm, colR_none hn h0 i hi] at hy; cases hy
  · rw [colR_other _ _ _ _ _ fun m hmi e => by
      rcases ed_eq e with ⟨h1, _⟩ | ⟨_, h2⟩
      · exact hv i hi h1.symm
      · exact hyv h2] at hy
    exact hy
end Go.Proofs.YtpknnjcbcndbbaaDoor
