/- Regions that draw their order and write: it is enough that each operation has one value in every world of a class and stays in the class. The check of a schedule that is one: walk. -/
import Derived.Test.YtocnhikohfkcaaaHuWt
import Derived.Test.YtocnhikohfkcaaaG313
set_option linter.unusedVariables false
set_option linter.unusedSimpArgs false
namespace Go.Proofs.Ytocnhikohfkcaaa
variable {F : Fence} {n : Nat} {P : Program} {ops : Array Oper} {md : Region.Mode} {C : World → Prop}
/-- one value, a world of the class -/
def YC (P : Program) (C : World → Prop) (o : Oper) (v : Value) (a : Act) : Prop :=
  ∀ w, C w → ∃ w', C w' ∧ ((execOp a.eval o).run P w = .ok (.value v) w' ∨ ((execOp a.eval o).run P w = .ok .skip w' ∧ v = undef))
theorem YC.same {o : Oper} {v : Value} {a a' : Act} (h : YC P C o v a) (he : execOp a'.eval o = execOp a.eval o) : YC P C o v a' := fun w hw => by rw [he]; exact h w hw
def opC (P : Program) (ops : Array Oper) (C : World → Prop) (i : Nat) (K : Act → Prop) (a : Act) : Prop := ∃ o v, ops[i]? = some o ∧ YC P C o v a ∧ K (a.put o.dst v)
theorem opC_mono {i : Nat} {a : Act} {K K' : Act → Prop} (h : ∀ a, K a → K' a) (hh : opC P ops C i K a) : opC P ops C i K' a :=
  let ⟨o, v, h1, h2, h3⟩ := hh
  ⟨o, v, h1, h2, h _ h3⟩
theorem opC_put {j : Nat} {oi oj : Oper} {v : Value} (hj : ops[j]? = some oj) (hap : oi.apart ops oj = true) (hsi : ∀ cs b, oi.op ≠ .select cs b) (hsj : ∀ cs b, oj.op ≠ .select cs b) {K : Act → Prop} {a : Act}
    (hy : YC P C oi v a) (h : opC P ops C j K (a.put oi.dst v)) : opC P ops C j (fun a' => YC P C oi v a' ∧ K (a'.put oi.dst v)) a := by
  obtain ⟨h1, h2, h3⟩ := Oper.apart_spec hap
  obtain ⟨o, u, ho, hu, hk⟩ := h
  rw [hj] at ho
  cases ho
  exact ⟨oj, u, hj, hu.same (execOp_put oj hsj a oi.dst v h1).symm, hy.same (execOp_put oi hsi a oj.dst u h3), by rw [← Act.put_comm a v u h2]; exact hk⟩
def wpAnyC (P : Program) (md : Region.Mode) (ops : Array Oper) (C : World → Prop) (Q : Act → Prop) : Nat → Array Bool → Act → Prop
  | 0, listed, a => Region.ready md ops listed = [] ∧ Q a
  | f + 1, listed, a => (Region.ready md ops listed = [] → Q a) ∧ ∀ i ∈ Region.ready md ops listed, opC P ops C i (wpAnyC P md ops C Q f (listed.setIfInBounds i true)) a
theorem wpAnyC_first {Q : Act → Prop} {i : Nat} {oi : Oper} {v : Value} (hi : ops[i]? = some oi) (hsel : ∀ (j : Nat) (o : Oper) cs b, ops[j]? = some o → o.op ≠ .select cs b) :
    ∀ (f : Nat) (listed : Array Bool) (a : Act),
      (∀ j oj, ops[j]? = some oj → j ≠ i → listed.getD j true = false → (∀ e ∈ oj.after, Region.binds md e = true → e.on ≠ i) → oi.apart ops oj = true) →
      i ∈ Region.ready md ops listed → YC P C oi v a → wpAnyC P md ops C Q f (listed.setIfInBounds i true) (a.put oi.dst v) → wpAnyC P md ops C Q (f + 1) listed a := by
  intro f
  induction f with
  | zero =>
    intro listed a _ hr hy H
    refine ⟨fun h => absurd hr (by rw [h]; simp), fun j hj => ?_⟩
    by_cases hji : j = i
    · subst hji; exact ⟨oi, v, hi, hy, H⟩
    · have := ready_mono hj hji
      rw [H.1] at this
      cases this
  | succ f ih =>
    intro listed a hfree hr hy H
    refine ⟨fun h => absurd hr (by rw [h]; simp), fun j hj => ?_⟩
    by_cases hji : j = i
    · subst hji; exact ⟨oi, v, hi, hy, H⟩
    · obtain ⟨hjun, oj, hoj, hall⟩ := mem_ready.1 hj
      have hnot : ∀ e ∈ oj.after, Region.binds md e = true → e.on ≠ i := fun e he hb heq => by
        have h1 := hall e he hb
        rw [heq, getD_both (mem_ready.1 hr).1] at h1
        cases h1
      refine opC_mono (fun a' h3 => ih (listed.setIfInBounds j true) a' (fun k ok hk hki hun hno => hfree k ok hk hki ?_ hno) (ready_mono hr (Ne.symm hji)) h3.1 (by rw [Array.setIfInBounds_comm _ _ hji]; exact h3.2))
        (opC_put hoj (hfree j oj hoj hji hjun hnot) (fun cs b => hsel i oi cs b hi) (fun cs b => hsel j oj cs b hoj) hy (H.2 j (ready_mono hj hji)))
      by_cases hjk : j = k
      · subst hjk; exact hjun
      · rw [getD_set_ne true hjk] at hun; exact hun
/-- the walk in the order of the text -/
def wpC (P : Program) (C : World → Prop) (Q : Act → Prop) : List Oper → Act → Prop
  | [], a => Q a
  | o :: rest, a => ∃ v, YC P C o v a ∧ wpC P C Q rest (a.put o.dst v)
theorem wpAnyC_lex {Q : Act → Prop} (hs : Region.noSelect ops = true) : ∀ (l : List Oper) (k : Nat) (listed : Array Bool) (a : Act), (∀ j, l[j]? = ops[k + j]?) →
    Region.lexFrom md ops l.length k listed = true → wpC P C Q l a → wpAnyC P md ops C Q l.length listed a
  | [], _, _, _, _, hB, h => ⟨by simpa [Region.lexFrom] using hB, h⟩
  | o :: l, k, listed, a, hl, hB, h => by
    have h0 : ops[k]? = some o := by simpa using (hl 0).symm
    simp only [List.length_cons, Region.lexFrom, Bool.and_eq_true] at hB
    obtain ⟨v, hy, hK⟩ := h
    exact wpAnyC_first h0 (Region.noSelect_spec hs) l.length listed a (Region.free_spec h0 hB.1.2) (by simpa using hB.1.1) hy
      (wpAnyC_lex hs l (k + 1) _ _ (fun j => by have := hl (j + 1); simpa [Nat.add_assoc, Nat.add_comm 1 j] using this) hB.2 hK)
/-- neither deferred nor guarded -/
def bareOp (o : Oper) : Bool := Hu.plainOp o && o.guard.isNone
theorem opC_op {i : Nat} {a : Act} {K : Act → Prop} {K' : Act → World → Prop} {Q' : Exit → Act → World → Prop} {w : World} (hF : ∀ f, F.fn f) (hro : ∀ (i : Nat) (o : Oper), ops[i]? = some o → bareOp o = true) (hC : C w) (h : ∀ a w', C w' → K a → K' a w')
    (hh : opC P ops C i K a) : wpOpIn F n P ops Q' i K' a w := by
  obtain ⟨o, v, ho, hy, hk⟩ := hh
  have hb := hro i o ho
  unfold bareOp at hb
  rw [Bool.and_eq_true] at hb
  have hw : Region.wanted o (yielded ops a.tmps) = true := by
    have := Option.isNone_iff_eq_none.1 hb.2
    simp [Region.wanted, this]
  unfold wpOpIn
  simp only [ho, hw, if_true]
  unfold Oper.wpIn
  refine ⟨fun f _ => hF f, ?_⟩
  rw [Oper.semAt_eq _ _ _ (Hu.plainOp_spec hb.1)]
  obtain ⟨w', hw', hr⟩ := hy w hC
  rcases hr with hr | ⟨hr, rfl⟩
  · rw [hr]; exact h _ _ hw' hk
  · rw [hr]; exact h _ _ hw' hk
theorem wpAnyC_in {Q : Act → Prop} {Q' : Exit → Act → World → Prop} (hF : ∀ f, F.fn f) (hro : ∀ (i : Nat) (o : Oper), ops[i]? = some o → bareOp o = true) (hQ : ∀ a w, C w → Q a → Q' .normal a w) : ∀ (f : Nat) (listed : Array Bool) (a : Act) (w : World), C w →
    wpAnyC P md ops C Q f listed a → wpAnyIn F n P md ops Q' f listed a w
  | 0, _, _, _, hw, h => ⟨h.1, hQ _ _ hw h.2⟩
  | f + 1, _, _, _, hw, h => ⟨fun h0 => hQ _ _ hw (h.1 h0), fun i hi => opC_op hF hro hw (fun a' w' hw' => wpAnyC_in hF hro hQ f _ a' w' hw') (h.2 i hi)⟩
/-- a region that draws its order, by a class that its operations keep -/
theorem wpIn_region_C {id : Nat} {Q : Exit → Act → World → Prop} {a : Act} {w : World} {l : List Oper} (hF : ∀ f, F.fn f) (hro : l.all bareOp = true) (hm : P.follows .mixedOrders = true) (hB : Region.lexB .any l.toArray = true)
    (hC : C { w with drawn := w.drawn + 1 }) (h : wpC P C (fun a' => ∀ W, C W → Q .normal a' W) l a) : (Code.region id l.toArray true).wpIn F n P Q a w := by
  simp only [Region.lexB, Bool.and_eq_true] at hB
  refine wpIn_region_any hm (wpAnyC_in (C := C) (Q := fun a' => ∀ W, C W → Q .normal a' W) hF ?_ (fun _ w' hw' h => h w' hw') _ _ _ _ hC ?_)
  · intro i o ho
    refine List.all_eq_true.1 hro o ?_
    simp only [List.getElem?_toArray] at ho
    exact List.mem_of_getElem? ho
  · have := wpAnyC_lex (P := P) (C := C) (md := .any) hB.1 l.toArray.toList 0 (Array.replicate l.toArray.size false) a (by simp) (by simpa using hB.2) (by simpa using h)
    simpa using this
section
variable {o : Oper} {a : Act} {v : Value}
theorem yc_move {x : Operand} (ho : o.op = .move x) (hx : a.eval x = v) : YC P C o v a := fun w hw => ⟨w, hw, .inl (by simp [execOp, ho, hx])⟩
theorem yc_load {T : TypeId} {x : Operand} {p : Value} (ho : o.op = .load T x) (hx : a.eval x = p) (h : ∀ w, C w → (Instr.loadAt T p).run P w = .ok v w) : YC P C o v a := fun w hw => ⟨w, hw, .inl (by simp [execOp, ho, hx, h w hw, Result.andThen])⟩
theorem yc_index {T : TypeId} {x i : Operand} {p q : Value} (ho : o.op = .indexAddr T x i) (hx : a.eval x = p) (hi : a.eval i = q) (h : ∀ w, C w → (Instr.indexAt T p q).run P w = .ok v w) : YC P C o v a := fun w hw => ⟨w, hw, .inl (by simp [execOp, ho, hx, hi, h w hw, Result.andThen])⟩
theorem yc_field {T : TypeId} {x : Operand} {p : Value} {i : Nat} (ho : o.op = .fieldAddr T x i) (hx : a.eval x = p) (h : ∀ w, C w → (Instr.fieldAt T p i).run P w = .ok v w) : YC P C o v a := fun w hw => ⟨w, hw, .inl (by simp [execOp, ho, hx, h w hw, Result.andThen])⟩
theorem yc_store {T : TypeId} {x y : Operand} {p q : Value} (ho : o.op = .store T x y) (hx : a.eval x = p) (hy : a.eval y = q) (h : ∀ w, C w → ∃ w', (Instr.storeAt T p q).run P w = .ok () w' ∧ C w') : YC P C o undef a := fun w hw => by
  obtain ⟨w', h1, h2⟩ := h w hw
  exact ⟨w', h2, .inr ⟨by simp [execOp, ho, hx, hy, h1, Result.andThen], rfl⟩⟩
theorem yc_mapUpdate {T : TypeId} {x y z : Operand} {p q r : Value} (ho : o.op = .mapUpdate T x y z) (hx : a.eval x = p) (hy : a.eval y = q) (hz : a.eval z = r) (h : ∀ w, C w → ∃ w', (Instr.mapUpdate T p q r).run P w = .ok () w' ∧ C w') : YC P C o undef a := fun w hw => by
  obtain ⟨w', h1, h2⟩ := h w hw
  exact ⟨w', h2, .inr ⟨by simp [execOp, ho, hx, hy, hz, h1, Result.andThen], rfl⟩⟩
end
end Go.Proofs.Ytocnhikohfkcaaa
namespace Go.Proofs.Ytocnhikohfkcaaa
open Go.RowKit Go.Shelf
attribute [local go_sem] Oper.semAt_some

/-- rows of 27 marks -/
def MarkR (W : World) (B k : Nat) (mk : Nat → Nat → Bool) : Prop := ∃ vs, BoxN W B 68 vs ∧ vs.size = k * 27 ∧ ∀ r x, r < k → x < 27 → vs[r * 27 + x]? = some (.bool (mk r x))
theorem MarkR.cell {W : World} {B k r x : Nat} {mk : Nat → Nat → Bool} (h : MarkR W B k mk) (hr : r < k) (hx : x < 27) : W.cell? ⟨B, r * 27 + x, none⟩ = some (.bool (mk r x)) := by
  obtain ⟨vs, h1, _, h3⟩ := h
  rw [h1.cell]; exact h3 r x hr hx
theorem MarkR.frozen {W : World} {B k : Nat} {mk : Nat → Nat → Bool} (h : MarkR W B k mk) (i : Nat) : W.frozen? ⟨B, i, none⟩ = false := by
  obtain ⟨vs, h1, _⟩ := h
  exact h1.frozen i
theorem MarkR.lt {W : World} {B k : Nat} {mk : Nat → Nat → Bool} (h : MarkR W B k mk) : B < W.heap.size := h.elim fun _ h => h.1.lt
theorem MarkR.block {W W' : World} {B k : Nat} {mk : Nat → Nat → Bool} (h : MarkR W B k mk) (hb : W'.heap[B]? = W.heap[B]?) : MarkR W' B k mk := by
  obtain ⟨vs, h1, h2⟩ := h
  exact ⟨vs, hb.trans h1, h2⟩
theorem MarkR.set {W : World} {B k r x : Nat} {mk : Nat → Nat → Bool} (h : MarkR W B k mk) (hr : r < k) (hx : x < 27) : MarkR (W.setCell ⟨B, r * 27 + x, none⟩ (.bool true)) B k (fun r' x' => mk r' x' || (decide (r' = r) && decide (x' = x))) := by
  obtain ⟨vs, h1, h2, h3⟩ := h
  refine ⟨_, h1.set _ _, by simpa using h2, fun r' x' hr' hx' => ?_⟩
  by_cases e : r' = r ∧ x' = x
  · rw [e.1, e.2, Array.getElem?_setIfInBounds_self_of_lt (by rw [h2]; omega)]; simp
  · have hne : r * 27 + x ≠ r' * 27 + x' := fun h => e (by omega)
    rw [Array.getElem?_setIfInBounds_ne hne, h3 r' x' hr' hx']
    have : (decide (r' = r) && decide (x' = x)) = false := by
      by_cases e1 : r' = r
      · have : x' ≠ x := fun h => e ⟨e1, h⟩
        simp [this]
      · simp [e1]
    show some (Value.bool (mk r' x')) = some (Value.bool (mk r' x' || (decide (r' = r) && decide (x' = x))))
    rw [this]; simp
theorem Ag.of_belowX {ex : Nat → Prop} {A B : World} (h : Below A.heap.size A B) : Ag ex A B := ⟨h.os, h.tape, h.output, h.size, fun k hk _ => h.block k hk⟩
/-- what holds between two rounds -/
structure CkS (w W : World) (b1 br B0 n k h : Nat) (m : Nat → Nat → Nat × Nat) (pre : List (MtX k h)) : Prop where
  bl : Below w.heap.size w W
  xn : Boxed W b1 3 (.int .i64 (n : Int))
  xr : Boxed W br 23 (.int .i64 0)
  xm : Boxed W (B0 + 1) 71 (.map (some B0))
  xs : Boxed W (B0 + 1 + 1 + 1) 72 (.slice (some ⟨B0 + 1 + 1, 0, none⟩) k k)
  mp : ∃ col, MapG ekv bvB W B0 col ∧ (VP pre → ∀ q, (col q).getD false = true → ∃ e ∈ pre.map (·.1), unord (m e.1 e.2) = q)
  rw : ∃ mk, MarkR W (B0 + 1 + 1) k mk ∧ (VP pre → ∀ r x, mk r x = true → ∃ e ∈ pre.map (·.1), e.1 = r ∧ (x = (m e.1 e.2).1 ∨ x = (m e.1 e.2).2))
  sz : B0 + 5 ≤ W.heap.size
theorem CkS.keep {w W W' : World} {b1 br B0 n k h : Nat} {m : Nat → Nat → Nat × Nat} {pre : List (MtX k h)} (H : CkS w W b1 br B0 n k h m pre) (h1 : b1 < B0) (h2 : br < B0) (hB : Below w.heap.size w W') (hs : W.heap.size ≤ W'.heap.size) (hk : ∀ j, j < B0 + 5 → W'.heap[j]? = W.heap[j]?) : CkS w W' b1 br B0 n k h m pre := by
  obtain ⟨col, c1, c2⟩ := H.mp
  obtain ⟨mk, d1, d2⟩ := H.rw
  exact ⟨hB, (hk b1 (by omega)).trans H.xn, (hk br (by omega)).trans H.xr, (hk _ (by omega)).trans H.xm, (hk _ (by omega)).trans H.xs, ⟨col, c1.kept (hk _ (by omega)), c2⟩, ⟨mk, d1.block (hk _ (by omega)), d2⟩, Nat.le_trans H.sz hs⟩
theorem made27 {k r x : Nat} (hr : r < k) (hx : x < 27) : (madeCells (Array.replicate 27 (Value.bool false)) (k * 27))[r * 27 + x]? = some (.bool false) := by
  have h1 : r * 27 + x < k * 27 := by
    have : (r + 1) * 27 ≤ k * 27 := Nat.mul_le_mul_right _ hr
    omega
  have h2 : (r * 27 + x) % 27 = x := by omega
  simp [madeCells, h1, h2, hx]
set_option maxRecDepth 100000 in
set_option maxHeartbeats 8000000 in
theorem Check_in (p : Option Addr) (n k h c K : Nat) (m : Nat → Nat → Nat × Nat) (w : World) (hn : n ≤ 16) (hn2 : 2 ≤ n) (hev : n % 2 = 0) (hk : n - 1 = k) (hh : n / 2 = h) (hP : SchP n m) (hS : SchK w K p k h m) :
    CallsIn Fence.wide 26 Try.prog 26 #[.int .i64 (n : Int), .slice p k c] w fun e w' => e = .returned (.int .i64 0) ∧ Below w.heap.size w w' := by
  have HIR := Lib.hid (fun W => isRight_yes n W hn2 hn hev)
  have HS := Lib.hid hS
  have HP := Lib.hid hP
  have HCT := Lib.hid (fun b1 W h2 h3 => contsch_any p n k h c b1 K m W hh hn (by omega) h2 h3)
  have hsub : (n : Int) - 1 = (k : Int) := by omega
  have q1 : ((k : Int) != (k : Int)) = false := by simp
  have hk15 : k ≤ 15 := by omega
  have hh8 : h ≤ 8 := by omega
  have HK := Lib.hid hk
  have HH := Lib.hid hh
  clear hS hP hk hh hev
  refine callsIn_of_wp_marks Try.func26 rfl trivial ?_ rfl
  simp only [Try.ntmps26, List.size_toArray, List.length_cons, List.length_nil, Nat.reduceAdd, Nat.reduceSub, Array.replicate_succ, Array.replicate_zero, List.push_toArray, List.append_toArray, List.nil_append, List.cons_append]
  refine wpIn_wide.2 ?_
  have HX0 : Hid (Boxed ((w.alloc (.cells #[.int .i64 (n : Int)] 3)).alloc (.cells #[.int .i64 0] 23)) w.heap.size 3 (.int .i64 (n : Int))) := Boxed.alloc (boxed_at rfl) _
  have HX1 : Hid (Boxed ((w.alloc (.cells #[.int .i64 (n : Int)] 3)).alloc (.cells #[.int .i64 0] 23)) (w.heap.size + 1) 23 (.int .i64 0)) := boxed_at (by simp)
  have HB0 : Hid (Below w.heap.size w ((w.alloc (.cells #[.int .i64 (n : Int)] 3)).alloc (.cells #[.int .i64 0] 23))) := ((Below.refl _ _).alloc (Nat.le_refl _) _).alloc (by simp) _
  go_upto_region 1 with (fail)
  have HKX : Hid (KeepsM K w ((w.alloc (.cells #[.int .i64 (n : Int)] 3)).alloc (.cells #[.int .i64 0] 23))) := KeepsM.of_below HB0.out HS.out.1
  have HSZ : Hid (((w.alloc (.cells #[.int .i64 (n : Int)] 3)).alloc (.cells #[.int .i64 0] 23)).heap.size = w.heap.size + 2) := by unfold Hid; simp
  generalize ((w.alloc (.cells #[.int .i64 (n : Int)] 3)).alloc (.cells #[.int .i64 0] 23)) = X at *
  obtain ⟨b1, hb1⟩ : ∃ b1, Hid (b1 = w.heap.size) := ⟨_, rfl⟩
  obtain ⟨br, hbr⟩ : ∃ br, Hid (br = w.heap.size + 1) := ⟨_, rfl⟩
  rw [← hbr.out] at HX1 ⊢
  rw [← hb1.out] at HX0
  simp only [← hb1.out]
  have HSX := Lib.hid (HS.out.keep HKX.out)
  have x0 := HX0.out.cell
  have HCX := Lib.hid (HCT.out b1 X HSX.out x0)
  go_upto_region 5 with (first
    | (go_at_call 35; refine (HIR.out _).mono ?_; rintro e w4 ⟨rfl, hw4⟩; replace hw4 := hw4.symm; subst hw4; try dsimp only)
    | (go_at_call 47; refine HCX.out.mono ?_; rintro e w4 ⟨rfl, hw4⟩; replace hw4 := hw4.symm; subst hw4; try dsimp only))
  have hmm := @run_makeMap Try.prog
  obtain ⟨i1, hi1, hy0, hy1, hy2⟩ := info_parts infoM
  have hmk := fun W => run_make (P := Try.prog) W 72 68 i1 _ underM hi1 hy0 .i64 .i64 (k : Int) (k : Int) (by omega) (Int.le_refl _) (by rw [hy2]; omega) (by omega)
  have hMP : MapG ekv bvB (((((X.alloc (.map #[] 0)).alloc (.cells #[.map (some X.heap.size)] 71)).alloc (.cells (madeCells (Array.replicate 27 (.bool false)) (k * 27)) 68)).alloc (.cells #[.slice (some ⟨X.heap.size + 1 + 1, 0, none⟩) k k] 72)).alloc (.cells #[.slice p k c] 22)) X.heap.size (fun _ => none) := ((((MapG.made X).grown (World.grownBy_alloc _ _ none) (by simp)).grown (World.grownBy_alloc _ _ none) (by simp)).grown (World.grownBy_alloc _ _ none) (by simp)).grown (World.grownBy_alloc _ _ none) (by simp)
  have hbm : Boxed (((((X.alloc (.map #[] 0)).alloc (.cells #[.map (some X.heap.size)] 71)).alloc (.cells (madeCells (Array.replicate 27 (.bool false)) (k * 27)) 68)).alloc (.cells #[.slice (some ⟨X.heap.size + 1 + 1, 0, none⟩) k k] 72)).alloc (.cells #[.slice p k c] 22)) (X.heap.size + 1) 71 (.map (some X.heap.size)) := ((Boxed.alloc (Boxed.alloc (Boxed.alloc (boxed_at (by simp)) _) _) _))
  have hrb : MarkR (((((X.alloc (.map #[] 0)).alloc (.cells #[.map (some X.heap.size)] 71)).alloc (.cells (madeCells (Array.replicate 27 (.bool false)) (k * 27)) 68)).alloc (.cells #[.slice (some ⟨X.heap.size + 1 + 1, 0, none⟩) k k] 72)).alloc (.cells #[.slice p k c] 22)) (X.heap.size + 1 + 1) k (fun _ _ => false) := ⟨_, ((BoxN.new (W := ((X.alloc (.map #[] 0)).alloc (.cells #[.map (some X.heap.size)] 71))) (t := 68) (vs := madeCells (Array.replicate 27 (.bool false)) (k * 27)) (by simp)).alloc _).alloc _, size_madeCells _ _, fun r x hr hx => made27 hr hx⟩
  have hbs : Boxed (((((X.alloc (.map #[] 0)).alloc (.cells #[.map (some X.heap.size)] 71)).alloc (.cells (madeCells (Array.replicate 27 (.bool false)) (k * 27)) 68)).alloc (.cells #[.slice (some ⟨X.heap.size + 1 + 1, 0, none⟩) k k] 72)).alloc (.cells #[.slice p k c] 22)) (X.heap.size + 1 + 1 + 1) 72 (.slice (some ⟨X.heap.size + 1 + 1, 0, none⟩) k k) := Boxed.alloc (boxed_at (by simp)) _
  have hbg : Boxed (((((X.alloc (.map #[] 0)).alloc (.cells #[.map (some X.heap.size)] 71)).alloc (.cells (madeCells (Array.replicate 27 (.bool false)) (k * 27)) 68)).alloc (.cells #[.slice (some ⟨X.heap.size + 1 + 1, 0, none⟩) k k] 72)).alloc (.cells #[.slice p k c] 22)) (X.heap.size + 1 + 1 + 1 + 1) 22 (.slice p k c) := boxed_at (by simp)
  have hBU : Below X.heap.size X (((((X.alloc (.map #[] 0)).alloc (.cells #[.map (some X.heap.size)] 71)).alloc (.cells (madeCells (Array.replicate 27 (.bool false)) (k * 27)) 68)).alloc (.cells #[.slice (some ⟨X.heap.size + 1 + 1, 0, none⟩) k k] 72)).alloc (.cells #[.slice p k c] 22)) := (((((Below.refl _ X).alloc (Nat.le_refl _) _).alloc (by simp) _).alloc (by simp; omega) _).alloc (by simp; omega) _).alloc (by simp; omega) _
  have hSU : (((((X.alloc (.map #[] 0)).alloc (.cells #[.map (some X.heap.size)] 71)).alloc (.cells (madeCells (Array.replicate 27 (.bool false)) (k * 27)) 68)).alloc (.cells #[.slice (some ⟨X.heap.size + 1 + 1, 0, none⟩) k k] 72)).alloc (.cells #[.slice p k c] 22)).heap.size = X.heap.size + 5 := by simp
  have HMF := Lib.hid (fun W => matchesf_any p k c W)
  go_upto_region 8 with (go_at_call 49; refine (HMF.out _).mono ?_; rintro e w5 ⟨rfl, hw5⟩; subst hw5)
  generalize (((((X.alloc (.map #[] 0)).alloc (.cells #[.map (some X.heap.size)] 71)).alloc (.cells (madeCells (Array.replicate 27 (.bool false)) (k * 27)) 68)).alloc (.cells #[.slice (some ⟨X.heap.size + 1 + 1, 0, none⟩) k k] 72)).alloc (.cells #[.slice p k c] 22)) = U at *
  obtain ⟨B0, hB0⟩ : ∃ B0, Hid (B0 = X.heap.size) := ⟨_, rfl⟩
  have hx0 := HX0.out
  have hx1 := HX1.out
  have hbx : b1 < B0 ∧ br < B0 := by have := HSZ.out; have := hb1.out; have := hbr.out; have := hB0.out; omega
  rw [← hB0.out] at hMP hbm hrb hbs hbg hBU hSU ⊢
  have HBW : Hid (Below w.heap.size w U) := HB0.out.trans (hBU.mono (by have := HSZ.out; have := hB0.out; omega))
  have HX0U : Hid (Boxed U b1 3 (.int .i64 (n : Int))) := (hBU.block b1 hbx.1).trans hx0
  have HX1U : Hid (Boxed U br 23 (.int .i64 0)) := (hBU.block br hbx.2).trans hx1
  have HMI : Hid (MtIn (B0 + 1 + 1 + 1 + 1) K p c k h m U) := ⟨(HSX.out.keep (KeepsM.of_below hBU (by have := HSX.out.1; have := hB0.out; omega))), hbg.cell, by have := hSU; omega⟩
  have HKU : Hid (K ≤ U.heap.size) := HMI.out.sch.1
  clear HIR HCT HCX HMF x0 hmm hmk hx0 hx1 HSX HX0 HX1 HB0 HKX
  have HSU := Lib.hid hSU
  have HBX := Lib.hid hbx
  refine (wpIn_wide (n := 26)).1 ?_
  refine rf_box2 (m := m) (k := k) (h := h) (K := K) (by decide) (gf := 63) (lb := #[.pointer (some ⟨B0 + 1 + 1 + 1 + 1, 0, none⟩)]) rfl (enters_of Try.func63 (by kernel_rfl) rfl)
    (mt_stops 25 (by decide) (B0 + 1 + 1 + 1 + 1) K c k h p m hk15 hh8 U HMI.out) HKU.out HMI.out.lt (by simp) (by simp) (by simp) (by decide) (by decide) (by decide)
    (fun pre W => CkS w W b1 br B0 n k h m pre ∧ U.heap.size ≤ W.heap.size)
    (fun cd pre _ => cd = .ret ∧ ¬ VP pre) ?hI ?hIx ?hIs ?h0 ?body ?done ?stop
  case hI =>
    intro pre A C row hs hg hr
    have hne : ∀ {k}, k < B0 + 5 → some k ≠ row := fun hk e => by have := (hr _ e.symm).1; have := HSU.out; omega
    refine ⟨hs.1.keep HBX.out.1 HBX.out.2 (hs.1.bl.trans ⟨hg.os, hg.tape, hg.output, hg.size, fun kk hk => hg.block kk (Nat.lt_of_lt_of_le hk hs.1.bl.size) (hne (by have := HBW.out.size; have := HSU.out; omega))⟩) hg.size (fun j hj => hg.block j (by have := hs.1.sz; omega) (hne hj)), Nat.le_trans hs.2 hg.size⟩
  case hIx => intro cd pre A C row hs hg hr; exact hs
  case hIs => intro pre W hs; exact hs.2
  case h0 => exact ⟨⟨HBW.out, HX0U.out, HX1U.out, hbm, hbs, ⟨_, hMP, fun _ q hq => by cases hq⟩, ⟨_, hrb, fun _ r x hx => by cases hx⟩, by have := HSU.out; omega⟩, Nat.le_refl _⟩
  case body =>
    rintro lf pre x W B8 ⟨hs, hUW⟩ hB8 hbx8 hlen
    simp only [List.setIfInBounds_toArray, List.set_cons_zero, List.set_cons_succ]
    obtain ⟨u, hu⟩ : ∃ u, (m x.1.1 x.1.2).1 = u := ⟨_, rfl⟩
    obtain ⟨v, hv⟩ : ∃ v, (m x.1.1 x.1.2).2 = v := ⟨_, rfl⟩
    rw [hu, hv] at hbx8 ⊢
    obtain ⟨r, hr⟩ : ∃ r, x.1.1 = r := ⟨_, rfl⟩
    obtain ⟨i, hi⟩ : ∃ i, x.1.2 = i := ⟨_, rfl⟩
    have hrk : r < k := by rw [← hr]; exact x.2.1
    have hih : i < h := by rw [← hi]; exact x.2.2
    have hrng := HP.out.rng r i (by rw [HK.out]; exact hrk) (by rw [HH.out]; exact hih)
    rw [hr, hi] at hu hv
    rw [hu, hv] at hrng
    rw [hr]
    have HXE : Hid (x.1 = (r, i)) := Prod.ext hr hi
    have HU1 := Lib.hid hu
    have HV1 := Lib.hid hv
    have hun := hrng.1
    have hvn := hrng.2.1
    have HNE := Lib.hid hrng.2.2
    clear hu hv hr hi hrng
    have b80 := hbx8.cell 0
    have b81 := hbx8.cell 1
    have n0 := hs.xn.cell
    have e1 : min (u : Int) (v : Int) = ((min u v : Nat) : Int) := by omega
    have e2 : max (u : Int) (v : Int) = ((max u v : Nat) : Int) := by omega
    have g1 : ¬ ((min u v : Nat) : Int) < 0 := by omega
    have g2 : ¬ (n : Int) ≤ ((max u v : Nat) : Int) := by omega
    have HPO := Lib.hid (fun W => pairOf_any u v W (by omega) (by omega))
    have HLO : Hid (unord (u, v) = (min u v, max u v)) := rfl
    have q0 : decide (((min u v : Nat), (max u v : Nat)) = (u, u)) = false := by
      have := HNE.out
      rw [decide_eq_false_iff_not, Prod.mk.injEq]
      omega
    have q9 : ∀ {α : Type} (i1 : Decidable (((min u v : Nat) : Int) = (u : Int))) (i2 : Decidable (((max u v : Nat) : Int) = (u : Int))) (A B : α), @ite α _ i1 (@ite α _ i2 A B) B = B := by
      intro α i1 i2 A B
      have := HNE.out
      by_cases h1 : ((min u v : Nat) : Int) = (u : Int)
      · rw [if_pos h1, if_neg (by omega)]
      · rw [if_neg h1]
    have HLV : Hid ((min u v = u ∨ min u v = v) ∧ (max u v = u ∨ max u v = v)) := by unfold Hid; omega
    have hlo16 : min u v < 27 := by omega
    have hhi16 : max u v < 27 := by omega
    have HS1 := Lib.hid hs
    have HB8 := Lib.hid hbx8
    have hUWn : U.heap.size ≤ W.heap.size := hUW
    clear hs hbx8
    generalize min u v = lo at *
    generalize max u v = hi at *
    gi_upto_region 13 with (gi_at_call 50; refine (CallsIn.inRound lf (callsIn_wide.2 (HPO.out _))).mono ?_; rintro e w4 ⟨rfl, hB4⟩; have HB4 := Lib.hid hB4; clear hB4)
    have HB9 : Hid (BoxN (w4.alloc (.cells #[.int .i64 (lo : Int), .int .i64 (hi : Int)] 77)) w4.heap.size 77 #[.int .i64 (lo : Int), .int .i64 (hi : Int)]) := BoxN.new rfl
    have HBY : Hid (Below W.heap.size W (w4.alloc (.cells #[.int .i64 (lo : Int), .int .i64 (hi : Int)] 77))) := HB4.out.alloc HB4.out.size _
    obtain ⟨b9, hb9⟩ : ∃ b9, Hid (b9 = w4.heap.size) := ⟨_, rfl⟩
    rw [← hb9.out] at HB9 ⊢
    generalize w4.alloc (.cells #[.int .i64 (lo : Int), .int .i64 (hi : Int)] 77) = Y at *
    have hWY : W.heap.size ≤ Y.heap.size := HBY.out.size
    have hY9 := HB9.out.lt
    have h8W := HB8.out.lt
    have HSY : Hid (CkS w Y b1 br B0 n k h m pre) := HS1.out.keep HBX.out.1 HBX.out.2 (HS1.out.bl.trans (HBY.out.mono HS1.out.bl.size)) hWY (fun j hj => HBY.out.block j (by have := HS1.out.sz; omega))
    obtain ⟨col, hcol, hcl⟩ := HSY.out.mp
    obtain ⟨mk, hmk, hml⟩ := HSY.out.rw
    have HCL := Lib.hid hcl
    have HML := Lib.hid hml
    have HCOL := Lib.hid hcol
    have HMK := Lib.hid hmk
    have HYZ : Hid (B0 + 5 ≤ Y.heap.size) := HSY.out.sz
    have cp0 : ∀ d : Hu.BW Y.heap.size Y, d.w.cell? ⟨b9, 0, none⟩ = some (.int .i64 (lo : Int)) := fun d => d.cell hY9 (HB9.out.cell 0)
    have cp1 : ∀ d : Hu.BW Y.heap.size Y, d.w.cell? ⟨b9, 1, none⟩ = some (.int .i64 (hi : Int)) := fun d => d.cell hY9 (HB9.out.cell 1)
    have cu : ∀ d : Hu.BW Y.heap.size Y, d.w.cell? ⟨B8, 0, none⟩ = some (.int .i64 (u : Int)) := fun d => d.cell (show B8 < Y.heap.size by omega) ((HB8.out.below HBY.out h8W).cell 0)
    have cb : ∀ d : Hu.BW Y.heap.size Y, d.w.cell? ⟨B0 + 1, 0, none⟩ = some (.map (some B0)) := fun d => d.cell (show B0 + 1 < Y.heap.size by have := HYZ.out; omega) HSY.out.xm.cell
    have cs : ∀ d : Hu.BW Y.heap.size Y, d.w.cell? ⟨B0 + 1 + 1 + 1, 0, none⟩ = some (.slice (some ⟨B0 + 1 + 1, 0, none⟩) k k) := fun d => d.cell (show B0 + 1 + 1 + 1 < Y.heap.size by have := HYZ.out; omega) HSY.out.xs.cell
    have m1 : ∀ d : Hu.BW Y.heap.size Y, d.w.cell? ⟨B0 + 1 + 1, r * 27 + lo, none⟩ = some (.bool (mk r lo)) := fun d => d.cell (show B0 + 1 + 1 < Y.heap.size by have := HYZ.out; omega) (HMK.out.cell hrk hlo16)
    have m2 : ∀ d : Hu.BW Y.heap.size Y, d.w.cell? ⟨B0 + 1 + 1, r * 27 + hi, none⟩ = some (.bool (mk r hi)) := fun d => d.cell (show B0 + 1 + 1 < Y.heap.size by have := HYZ.out; omega) (HMK.out.cell hrk hhi16)
    have ml : ∀ d : Hu.BW Y.heap.size Y, Sem.run Try.prog (Instr.lookup 71 (.map (some B0)) (.agg #[.int .i64 (lo : Int), .int .i64 (hi : Int)]) false) d.w = .ok (.bool ((col (lo, hi)).getD false)) d.w := fun d => look_g pairKind false (lo, hi) d.w B0 col (HCOL.out.below d.b (by have := HYZ.out; omega))
    have HXR : Hid (∀ d : Hu.BW Y.heap.size Y, Boxed d.w br 23 (.int .i64 0)) := fun d => (d.b.block br (by have := HYZ.out; have := HBX.out; omega)).trans HSY.out.xr
    have HAG : Hid (∀ d : Hu.BW Y.heap.size Y, Ag (fun j => j = B0 ∨ j = br ∨ j = B0 + 1 + 1) W d.w) := fun d => Ag.of_belowX (HBY.out.trans (d.b.mono hWY))
    have HT1 : Hid ((col (lo, hi)).getD false = true → ¬ VP (pre ++ [x])) := fun ht hv => by
      obtain ⟨e, he, e2⟩ := HCL.out hv.init _ ht
      refine hv.fresh ?_
      have h1 := List.mem_map.1 he
      obtain ⟨y, hy, rfl⟩ := h1
      have h2 := HP.out.met y.1.1 y.1.2 r i (by rw [HK.out]; exact y.2.1) (by rw [HH.out]; exact y.2.2) (by rw [HK.out]; exact hrk) (by rw [HH.out]; exact hih) (by rw [e2, ← HLO.out, ← HU1.out, ← HV1.out])
      rw [HXE.out, ← h2.1, ← h2.2]
      exact he
    have HT2 : Hid (∀ z, (z = u ∨ z = v) → mk r z = true → ¬ VP (pre ++ [x])) := fun z hz ht hv => by
      obtain ⟨e, he, e2, e3⟩ := HML.out hv.init _ _ ht
      obtain ⟨y, hy, rfl⟩ := List.mem_map.1 he
      refine hv.fresh ?_
      rw [HXE.out]
      by_cases h3 : y.1.2 = i
      · rw [← e2, ← h3]; exact he
      · have h4 := HP.out.one r y.1.2 i (by rw [HK.out]; exact hrk) (by rw [HH.out]; exact y.2.2) (by rw [HH.out]; exact hih) h3
        rw [e2] at e3
        rw [HU1.out, HV1.out] at h4
        rcases e3 with e3 | e3 <;> rcases hz with hz | hz
        · exact absurd (e3.symm.trans hz) h4.1
        · exact absurd (e3.symm.trans hz) h4.2.1
        · exact absurd (e3.symm.trans hz) h4.2.2.1
        · exact absurd (e3.symm.trans hz) h4.2.2.2
    have hrk' : (r : Int) < (k : Int) := by omega
    have hlo27 : (lo : Int) < 27 := by omega
    have hhi27 : (hi : Int) < 27 := by omega
    clear n0 b80 b81 hcol hmk hcl hml hUW hB8
    cases ht1 : (col (lo, hi)).getD false with
    | true =>
      rw [ht1] at ml
      gi_wp2
      refine Hu.quietR_bw (by kernel_rfl) (by kernel_rfl) (by kernel_rfl) ?_
      repeat (gi_big_quiet_step (rfl))
      skip
      refine wpQuietIn_nil ?_
      rintro _ ⟨d, rfl⟩
      have HNV := Lib.hid (HT1.out ht1)
      have HAG2 := Lib.hid (HAG.out d)
      have fr := (HXR.out d).frozen
      have cr := (HXR.out d).cell
      clear m1 m2 ml cb cs cp0 cp1 cu
      gi_wp2
      have HA3 := Lib.hid (HAG2.out.set ⟨br, 0, none⟩ (.int .i64 90) (.inr (.inr (.inl rfl))))
      exact ⟨⟨HA3.out.size, fun kk o hk ho _ => HA3.out.obj ho (fun e => by have := HSU.out; have := HBX.out; omega)⟩, rfl, HNV.out⟩
    | false =>
      rw [ht1] at ml
      cases ht2 : mk r lo with
      | true =>
        rw [ht2] at m1
        gi_wp2
        refine Hu.quietR_bw (by kernel_rfl) (by kernel_rfl) (by kernel_rfl) ?_
        repeat (gi_big_quiet_step (rfl))
        skip
        refine wpQuietIn_nil ?_
        rintro _ ⟨d, rfl⟩
        have HNV := Lib.hid (HT2.out lo HLV.out.1 ht2)
        have HAG2 := Lib.hid (HAG.out d)
        have fr := (HXR.out d).frozen
        have cr := (HXR.out d).cell
        clear m1 m2 ml cb cs cp0 cp1 cu
        gi_wp2
        have HA3 := Lib.hid (HAG2.out.set ⟨br, 0, none⟩ (.int .i64 90) (.inr (.inr (.inl rfl))))
        exact ⟨⟨HA3.out.size, fun kk o hk ho _ => HA3.out.obj ho (fun e => by have := HSU.out; have := HBX.out; omega)⟩, rfl, HNV.out⟩
      | false =>
        rw [ht2] at m1
        cases ht3 : mk r hi with
        | true =>
          rw [ht3] at m2
          gi_wp2
          refine Hu.quietR_bw (by kernel_rfl) (by kernel_rfl) (by kernel_rfl) ?_
          repeat (gi_big_quiet_step (rfl))
          skip
          refine wpQuietIn_nil ?_
          rintro _ ⟨d, rfl⟩
          have HNV := Lib.hid (HT2.out hi HLV.out.2 ht3)
          have HAG2 := Lib.hid (HAG.out d)
          have fr := (HXR.out d).frozen
          have cr := (HXR.out d).cell
          clear m1 m2 ml cb cs cp0 cp1 cu
          gi_wp2
          have HA3 := Lib.hid (HAG2.out.set ⟨br, 0, none⟩ (.int .i64 90) (.inr (.inr (.inl rfl))))
          exact ⟨⟨HA3.out.size, fun kk o hk ho _ => HA3.out.obj ho (fun e => by have := HSU.out; have := HBX.out; omega)⟩, rfl, HNV.out⟩
        | false =>
          rw [ht3] at m2
          have HIT : Hid (ht1 = ht1) := rfl
          clear HIT ht1 ht2 ht3 HT1 HT2
          gi_wp2
          refine Hu.quietR_bw (by kernel_rfl) (by kernel_rfl) (by kernel_rfl) ?_
          repeat (gi_big_quiet_step (rfl))
          skip
          refine wpQuietIn_nil ?_
          rintro _ ⟨d, rfl⟩
          have HSYd : Hid (CkS w d.w b1 br B0 n k h m pre) := HSY.out.keep HBX.out.1 HBX.out.2 (HSY.out.bl.trans (d.b.mono HSY.out.bl.size)) d.b.size (fun j hj => d.b.block j (by have := HYZ.out; omega))
          have HCd : Hid (MapG ekv bvB d.w B0 col) := HCOL.out.below d.b (by have := HYZ.out; omega)
          have HMd : Hid (MarkR d.w (B0 + 1 + 1) k mk) := HMK.out.block (d.b.block _ (by have := HYZ.out; omega))
          have HAd := Lib.hid (HAG.out d)
          have H9d := Lib.hid (HB9.out.below d.b hY9)
          have hYd : Y.heap.size ≤ d.w.heap.size := d.b.size
          have hYZ := HYZ.out
          clear m1 m2 ml cb cs cp0 cp1 cu HXR HAG HSY HCOL HMK HYZ HB9 HBY
          generalize d.w = Z at *
          have h9d := H9d.out.lt
          have hb9B : B0 + 5 ≤ b9 := by have := hb9.out; have := HB4.out.size; have := HS1.out.sz; omega
          have HSYd1 := HSYd.out
          have hbxx := HBX.out
          have hwB : w.heap.size ≤ B0 := by have := hb1.out; omega
          obtain ⟨cls, hcls⟩ : ∃ cls : World → Prop, cls = (fun V => Ag (fun j => j = B0 ∨ j = B0 + 1 + 1) Z V ∧ (∃ col', MapG ekv bvB V B0 col' ∧ ∀ q, (col' q).getD false = true → q = (lo, hi) ∨ (col q).getD false = true) ∧ ∃ mk', MarkR V (B0 + 1 + 1) k mk' ∧ ∀ r' z, mk' r' z = true → mk r' z = true ∨ (r' = r ∧ (z = lo ∨ z = hi))) := ⟨_, rfl⟩
          have HC0 : Hid (cls { Z with drawn := Z.drawn + 1 }) := by
            unfold Hid; rw [hcls]
            exact ⟨Ag.refl _ Z |>.drewN 1, ⟨col, HCd.out.kept rfl, fun q h => .inr h⟩, ⟨mk, HMd.out.block rfl, fun r' z h => .inl h⟩⟩
          have cp0 : ∀ W, cls W → W.cell? ⟨b9, 0, none⟩ = some (.int .i64 (lo : Int)) := fun W h => by rw [hcls] at h; exact (h.1.boxN H9d.out (fun e => by omega)).cell 0
          have cp1 : ∀ W, cls W → W.cell? ⟨b9, 1, none⟩ = some (.int .i64 (hi : Int)) := fun W h => by rw [hcls] at h; exact (h.1.boxN H9d.out (fun e => by omega)).cell 1
          have cb : ∀ W, cls W → W.cell? ⟨B0 + 1, 0, none⟩ = some (.map (some B0)) := fun W h => by rw [hcls] at h; exact (h.1.boxed HSYd1.xm (fun e => by omega)).cell
          have cs : ∀ W, cls W → W.cell? ⟨B0 + 1 + 1 + 1, 0, none⟩ = some (.slice (some ⟨B0 + 1 + 1, 0, none⟩) k k) := fun W h => by rw [hcls] at h; exact (h.1.boxed HSYd1.xs (fun e => by omega)).cell
          have HMU : Hid (∀ W, cls W → ∃ W', (Instr.mapUpdate 71 (.map (some B0)) (.agg #[.int .i64 (lo : Int), .int .i64 (hi : Int)]) (.bool true)).run Try.prog W = .ok () W' ∧ cls W') := fun W h => by
            rw [hcls] at h ⊢
            obtain ⟨ha, ⟨col', hm, hc⟩, mk', hM, hk⟩ := h
            obtain ⟨W', hr, h1, h2⟩ := store_g pairKind (lo, hi) true W B0 col' hm
            refine ⟨W', hr, ha.trans (Ag.of_grown h2 (fun kk e => by cases e; exact .inl rfl)), ⟨_, h1, fun q hq => ?_⟩, mk', hM.block (h2.block _ hM.lt (fun e => by cases e)), hk⟩
            unfold setF at hq
            by_cases e : q = (lo, hi)
            · exact .inl e
            · rw [if_neg e] at hq; exact hc q hq
          have HMS : Hid (∀ z, z < 27 → (z = lo ∨ z = hi) → ∀ W, cls W → ∃ W', (Instr.storeAt 4 (.pointer (some ⟨B0 + 1 + 1, r * 27 + z, none⟩)) (.bool true)).run Try.prog W = .ok () W' ∧ cls W') := fun z hz hzz W h => by
            rw [hcls] at h ⊢
            obtain ⟨ha, ⟨col', hm, hc⟩, mk', hM, hk⟩ := h
            have fz := hM.frozen (r * 27 + z)
            have cz := hM.cell hrk hz
            refine ⟨W.setCell ⟨B0 + 1 + 1, r * 27 + z, none⟩ (.bool true), by simp [go_sem, fz, cz], ha.set ⟨B0 + 1 + 1, r * 27 + z, none⟩ _ (.inr (.inr rfl)), ⟨col', hm.kept ((Ag.refl (fun j => j = B0 + 1 + 1) W).set ⟨B0 + 1 + 1, r * 27 + z, none⟩ _ (.inr rfl) |>.block B0 hm.lt (fun e => by omega)), hc⟩, _, hM.set hrk hz, fun r' y hy => ?_⟩
            simp only [Bool.or_eq_true, Bool.and_eq_true, decide_eq_true_eq] at hy
            rcases hy with hy | ⟨rfl, rfl⟩
            · exact hk _ _ hy
            · exact .inr ⟨rfl, hzz⟩
          clear HCd HMd
          gi_wp2
          refine wpIn_region_C (C := cls) (fun f => trivial) (by kernel_rfl) (by kernel_rfl) (by kernel_rfl) HC0.out ?_
          have hld : ∀ W, cls W → (Instr.loadAt 77 (.pointer (some ⟨b9, 0, none⟩))).run Try.prog W = .ok (.agg #[.int .i64 (lo : Int), .int .i64 (hi : Int)]) W := fun W h => by
            have h0 := cp0 W h
            have h1 := cp1 W h
            simp [go_sem, h0, h1]
          refine ⟨_, yc_load rfl rfl (fun W h => by simp [go_sem, cb W h]; try rfl), ?_⟩
          simp only [Act.put, List.setIfInBounds_toArray, List.set_cons_succ, List.set_cons_zero]
          refine ⟨_, yc_load rfl rfl hld, ?_⟩
          simp only [Act.put, List.setIfInBounds_toArray, List.set_cons_succ, List.set_cons_zero]
          refine ⟨_, yc_load rfl rfl (fun W h => by simp [go_sem, cs W h]; try rfl), ?_⟩
          simp only [Act.put, List.setIfInBounds_toArray, List.set_cons_succ, List.set_cons_zero]
          refine ⟨_, yc_move rfl rfl, ?_⟩
          simp only [Act.put, List.setIfInBounds_toArray, List.set_cons_succ, List.set_cons_zero]
          refine ⟨_, yc_field rfl rfl (fun W _ => by simp [go_sem]; try rfl), ?_⟩
          simp only [Act.put, List.setIfInBounds_toArray, List.set_cons_succ, List.set_cons_zero]
          refine ⟨.int .i64 (lo : Int), yc_load rfl rfl (fun W h => by simp [go_sem, cp0 W h]; try rfl), ?_⟩
          simp only [Act.put, List.setIfInBounds_toArray, List.set_cons_succ, List.set_cons_zero]
          refine ⟨_, yc_load rfl rfl (fun W h => by simp [go_sem, cs W h]; try rfl), ?_⟩
          simp only [Act.put, List.setIfInBounds_toArray, List.set_cons_succ, List.set_cons_zero]
          refine ⟨_, yc_move rfl rfl, ?_⟩
          simp only [Act.put, List.setIfInBounds_toArray, List.set_cons_succ, List.set_cons_zero]
          refine ⟨_, yc_field rfl rfl (fun W _ => by simp [go_sem]; try rfl), ?_⟩
          simp only [Act.put, List.setIfInBounds_toArray, List.set_cons_succ, List.set_cons_zero]
          refine ⟨.int .i64 (hi : Int), yc_load rfl rfl (fun W h => by simp [go_sem, cp1 W h]; try rfl), ?_⟩
          simp only [Act.put, List.setIfInBounds_toArray, List.set_cons_succ, List.set_cons_zero]
          refine ⟨_, yc_mapUpdate rfl rfl rfl rfl HMU.out, ?_⟩
          simp only [Act.put, List.setIfInBounds_toArray, List.set_cons_succ, List.set_cons_zero]
          refine ⟨.pointer (some ⟨B0 + 1 + 1, r * 27, none⟩), yc_index rfl rfl rfl (fun W _ => by simp [go_sem, hrk']), ?_⟩
          simp only [Act.put, List.setIfInBounds_toArray, List.set_cons_succ, List.set_cons_zero]
          refine ⟨.pointer (some ⟨B0 + 1 + 1, r * 27 + lo, none⟩), yc_index rfl rfl rfl (fun W _ => by simp [go_sem, hlo27]), ?_⟩
          simp only [Act.put, List.setIfInBounds_toArray, List.set_cons_succ, List.set_cons_zero]
          refine ⟨_, yc_store rfl rfl rfl (HMS.out lo hlo16 (.inl rfl)), ?_⟩
          simp only [Act.put, List.setIfInBounds_toArray, List.set_cons_succ, List.set_cons_zero]
          refine ⟨.pointer (some ⟨B0 + 1 + 1, r * 27, none⟩), yc_index rfl rfl rfl (fun W _ => by simp [go_sem, hrk']), ?_⟩
          simp only [Act.put, List.setIfInBounds_toArray, List.set_cons_succ, List.set_cons_zero]
          refine ⟨.pointer (some ⟨B0 + 1 + 1, r * 27 + hi, none⟩), yc_index rfl rfl rfl (fun W _ => by simp [go_sem, hhi27]), ?_⟩
          simp only [Act.put, List.setIfInBounds_toArray, List.set_cons_succ, List.set_cons_zero]
          refine ⟨_, yc_store rfl rfl rfl (HMS.out hi hhi16 (.inr rfl)), ?_⟩
          simp only [Act.put, List.setIfInBounds_toArray, List.set_cons_succ, List.set_cons_zero]
          intro V4 hV4
          rw [hcls] at hV4
          obtain ⟨ha, ⟨col', hm, hc⟩, mk', hM, hk⟩ := hV4
          have HAV := Lib.hid ha
          have HC3 := Lib.hid hm
          have HCI := Lib.hid hc
          have HM4 := Lib.hid hM
          have HKI := Lib.hid hk
          clear ha hm hc hM hk cp0 cp1 cb cs hld HC0 HMU HMS
          have HAW : Hid (Ag (fun j => j = B0 ∨ j = br ∨ j = B0 + 1 + 1) W V4) := HAd.out.trans (HAV.out.mono fun j hj => hj.imp id .inr)
          have hwbr : K ≤ br := by have := hbr.out; have := HS.out.1; omega
          have hKB : K ≤ B0 := by have := HS.out.1; omega
          have hUB := HSU.out
          have hVs := HSYd.out.sz
          have hW4 := HSU.out ▸ hUWn
          refine ⟨⟨HAW.out.size, fun kk o hk ho _ => HAW.out.obj ho (fun e => by omega)⟩, ⟨⟨HAW.out.size, fun j hj => HAW.out.block j (by omega) (fun e => by omega)⟩, HAW.out.block _ (by omega) (fun e => by omega)⟩, ⟨?_, ?_, ?_, ?_, ?_, ?_, ?_, ?_⟩, Nat.le_trans (by omega) HAW.out.size⟩
          · exact HAV.out.below HSYd.out.bl HSYd.out.bl.size (fun j hj e => by omega)
          · exact HAV.out.boxed HSYd.out.xn (fun e => by omega)
          · exact HAV.out.boxed HSYd.out.xr (fun e => by omega)
          · exact HAV.out.boxed HSYd.out.xm (fun e => by omega)
          · exact HAV.out.boxed HSYd.out.xs (fun e => by omega)
          · refine ⟨_, HC3.out, fun hv q hq => ?_⟩
            rcases HCI.out q hq with rfl | hq
            · refine ⟨x.1, by simp, ?_⟩
              rw [HXE.out]
              show unord (m r i) = _
              rw [show m r i = (u, v) from Prod.ext HU1.out HV1.out, HLO.out]
            · obtain ⟨e, he, e2⟩ := HCL.out hv.init q hq
              exact ⟨e, by simp only [List.map_append, List.mem_append]; exact .inl he, e2⟩
          · refine ⟨_, HM4.out, fun hv r' z hz => ?_⟩
            rcases HKI.out r' z hz with hz | ⟨rfl, rfl | rfl⟩
            · obtain ⟨e, he, e2⟩ := HML.out hv.init r' z hz
              exact ⟨e, by simp only [List.map_append, List.mem_append]; exact .inl he, e2⟩
            · refine ⟨x.1, by simp, by rw [HXE.out], ?_⟩
              rw [HXE.out]
              rw [HU1.out, HV1.out]
              exact HLV.out.1
            · refine ⟨x.1, by simp, by rw [HXE.out], ?_⟩
              rw [HXE.out]
              rw [HU1.out, HV1.out]
              exact HLV.out.2
          · exact Nat.le_trans hVs HAV.out.size
  case done =>
    rintro D xs W2 hD hall ⟨hs, _⟩ hK
    have f0 := hs.xr.frozen
    have c0 := hs.xr.cell
    have HS2 := Lib.hid hs
    clear hall hs
    go_wp2
    have HBD : Hid (Below w.heap.size w (W2.setCell ⟨br, 0, none⟩ (.int .i64 0))) := HS2.out.bl.setCell (p := ⟨br, 0, none⟩) (show w.heap.size ≤ br by have := hbr.out; omega) _
    have HXD := Lib.hid (HS2.out.xr.set (.int .i64 0))
    have hDb : D ≠ br := by have := HBX.out; have := HSU.out; omega
    have HAD : Hid (Ag (· = br) W2 (W2.setCell ⟨br, 0, none⟩ (.int .i64 0))) := (Ag.refl _ _).set ⟨br, 0, none⟩ _ (.inr rfl)
    have hKY := HAD.out.obj hK hDb
    have hXK := HXD.out.kept (grownBy_putObj' _ D (.deferred none)) (fun e => hDb (by cases e; rfl))
    have cX := hXK.cell
    refine ⟨by simp, .inl ⟨_, _, rfl, run_takeDeferred hKY, ?_⟩⟩
    refine ⟨.int .i64 0, by simp [results, Try.f26, go_sem, cX], rfl, HBD.out.trans (belowK_b (w := w) (Nat.le_refl _) _ D _ _ (by have := HBX.out; have := HSU.out; have := HBW.out.size; omega) hKY rfl rfl)⟩
  case stop =>
    rintro D cd pre W2 hD hvp ⟨rfl, hx⟩ hK
    exact absurd hvp hx
end Go.Proofs.Ytocnhikohfkcaaa
