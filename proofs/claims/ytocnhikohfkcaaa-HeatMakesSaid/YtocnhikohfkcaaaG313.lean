/- '==' on arrays of integers. A range over a function whose body looks at nothing. The check of a schedule: pairs as keys, the pair of two boats; the rows of marks. Plain and small walks. Whether each two are together in just one of some triples: walk. Triple systems: Equal of lists of triples, IsTriples, Triples. Walks. Rows of triples; seven days for fifteen boats. Walks. Days for a power of 3: walks. Days, and whether lists of triples are days: walks. -/
import Derived.Laws.StructEq
import Derived.Laws.Small
import Derived.Laws.Cover2
import Derived.RangeFuncNested
import Derived.BigQuiet
import Derived.Lib.TrailingZeros
import Derived.Laws.Bits64b
import Derived.BigRegion
import Derived.Test.YtocnhikohfkcaaaG308
import Derived.Test.YtocnhikohfkcaaaG310
import Derived.Test.YtocnhikohfkcaaaMk
import Derived.Test.YtocnhikohfkcaaaZg
set_option linter.unusedVariables false
set_option linter.unusedSimpArgs false
namespace Go.Proofs.Ytocnhikohfkcaaa
open Go.RowKit Go.Shelf

theorem under58 : Try.prog.underlying 58 = some (.array 2 3) := by kernel_rfl
theorem guard39 : Try.prog.eqGuardType Try.prog.depth 39 = false := by kernel_rfl
theorem guard45 : Try.prog.eqGuardType Try.prog.depth 45 = false := by kernel_rfl
attribute [go_sem] run_eql_struct run_neq_struct
@[go_sem] theorem eq58 (a b c d : Int) (w : World) : (Op.equalIn 10000 58 (.agg #[.int .i64 a, .int .i64 b]) (.agg #[.int .i64 c, .int .i64 d])).run Try.prog w = .ok (a == c && b == d) w := by
  have u3 := Try.underlying3
  have a3 := Try.isAgg3
  have z3 := Try.sizeOf3
  rw [show (10000 : Nat) = 9999 + 1 from rfl, Op.equalIn]
  simp only [Sem.run_bind, run_underlying under58, Result.andThen_ok]
  simp only [Std.Legacy.Range.forIn_eq_forIn_range', Std.Legacy.Range.size, Nat.sub_zero, Nat.add_sub_cancel, Nat.div_one, List.range'_succ, List.range'_zero, List.forIn_cons, List.forIn_nil]
  go_simp
  by_cases h1 : a = c <;> by_cases h2 : b = d <;> simp [h1, h2]
@[go_sem] theorem eqg39 (op : BinOp) (x y : Operand) (xs ys : Array Value) (w : World) : (eqGuard op 39 x y (.agg xs) (.agg ys)).run Try.prog w = .ok () w := run_eqGuard_agg w op 39 x y xs ys guard39
@[go_sem] theorem eqg45 (op : BinOp) (x y : Operand) (xs ys : Array Value) (w : World) : (eqGuard op 45 x y (.agg xs) (.agg ys)).run Try.prog w = .ok () w := run_eqGuard_agg w op 45 x y xs ys guard45
end Go.Proofs.Ytocnhikohfkcaaa
namespace Go.Proofs.Ytocnhikohfkcaaa
open Go.RowKit Go.Shelf
attribute [local go_sem] Oper.semAt_some

theorem rf_skip {α : Type} {u1 : α → Value} {P : Program} {n : Nat} {g : Operand} {t1 : Nat} {body : Code} {Q : Exit → Act → World → Prop} {a : Act} {w : World}
    (h1 : 1 ≤ n) {gf : Nat} {lb : Array Value} (hg : a.eval g = .func (.func gf) #[] lb) (eg : ∀ args w, (callFunc gf args).run P w = .ok (.enter gf args) w)
    {Kp : World → World → Prop} {S Sp : List α → Prop} {N : Nat} (hseq : SeqStopsK Fence.wide (n - 1) P gf lb (fun x : α => #[u1 x]) Kp S Sp N w)
    (hKt : ∀ {A B C : World}, Kp A B → Kp B C → Kp A C) (hKb : ∀ (W : World) (l : Nat) (o o' : Obj), w.heap.size ≤ l → W.heap[l]? = some o → o.isCells = false → o.isWalk = false → Kp W (W.putObj l o')) (hKr : ∀ W, Kp W W)
    (I : List α → World → Prop) (Ix : Code → List α → World → Prop) (hI : OwnFrom w.heap.size I) (hIx : ∀ c, OwnFrom w.heap.size (Ix c)) (h0 : I [] w)
    (hbody : ∀ (l : Nat) (pre : List α) (x : α) (W : World), I pre W → pre.length < N → body.wpIn (Fence.wide.inRound l) (n - 1 - 1) P (ownPostG w.heap.size Kp I Ix (pre ++ [x]) W) { tmps := a.tmps.setIfInBounds t1 (u1 x), defers := [] } W)
    (hdone : ∀ (D : Nat) (xs : List α) (W : World), w.heap.size ≤ D → S xs → I xs W → W.heap[D]? = some (.deferred (some [])) → Q .normal { a with defers := { target := .collected D, args := #[] } :: a.defers } W)
    (hstop : ∀ (D : Nat) (c : Code) (pre : List α) (W : World), w.heap.size ≤ D → Sp pre → Ix c pre W → W.heap[D]? = some (.deferred (some [])) → c.wpIn Fence.wide n P Q { a with defers := { target := .collected D, args := #[] } :: a.defers } W) :
    (Code.rangeFunc g #[t1] Code.skip body).wpIn Fence.wide n P Q a w := by
  refine wpIn_rangeFunc_ownG_of_H rfl h1 hg trivial eg hseq (fun h k => hKt h k) hKb (Below.refl _ _) (fun _ => rfl) I Ix hI hIx h0 (fun x => { tmps := a.tmps.setIfInBounds t1 (u1 x), defers := [] }) ?_ hbody hdone hstop hKr
  intro l x W K hK
  have e : (Array.zip #[t1] #[u1 x]).foldl (fun t (p, v) => t.setIfInBounds p v) a.tmps = a.tmps.setIfInBounds t1 (u1 x) := by simp
  rw [e]
  gi_wp2
  exact hK
end Go.Proofs.Ytocnhikohfkcaaa
namespace Go.Proofs.Ytocnhikohfkcaaa
open Go.RowKit Go.Shelf

theorem guardP : Try.prog.eqGuardType Try.prog.depth 77 = false := by kernel_rfl
@[go_sem] theorem eqPairI (a b c d : Nat) (w : World) : (Op.equalIn 10000 77 (.agg #[.int .i64 (a : Int), .int .i64 (b : Int)]) (.agg #[.int .i64 (c : Int), .int .i64 (d : Int)])).run Try.prog w = .ok (decide ((a, b) = (c, d))) w := eq_pair (a, b) (c, d) w
@[go_sem] theorem eqgP (op : BinOp) (x y : Operand) (xs ys : Array Value) (w : World) : (eqGuard op 77 x y (.agg xs) (.agg ys)).run Try.prog w = .ok () w := run_eqGuard_agg w op 77 x y xs ys guardP
section
variable {F : Fence} {N : Nat} {P : Program} {T K E : TypeId} {α β : Type} [DecidableEq α] {kv : α → Value} {vv : β → Value} {z : β}
theorem wpListIn_store_g (hk : MapKind P T K E kv vv z) {w : World} {ops : Array Oper} {rest : List Oper} {o : Oper} {act : Act} {Q : Exit → Act → World → Prop} (hgd : o.guard = none) (m x y : Operand) (ho : o.op = Op.mapUpdate T m x y) (M : Nat) (col : α → Option β) (a : α) (b : β)
    (hm : act.eval m = .map (some M)) (hx : act.eval x = kv a) (hy : act.eval y = vv b) (hM : MapG kv vv w M col) (hK : ∀ w', MapG kv vv w' M (setF col a (some b)) → w.grownBy w' (some M) → wpListIn F N P ops Q rest (act.put o.dst undef) w') : wpListIn F N P ops Q (o :: rest) act w := by
  refine wpListIn_plain hgd fun K hK' => ?_
  obtain ⟨w', hr, h1, h2⟩ := store_g hk a b w M col hM
  unfold Oper.wpIn
  refine ⟨?_, ?_⟩
  · simp [Oper.about, ho]
  · rw [Oper.semAt_eq _ _ _ (by rw [ho]; intro c hc'; cases hc')]
    simp [execOp, ho, hm, hx, hy, hr, Result.andThen, Oper.upon]
    exact hK' _ _ (hK w' h1 h2)
end
set_option maxRecDepth 100000 in
theorem pairOf_any (a b : Nat) (w : World) (ha : a ≤ 1000) (hb : b ≤ 1000) : Calls Try.prog 50 #[.int .i64 (a : Int), .int .i64 (b : Int)] w fun e w' => e = .returned (.agg #[.int .i64 ((min a b : Nat) : Int), .int .i64 ((max a b : Nat) : Int)]) ∧ Below w.heap.size w w' := by
  have e1 : min (a : Int) (b : Int) = ((min a b : Nat) : Int) := by omega
  have e2 : max (a : Int) (b : Int) = ((max a b : Nat) : Int) := by omega
  generalize min a b = u at *
  generalize max a b = v at *
  have HX : Hid (BoxN (w.alloc (.cells #[.int .i64 (u : Int), .int .i64 (v : Int)] 77)) w.heap.size 77 #[.int .i64 (u : Int), .int .i64 (v : Int)]) := BoxN.new rfl
  have r0 := HX.out.cell 0
  have r1 := HX.out.cell 1
  go_enter Try.func50, Try.ntmps50
  go_wp2
  refine bodyPost_ret (v := .agg #[.int .i64 (u : Int), .int .i64 (v : Int)]) (by simp [results, Try.f50, go_sem, r0, r1]) rfl ?_
  exact ⟨rfl, (Below.refl _ _).alloc (Nat.le_refl _) _⟩
set_option maxRecDepth 100000 in
theorem lensch_any (q : Option Addr) (n h c b1 : Nat) (w : World) (hh : n / 2 = h) (hn : n ≤ 16) (h1 : w.cell? ⟨b1, 0, none⟩ = some (.int .i64 (n : Int))) :
    Calls Try.prog 48 #[.slice q h c, .pointer (some ⟨b1, 0, none⟩)] w fun e w' => e = .returned (.bool false) ∧ w' = w := by
  have hd : Int.tdiv (n : Int) 2 = (h : Int) := by rw [Int.tdiv_eq_ediv_of_nonneg (by omega)]; omega
  have q1 : ((h : Int) != (h : Int)) = false := by simp
  go_enter Try.func48, Try.ntmps48
  go_wp2
  go_ret
  exact ⟨rfl, rfl⟩
set_option maxRecDepth 100000 in
set_option maxHeartbeats 1000000 in
theorem idxsch_any (p : Option Addr) (n k h c b1 K : Nat) (m : Nat → Nat → Nat × Nat) (w : World) (hh : n / 2 = h) (hn : n ≤ 16) (hk : k ≤ 15) (hS : SchK w K p k h m) (h1 : w.cell? ⟨b1, 0, none⟩ = some (.int .i64 (n : Int))) :
    Calls Try.prog 62 #[.slice p k c, .func (.func 48) #[] #[.pointer (some ⟨b1, 0, none⟩)]] w fun e w' => e = .returned (.int .i64 (-1)) ∧ w' = w := by
  have HS := Lib.hid hS
  have HC := Lib.hid (fun q c => lensch_any q n h c b1 w hh hn h1)
  clear hS h1 hh
  go_enter Try.func62, Try.ntmps62
  go_upto_region 2 with (fail)
  go_loopw [8] (fun s8 wr => ∃ j : Nat, j ≤ k ∧ s8 = .int .i64 (j : Int) ∧ Hid (wr.heap = w.heap ∧ wr = w)) (fun s8 _ => k - (intOf s8).toNat)
  case atStart => exact ⟨0, by omega, rfl, rfl, rfl⟩
  case round =>
    obtain ⟨j, hj, rfl, hw⟩ := hrel
    obtain ⟨_, hw⟩ := hw.out
    replace hw := hw.symm
    subst hw
    by_cases hjm : j < k
    · have g1 : (j : Int) < (k : Int) := by omega
      have g0 : (0 : Int) ≤ (j : Int) := by omega
      obtain ⟨b, o, e0, hb, hc⟩ := HS.out.2 (by omega)
      obtain ⟨q, cq, k1, _⟩ := hc j hjm
      have HCJ := Lib.hid (HC.out q cq)
      subst e0
      clear hc HC
      go_wp2_with (go_at_call 48; refine HCJ.out.mono ?_; rintro e w4 ⟨rfl, hw4⟩; replace hw4 := hw4.symm; subst hw4; try dsimp only)
      exact ⟨⟨j + 1, by omega, int_eq (by omega), (by first | exact ⟨rfl, rfl⟩ | exact ⟨trivial, trivial⟩)⟩, by simp [intOf]; omega⟩
    · have g1 : ¬ (j : Int) < (k : Int) := by omega
      go_wp2
      go_ret
      exact ⟨rfl, rfl⟩
set_option maxRecDepth 100000 in
theorem contsch_any (p : Option Addr) (n k h c b1 K : Nat) (m : Nat → Nat → Nat × Nat) (w : World) (hh : n / 2 = h) (hn : n ≤ 16) (hk : k ≤ 15) (hS : SchK w K p k h m) (h1 : w.cell? ⟨b1, 0, none⟩ = some (.int .i64 (n : Int))) :
    Calls Try.prog 47 #[.slice p k c, .func (.func 48) #[] #[.pointer (some ⟨b1, 0, none⟩)]] w fun e w' => e = .returned (.bool false) ∧ w' = w := by
  have HI := Lib.hid (idxsch_any p n k h c b1 K m w hh hn hk hS h1)
  clear hS h1 hh
  go_enter Try.func47, Try.ntmps47
  go_wp2_with (go_at_call 62; refine HI.out.mono ?_; rintro e w4 ⟨rfl, hw4⟩; replace hw4 := hw4.symm; subst hw4; try dsimp only)
  go_ret
  exact ⟨rfl, rfl⟩
theorem infoM : (Try.prog.info? 68).map (fun i => (i.zero, i.size, i.bytes)) = some (some (.agg (Array.replicate 27 (.bool false))), 27, 27) := by kernel_rfl
theorem underM : Try.prog.underlying 72 = some (.slice 68) := by kernel_rfl
end Go.Proofs.Ytocnhikohfkcaaa
namespace Go.Proofs.Ytocnhikohfkcaaa
open Go.RowKit Go.Shelf

/-- triples that can be read -/
def SrcZ (W : World) (p : Option Addr) (l : List Z3) : Prop := 0 < l.length → ∃ b o, p = some ⟨b, o, none⟩ ∧ b < W.heap.size ∧ ∀ i (hi : i < l.length), W.cell? ⟨b, o + i * 3, none⟩ = some (.int .i64 (l[i]).1) ∧ W.cell? ⟨b, o + i * 3 + 1, none⟩ = some (.int .i64 (l[i]).2.1) ∧ W.cell? ⟨b, o + i * 3 + 2, none⟩ = some (.int .i64 (l[i]).2.2)
theorem SrcZ.below {k : Nat} {w W : World} {p : Option Addr} {l : List Z3} (h : SrcZ w p l) (hB : Below k w W) (hk : w.heap.size ≤ k) : SrcZ W p l := fun h0 => by
  obtain ⟨b, o, e, hb, hc⟩ := h h0
  exact ⟨b, o, e, Nat.lt_of_lt_of_le hb hB.size, fun i hi => ⟨(hB.cell (p := ⟨b, o + i * 3, none⟩) (show b < k by omega)).trans (hc i hi).1, (hB.cell (p := ⟨b, o + i * 3 + 1, none⟩) (show b < k by omega)).trans (hc i hi).2.1, (hB.cell (p := ⟨b, o + i * 3 + 2, none⟩) (show b < k by omega)).trans (hc i hi).2.2⟩⟩
theorem ZRow.src {W : World} {base : Nat} {p : Option Addr} {n c : Nat} {l : List Z3} (h : ZRow W base (.slice p n c) l) : SrcZ W p l := fun h0 => by
  obtain ⟨g, o, cap, e, _, hg, _, _, hc, _⟩ := (show QRow W base 44 3 (.slice p n c) l.length (zcells l) from h).at h0
  cases e
  exact ⟨g, o, rfl, hg, fun i hi => by
    obtain ⟨z0, z1, z2⟩ := zcells_get l i hi
    exact ⟨(hc _ (by omega)).trans z0, (hc _ (by omega)).trans z1, (hc _ (by omega)).trans z2⟩⟩
/-- pairs of numbers -/
def prN (t : N3) : List (Nat × Nat) := [(t.1, t.2.1), (t.1, t.2.2), (t.2.1, t.2.2)]
def cc2 (p : Nat × Nat) : Int × Int := ((p.1 : Int), (p.2 : Int))
theorem cc2_inj {p q : Nat × Nat} (h : cc2 p = cc2 q) : p = q := by
  obtain ⟨a, b⟩ := p
  obtain ⟨c, d⟩ := q
  unfold cc2 at h
  simp only [Prod.mk.injEq] at h ⊢
  omega
theorem prs_zc (t : N3) : prs (zc t) = (prN t).map cc2 := rfl
theorem flat_zc (L : List N3) : (L.map zc).flatMap prs = (L.flatMap prN).map cc2 := by
  induction L with
  | nil => rfl
  | cons t L ih => rw [List.map_cons, List.flatMap_cons, List.flatMap_cons, List.map_append, ih, prs_zc]
theorem nodup_cc2 {l : List (Nat × Nat)} : (l.map cc2).Nodup ↔ l.Nodup := by
  constructor
  · exact nodup_of_map cc2
  · intro h
    induction l with
    | nil => exact List.nodup_nil
    | cons a l ih =>
      rw [List.nodup_cons] at h
      rw [List.map_cons, List.nodup_cons]
      refine ⟨fun hm => ?_, ih h.2⟩
      obtain ⟨b, hb, e⟩ := List.mem_map.1 hm
      rw [← cc2_inj e] at h
      exact h.1 hb
/-- what holds after the first triples -/
structure TogI (n : Nat) (l : List Z3) (i : Nat) (L : List N3) : Prop where
  eq : l.take i = L.map zc
  up : ∀ t ∈ L, RisesP n (zc t)
  nd : (L.flatMap prN).Nodup
theorem TogP.pre {n : Nat} {l : List Z3} (h : TogP n l) {i : Nat} {L : List N3} (e : l.take i = L.map zc) : (L.flatMap prN).Nodup := by
  rw [← nodup_cc2, ← flat_zc, ← e]
  have : (l.take i).flatMap prs = (l.take i).flatMap prs := rfl
  have hs : ((l.take i).flatMap prs).Sublist (l.flatMap prs) := by
    conv => rhs; rw [← List.take_append_drop i l, List.flatMap_append]
    exact List.sublist_append_left _ _
  exact h.nd.sublist hs
theorem rise_nat {n : Nat} {t : Z3} (h : RisesP n t) : ∃ s : N3, t = zc s := by
  obtain ⟨a, b, c⟩ := t
  obtain ⟨h1, h2, h3, h4⟩ := h
  simp only at h1 h2 h3 h4
  refine ⟨(a.toNat, b.toNat, c.toNat), ?_⟩
  unfold zc
  simp only [Prod.mk.injEq]
  omega
theorem TogI.done {n : Nat} {l : List Z3} {L : List N3} (h : TogI n l l.length L) : TogP n l ↔ 6 * l.length = n * (n - 1) := by
  have e : l = L.map zc := by have := h.eq; rw [List.take_length] at this; exact this
  constructor
  · exact fun H => H.len
  · intro hl
    refine ⟨fun t ht => ?_, ?_, hl⟩
    · rw [e] at ht
      obtain ⟨s, hs, rfl⟩ := List.mem_map.1 ht
      exact h.up s hs
    · rw [e, flat_zc, nodup_cc2]; exact h.nd
theorem keys_len (L : List N3) : (L.flatMap prN).length = 3 * L.length := by
  induction L with
  | nil => rfl
  | cons t L ih => rw [List.flatMap_cons, List.length_append, ih, List.length_cons]; simp [prN]; omega
/-- a Bool that tells whether P holds -/
def TellsP (P : Prop) (e : Ending) : Prop := ∃ b : Bool, e = .returned (.bool b) ∧ (b = true ↔ P)
theorem dup_no {α : Type} {K P : List α} (h : (K ++ P).Nodup) {j : Nat} (hj : j < P.length) : P[j] ∉ K ++ P.take j := by
  have e : K ++ P = (K ++ P.take j) ++ P.drop j := by rw [List.append_assoc, List.take_append_drop]
  rw [e, List.nodup_append] at h
  intro hm
  refine h.2.2 _ hm _ ?_ rfl
  rw [List.mem_drop_iff_getElem]
  exact ⟨0, by omega, by simp⟩
theorem pairs_half (n : Nat) (hn : n ≤ 27) : ∃ q : Nat, q ≤ 351 ∧ n * (n - 1) = 2 * q := by
  have key : ∀ n, n < 28 → ∃ q, q ≤ 351 ∧ n * (n - 1) = 2 * q := by
    intro n h
    refine ⟨n * (n - 1) / 2, ?_, ?_⟩
    · have : n * (n - 1) ≤ 27 * 26 := Nat.mul_le_mul (by omega) (by omega)
      omega
    · have h2 : n * (n - 1) % 2 = 0 := by
        rcases Nat.mod_two_eq_zero_or_one n with h | h
        · rw [Nat.mul_mod, h]; simp
        · have : (n - 1) % 2 = 0 := by omega
          rw [Nat.mul_mod, this]; simp
      omega
  exact key n (by omega)
set_option maxRecDepth 100000 in
set_option maxHeartbeats 8000000 in
theorem isTri_any (n : Nat) (p : Option Addr) (c : Nat) (l : List Z3) (w : World) (hn3 : 3 ≤ n) (hn : n ≤ 27) (hl : l.length ≤ 100000) (hcap : l.length ≤ c) (hS : SrcZ w p l) :
    Calls Try.prog 46 #[.int .i64 (n : Int), .slice p l.length c] w fun e w' => TellsP (TogP n l) e ∧ Below w.heap.size w w' := by
  have hmm := @run_makeMap Try.prog
  have HS := Lib.hid hS
  clear hS
  obtain ⟨len, HL⟩ : ∃ len, Hid (l.length = len) := ⟨_, rfl⟩
  rw [HL.out] at hl hcap ⊢
  have HM0 : Hid (MapLS ekv bvB (w.alloc (.map #[] 0)) w.heap.size (setL ([] : List (Nat × Nat)))) := ⟨⟨#[], 0, World.alloc_heap_new w _, rfl, rfl, (fun x h => by simp at h), by simp⟩, List.nodup_nil⟩
  have HB0 : Hid (Below w.heap.size w (w.alloc (.map #[] 0))) := (Below.refl _ _).alloc (Nat.le_refl _) _
  go_enter Try.func46, Try.ntmps46
  go_upto_region 3 with (fail)
  obtain ⟨M, hM⟩ : ∃ M, Hid (M = w.heap.size) := ⟨_, rfl⟩
  rw [← hM.out] at HM0 ⊢
  generalize (w.alloc (.map #[] 0)) = U at *
  go_loopw [13] (fun s13 wr => ∃ (i : Nat) (L : List N3), i ≤ len ∧ s13 = .int .i64 (i : Int) ∧ Hid (TogI n l i L) ∧ Hid (MapLS ekv bvB wr M (setL (L.flatMap prN))) ∧ Hid (Below w.heap.size w wr)) (fun s13 _ => len - (intOf s13).toNat)
  case atStart => exact ⟨0, [], by omega, rfl, ⟨by simp, fun t h => (by cases h), List.nodup_nil⟩, HM0, HB0⟩
  case round =>
    clear HM0 HB0
    obtain ⟨i, L, hi, rfl, hT, hMr, hB⟩ := hrel
    have hwr : w.heap.size ≤ wr.heap.size := hB.out.size
    by_cases hin : i < len
    · have g1 : (i : Int) < (len : Int) := by omega
      have hil : i < l.length := by rw [HL.out]; exact hin
      obtain ⟨b, o, rfl, hb, hc⟩ := HS.out (by omega)
      obtain ⟨k0, k1, k2⟩ := hc i hil
      have r0 : wr.cell? ⟨b, o + i * 3, none⟩ = some (.int .i64 (l[i]).1) := (hB.out.cell (p := ⟨b, o + i * 3, none⟩) hb).trans k0
      have r1 : wr.cell? ⟨b, o + i * 3 + 1, none⟩ = some (.int .i64 (l[i]).2.1) := (hB.out.cell (p := ⟨b, o + i * 3 + 1, none⟩) hb).trans k1
      have r2 : wr.cell? ⟨b, o + i * 3 + 2, none⟩ = some (.int .i64 (l[i]).2.2) := (hB.out.cell (p := ⟨b, o + i * 3 + 2, none⟩) hb).trans k2
      have HTK : Hid (l.take (i + 1) = l.take i ++ [l[i]]) := by unfold Hid; rw [List.take_add_one, List.getElem?_eq_getElem hil]; rfl
      have HME : Hid (TogP n l → RisesP n l[i]) := fun H => H.up _ (List.getElem_mem hil)
      have HNX : Hid (∀ s, l[i] = zc s → TogP n l → ((L ++ [s]).flatMap prN).Nodup) := fun s hs H => H.pre (i := i + 1) (by rw [HTK.out, hT.out.eq, hs, List.map_append]; rfl)
      have HTI : Hid (∀ s, l[i] = zc s → RisesP n (zc s) → ((L ++ [s]).flatMap prN).Nodup → TogI n l (i + 1) (L ++ [s])) := fun s hs hr hnd =>
        { eq := by rw [HTK.out, hT.out.eq, hs, List.map_append]; rfl
          up := fun t ht => (List.mem_append.1 ht).elim (fun h => hT.out.up t h) (fun h => by rw [List.mem_singleton.1 h]; exact hr)
          nd := hnd }
      clear hc k0 k1 k2 HTK
      by_cases hr : RisesP n l[i]
      · obtain ⟨s, hs⟩ := rise_nat hr
        have HR := Lib.hid hr
        rw [hs] at r0 r1 r2 HR
        have HNX2 := Lib.hid (HNX.out s hs)
        have HTI2 := Lib.hid (HTI.out s hs HR.out)
        obtain ⟨x, y, z⟩ := s
        have hb0 : x < y ∧ y < z ∧ z < n := by have := HR.out; unfold RisesP zc at this; simp only at this; omega
        simp only [zc] at r0 r1 r2
        obtain ⟨b1, b2, b3⟩ := hb0
        have f1 : decide ((x : Int) < 0) = false := by simp
        have f2 : decide (y ≤ x) = false := by simp; omega
        have f3 : decide (z ≤ y) = false := by simp; omega
        have f4 : decide (n ≤ z) = false := by simp; omega
        have f5 : ¬ y ≤ x := by omega
        have f6 : ¬ z ≤ y := by omega
        have f7 : ¬ n ≤ z := by omega
        clear hs hr HNX HTI HME
        have HB2 : Hid (BoxN ((wr.alloc (.cells #[.int .i64 (x : Int), .int .i64 (y : Int), .int .i64 (z : Int)] 44)).alloc (.cells #[.int .i64 (x : Int), .int .i64 (y : Int), .int .i64 (x : Int), .int .i64 (z : Int), .int .i64 (y : Int), .int .i64 (z : Int)] 77)) (wr.heap.size + 1) 77 #[.int .i64 (x : Int), .int .i64 (y : Int), .int .i64 (x : Int), .int .i64 (z : Int), .int .i64 (y : Int), .int .i64 (z : Int)]) := BoxN.new (by simp)
        have HM2 : Hid (MapLS ekv bvB ((wr.alloc (.cells #[.int .i64 (x : Int), .int .i64 (y : Int), .int .i64 (z : Int)] 44)).alloc (.cells #[.int .i64 (x : Int), .int .i64 (y : Int), .int .i64 (x : Int), .int .i64 (z : Int), .int .i64 (y : Int), .int .i64 (z : Int)] 77)) M (setL (L.flatMap prN))) := (hMr.out.kept ((World.grownBy_alloc wr _ none).block M hMr.out.lt (by simp))).kept ((World.grownBy_alloc _ _ none).block M (by have := hMr.out.lt; simp; omega) (by simp))
        have HBB : Hid (Below w.heap.size w ((wr.alloc (.cells #[.int .i64 (x : Int), .int .i64 (y : Int), .int .i64 (z : Int)] 44)).alloc (.cells #[.int .i64 (x : Int), .int .i64 (y : Int), .int .i64 (x : Int), .int .i64 (z : Int), .int .i64 (y : Int), .int .i64 (z : Int)] 77))) := (hB.out.alloc hwr _).alloc (by simp; omega) _
        have hMlt := hMr.out.lt
        have HND := Lib.hid hT.out.nd
        go_upto_region 8 with (fail)
        obtain ⟨B2, hB2⟩ : ∃ B2, Hid (B2 = wr.heap.size + 1) := ⟨_, rfl⟩
        rw [← hB2.out] at HB2 ⊢
        have hMB : M < B2 := by rw [hB2.out]; omega
        have hwB : w.heap.size < B2 := by rw [hB2.out]; omega
        generalize ((wr.alloc (.cells #[.int .i64 (x : Int), .int .i64 (y : Int), .int .i64 (z : Int)] 44)).alloc (.cells #[.int .i64 (x : Int), .int .i64 (y : Int), .int .i64 (x : Int), .int .i64 (z : Int), .int .i64 (y : Int), .int .i64 (z : Int)] 77)) = V at *
        obtain ⟨K, hK⟩ : ∃ K, Hid (K = L.flatMap prN) := ⟨_, rfl⟩
        have HK2 : Hid ((L ++ [((x, y, z) : N3)]).flatMap prN = K ++ prN (x, y, z)) := by unfold Hid; rw [List.flatMap_append, hK.out]; simp
        rw [← hK.out] at HM2 HND
        rw [HK2.out] at HNX2 HTI2
        clear hT hMr hB r0 r1 r2
        go_loopw [57] (fun s57 wq => ∃ j : Nat, j ≤ 3 ∧ s57 = .int .i64 (j : Int) ∧ Hid (MapLS ekv bvB wq M (setL (K ++ (prN (x, y, z)).take j))) ∧ Hid ((K ++ (prN (x, y, z)).take j).Nodup) ∧ Hid (BoxN wq B2 77 #[.int .i64 (x : Int), .int .i64 (y : Int), .int .i64 (x : Int), .int .i64 (z : Int), .int .i64 (y : Int), .int .i64 (z : Int)]) ∧ Hid (Below w.heap.size w wq)) (fun s57 _ => 3 - (intOf s57).toNat)
        case atStart => exact ⟨0, by omega, rfl, by unfold Hid; simpa using HM2.out, by unfold Hid; simpa using HND.out, HB2, HBB⟩
        case round =>
          clear HM2 HND HB2 HBB
          obtain ⟨j, hj, rfl, hMj, hNj, hXj, hBj⟩ := hrel
          by_cases hj3 : j < 3
          · have g2 : (j : Int) < 3 := by omega
            obtain ⟨u, v, huv, c1, c2⟩ : ∃ u v, Hid ((prN (x, y, z))[j]? = some (u, v)) ∧ wr.cell? ⟨B2, j * 2, none⟩ = some (.int .i64 (u : Int)) ∧ wr.cell? ⟨B2, j * 2 + 1, none⟩ = some (.int .i64 (v : Int)) := by
              rcases (show j = 0 ∨ j = 1 ∨ j = 2 by omega) with rfl | rfl | rfl
              · exact ⟨x, y, rfl, hXj.out.cell 0, hXj.out.cell 1⟩
              · exact ⟨x, z, rfl, hXj.out.cell 2, hXj.out.cell 3⟩
              · exact ⟨y, z, rfl, hXj.out.cell 4, hXj.out.cell 5⟩
            have hjl : j < (prN (x, y, z)).length := hj3
            have HUV : Hid ((prN (x, y, z))[j]'hjl = (u, v)) := by
              have := huv.out
              rw [List.getElem?_eq_getElem hjl] at this
              exact Option.some.inj this
            have HTK : Hid ((prN (x, y, z)).take (j + 1) = (prN (x, y, z)).take j ++ [(u, v)]) := by unfold Hid; rw [List.take_add_one, huv.out]; rfl
            have HNO : Hid (TogP n l → (u, v) ∉ K ++ (prN (x, y, z)).take j) := fun H => by
              have := dup_no (HNX2.out H) hjl
              rw [HUV.out] at this
              exact this
            have HM1 : Hid (MapLS ekv bvB (wr.alloc (.cells #[.int .i64 (u : Int), .int .i64 (v : Int)] 77)) M (setL (K ++ (prN (x, y, z)).take j))) := hMj.out.kept ((World.grownBy_alloc wr _ none).block M hMj.out.lt (by simp))
            have HX1 := Lib.hid (hXj.out.alloc (.cells #[.int .i64 (u : Int), .int .i64 (v : Int)] 77))
            have HB1 : Hid (Below w.heap.size w (wr.alloc (.cells #[.int .i64 (u : Int), .int .i64 (v : Int)] 77))) := hBj.out.alloc hBj.out.size _
            have hlk := HM1.out.look pairKind (u, v)
            rw [asFun_setL] at hlk
            have hwj : w.heap.size ≤ wr.heap.size := hBj.out.size
            by_cases hm : (u, v) ∈ K ++ (prN (x, y, z)).take j
            · have HF : Hid (¬ TogP n l) := fun H => HNO.out H hm
              replace hlk : Sem.run Try.prog (Instr.lookup 71 (.map (some M)) (.agg #[.int .i64 (u : Int), .int .i64 (v : Int)]) false) (wr.alloc (.cells #[.int .i64 (u : Int), .int .i64 (v : Int)] 77)) = .ok (.bool true) (wr.alloc (.cells #[.int .i64 (u : Int), .int .i64 (v : Int)] 77)) := by simp only [hm, decide_true] at hlk; exact hlk
              clear hm hMj hNj hXj hBj HM1 HNO
              go_wp2
              go_ret
              exact ⟨⟨false, rfl, ⟨fun h => (by cases h), fun H => (HF.out H).elim⟩⟩, HB1.out⟩
            · have HMN : Hid ((u, v) ∉ (setL (K ++ (prN (x, y, z)).take j)).map (·.1)) := by unfold Hid; rw [setL_keys]; exact hm
              have HNN : Hid ((K ++ (prN (x, y, z)).take (j + 1)).Nodup) := by
                unfold Hid
                rw [HTK.out, ← List.append_assoc, List.nodup_append]
                refine ⟨hNj.out, by simp, fun a ha b hb e => ?_⟩
                rw [List.mem_singleton.1 hb] at e
                rw [e] at ha
                exact hm ha
              have HSE : Hid (setL (K ++ (prN (x, y, z)).take (j + 1)) = setL (K ++ (prN (x, y, z)).take j) ++ [((u, v), true)]) := by unfold Hid; rw [HTK.out, ← List.append_assoc]; unfold setL; rw [List.map_append]; rfl
              replace hlk : Sem.run Try.prog (Instr.lookup 71 (.map (some M)) (.agg #[.int .i64 (u : Int), .int .i64 (v : Int)]) false) (wr.alloc (.cells #[.int .i64 (u : Int), .int .i64 (v : Int)] 77)) = .ok (.bool false) (wr.alloc (.cells #[.int .i64 (u : Int), .int .i64 (v : Int)] 77)) := by simp only [hm, decide_false] at hlk; exact hlk
              clear hm hMj hNj hXj hBj HNO
              go_wp2_with (refine wpList_push pairKind rfl (.tmp 64) (.tmp 65) (.const (.bool true)) rfl M _ (u, v) true rfl rfl rfl HM1.out HMN.out ?_; intro w8 hM8 hg8; have HM8 := Lib.hid hM8; have HG8 := Lib.hid hg8; clear hM8 hg8)
              refine ⟨⟨j + 1, by omega, int_eq (by omega), by unfold Hid; rw [HSE.out]; exact HM8.out, HNN, HX1.out.kept HG8.out (fun e => by have := Option.some.inj e; omega), Below.grown HB1.out HG8.out HB1.out.size (fun kk e => by have := Option.some.inj e; have := hM.out; omega)⟩, by simp [intOf]; omega⟩
          · have g2 : ¬ (j : Int) < 3 := by omega
            obtain rfl : j = 3 := by omega
            have HTI3 : Hid (TogI n l (i + 1) (L ++ [((x, y, z) : N3)])) := HTI2.out hNj.out
            go_wp2
            refine ⟨⟨i + 1, L ++ [((x, y, z) : N3)], by omega, int_eq (by omega), HTI3, ?_, hBj⟩, by simp [intOf]; omega⟩
            unfold Hid
            rw [HK2.out]
            exact hMj.out
      · have HF : Hid (¬ TogP n l) := fun H => hr (HME.out H)
        have hr4 : (l[i]).1 < 0 ∨ (¬ (l[i]).1 < 0 ∧ (l[i]).2.1 ≤ (l[i]).1) ∨ (¬ (l[i]).1 < 0 ∧ ¬ (l[i]).2.1 ≤ (l[i]).1 ∧ (l[i]).2.2 ≤ (l[i]).2.1) ∨ (¬ (l[i]).1 < 0 ∧ ¬ (l[i]).2.1 ≤ (l[i]).1 ∧ ¬ (l[i]).2.2 ≤ (l[i]).2.1 ∧ (n : Int) ≤ (l[i]).2.2) := by
          unfold RisesP at hr
          omega
        clear hr HME HNX HTI
        generalize (l[i]).1 = x at *
        generalize (l[i]).2.1 = y at *
        generalize (l[i]).2.2 = z at *
        have HB1 : Hid (Below w.heap.size w (wr.alloc (.cells #[.int .i64 x, .int .i64 y, .int .i64 z] 44))) := hB.out.alloc hwr _
        rcases hr4 with h1 | ⟨h1, h2⟩ | ⟨h1, h2, h3⟩ | ⟨h1, h2, h3, h4⟩
        all_goals
          (go_wp2
           go_ret
           exact ⟨⟨false, rfl, ⟨fun h => (by cases h), fun H => (HF.out H).elim⟩⟩, HB1.out⟩)
    · have g1 : ¬ (i : Int) < (len : Int) := by omega
      obtain rfl : len = i := by omega
      obtain ⟨q, hq, hqe⟩ := pairs_half n hn
      have hlm : ∀ ty, (Builtin.len_ #[71] ty #[.map (some M)]).run Try.prog wr = .ok (.int .i64 ((3 * L.length : Nat) : Int)) wr := fun ty => by
        have := hMr.out.len pairKind ty
        rw [show (setL (L.flatMap prN)).length = 3 * L.length by unfold setL; rw [List.length_map, keys_len]] at this
        exact this
      have hLl : L.length = len := by
        have := congrArg List.length hT.out.eq
        rw [List.length_map, List.length_take, HL.out] at this
        omega
      have HTD : Hid (TogP n l ↔ 3 * L.length = q) := by
        have h1 : TogI n l l.length L := by rw [HL.out]; exact hT.out
        rw [Hid, h1.done, HL.out, hqe, hLl]
        omega
      have e1 : (n : Int) * ((n : Int) - 1) = ((2 * q : Nat) : Int) := by
        rw [← hqe, show (n : Int) - 1 = ((n - 1 : Nat) : Int) by omega]; push_cast; rfl
      have e2 : Int.tdiv ((2 * q : Nat) : Int) 2 = (q : Int) := by rw [Int.tdiv_eq_ediv_of_nonneg (by omega)]; omega
      have hq2 : 2 * q ≤ 702 := by omega
      generalize 3 * L.length = a3 at *
      generalize 2 * q = q2 at *
      have HBr := Lib.hid hB.out
      clear hT hMr hB hqe hLl
      by_cases he : a3 = q
      · have q1 : ((a3 : Int) == (q : Int)) = true := by simp; omega
        go_wp2
        go_ret
        exact ⟨⟨true, rfl, ⟨fun _ => HTD.out.2 he, fun _ => rfl⟩⟩, HBr.out⟩
      · have q1 : ((a3 : Int) == (q : Int)) = false := by simp; omega
        go_wp2
        go_ret
        exact ⟨⟨false, rfl, ⟨fun h => (by cases h), fun H => (he (HTD.out.1 H)).elim⟩⟩, HBr.out⟩
end Go.Proofs.Ytocnhikohfkcaaa
namespace Go.Proofs.Ytocnhikohfkcaaa
open Go.RowKit Go.Shelf
attribute [local go_sem] Oper.semAt_some

theorem underA3 : Try.prog.underlying 44 = some (.array 3 3) := by kernel_rfl
theorem guardA3 : Try.prog.eqGuardType Try.prog.depth 44 = false := by kernel_rfl
@[go_sem] theorem eqA3 (a b c a' b' c' : Int) (w : World) : (Op.equalIn 10000 44 (.agg #[.int .i64 a, .int .i64 b, .int .i64 c]) (.agg #[.int .i64 a', .int .i64 b', .int .i64 c'])).run Try.prog w = .ok (a == a' && b == b' && c == c') w := by
  have u3 := Try.underlying3
  have a3 := Try.isAgg3
  have z3 := Try.sizeOf3
  rw [show (10000 : Nat) = 9999 + 1 from rfl, Op.equalIn]
  simp only [Sem.run_bind, run_underlying underA3, Result.andThen_ok]
  simp only [Std.Legacy.Range.forIn_eq_forIn_range', Std.Legacy.Range.size, Nat.sub_zero, Nat.add_sub_cancel, Nat.div_one, List.range'_succ, List.range'_zero, List.forIn_cons, List.forIn_nil]
  go_simp
  by_cases h1 : a = a' <;> by_cases h2 : b = b' <;> by_cases h3 : c = c' <;> simp [h1, h2, h3]
@[go_sem] theorem eqgA3 (op : BinOp) (x y : Operand) (xs ys : Array Value) (w : World) : (eqGuard op 44 x y (.agg xs) (.agg ys)).run Try.prog w = .ok () w := run_eqGuard_agg w op 44 x y xs ys guardA3
theorem inRange_any (n : Int) (w : World) : Calls Try.prog 37 #[.int .i64 n] w fun e w' => e = .returned (.bool (decide (3 ≤ n ∧ n ≤ 27))) ∧ w' = w := by
  go_enter Try.func37, Try.ntmps37
  by_cases h1 : 3 ≤ n
  · by_cases h2 : n ≤ 27
    · go_wp2
      go_ret
      exact ⟨by simp [h1, h2], rfl⟩
    · go_wp2
      go_ret
      exact ⟨by simp [h1, h2], rfl⟩
  · have hd : Hid (decide (3 ≤ n ∧ n ≤ 27) = false) := decide_eq_false (fun h => h1 h.1)
    rw [hd.out]
    go_wp2
    go_ret
    exact ⟨rfl, rfl⟩
set_option maxRecDepth 100000 in
set_option maxHeartbeats 4000000 in
theorem equalT_any (p q : Option Addr) (c d len : Nat) (a b : List Z3) (w : World) (ha : a.length = len) (hb : b.length = len) (hl : len ≤ 100000) (hc : len ≤ c) (hd : len ≤ d) (hS : SrcZ w p a) (hT : SrcZ w q b) :
    Calls Try.prog 45 #[.slice p len c, .slice q len d] w fun e w' => TellsP (a = b) e ∧ Below w.heap.size w w' := by
  have q0 : ((len : Int) != (len : Int)) = false := by simp
  have HA := Lib.hid ha
  have HB := Lib.hid hb
  have HS := Lib.hid hS
  have HT := Lib.hid hT
  clear ha hb hS hT
  go_enter Try.func45, Try.ntmps45
  go_upto_region 4 with (fail)
  go_loopw [13] (fun s13 wr => ∃ i : Nat, i ≤ len ∧ s13 = .int .i64 (i : Int) ∧ Hid (a.take i = b.take i) ∧ Hid (Below w.heap.size w wr)) (fun s13 _ => len - (intOf s13).toNat)
  case atStart => exact ⟨0, by omega, rfl, rfl, Below.refl _ _⟩
  case round =>
    obtain ⟨i, hi, rfl, hE, hBr⟩ := hrel
    by_cases hin : i < len
    · have g1 : (i : Int) < (len : Int) := by omega
      have hia : i < a.length := by rw [HA.out]; exact hin
      have hib : i < b.length := by rw [HB.out]; exact hin
      obtain ⟨b1, o1, rfl, hb1, hc1⟩ := HS.out (by omega)
      obtain ⟨b2, o2, rfl, hb2, hc2⟩ := HT.out (by omega)
      obtain ⟨k0, k1, k2⟩ := hc1 i hia
      obtain ⟨m0, m1, m2⟩ := hc2 i hib
      have r0 := (hBr.out.cell (p := ⟨b1, o1 + i * 3, none⟩) hb1).trans k0
      have r1 := (hBr.out.cell (p := ⟨b1, o1 + i * 3 + 1, none⟩) hb1).trans k1
      have r2 := (hBr.out.cell (p := ⟨b1, o1 + i * 3 + 2, none⟩) hb1).trans k2
      have r3 := (hBr.out.cell (p := ⟨b2, o2 + i * 3, none⟩) hb2).trans m0
      have r4 := (hBr.out.cell (p := ⟨b2, o2 + i * 3 + 1, none⟩) hb2).trans m1
      have r5 := (hBr.out.cell (p := ⟨b2, o2 + i * 3 + 2, none⟩) hb2).trans m2
      have HNA : Hid (a.take (i + 1) = a.take i ++ [a[i]]) := by unfold Hid; rw [List.take_add_one, List.getElem?_eq_getElem hia]; rfl
      have HNB : Hid (b.take (i + 1) = b.take i ++ [b[i]]) := by unfold Hid; rw [List.take_add_one, List.getElem?_eq_getElem hib]; rfl
      have HNE : Hid (a = b → a[i] = b[i]) := fun e => by subst e; rfl
      clear hc1 hc2 k0 k1 k2 m0 m1 m2
      by_cases he : a[i] = b[i]
      · have HE2 : Hid (a.take (i + 1) = b.take (i + 1)) := by unfold Hid; rw [HNA.out, HNB.out, hE.out, he]
        rw [he] at r0 r1 r2
        clear HNA HNB HNE he hE
        generalize (b[i]).1 = x at *
        generalize (b[i]).2.1 = y at *
        generalize (b[i]).2.2 = z at *
        go_upto_region 6 with (fail)
        go_quiet (fail)
        have HBq : Hid (Below w.heap.size w (wr.drewN nq)) := below_dr hBr.out nq
        clear r0 r1 r2 r3 r4 r5 hBr
        generalize wr.drewN nq = wZ at *
        go_wp2
        exact ⟨⟨i + 1, by omega, int_eq (by omega), HE2, HBq⟩, by simp [intOf]; omega⟩
      · have HF : Hid (¬ a = b) := fun e => he (HNE.out e)
        have hq : ((a[i]).1 == (b[i]).1 && (a[i]).2.1 == (b[i]).2.1 && (a[i]).2.2 == (b[i]).2.2) = false := by
          cases e : ((a[i]).1 == (b[i]).1 && (a[i]).2.1 == (b[i]).2.1 && (a[i]).2.2 == (b[i]).2.2) with
          | false => rfl
          | true =>
            simp only [Bool.and_eq_true, beq_iff_eq] at e
            exact absurd (Prod.ext e.1.1 (Prod.ext e.1.2 e.2)) he
        clear HNA HNB HNE he hE
        generalize (b[i]).1 = x at *
        generalize (b[i]).2.1 = y at *
        generalize (b[i]).2.2 = z at *
        generalize (a[i]).1 = x' at *
        generalize (a[i]).2.1 = y' at *
        generalize (a[i]).2.2 = z' at *
        go_upto_region 6 with (fail)
        go_quiet (fail)
        have HBq : Hid (Below w.heap.size w (wr.drewN nq)) := below_dr hBr.out nq
        clear r0 r1 r2 r3 r4 r5 hBr
        generalize wr.drewN nq = wZ at *
        go_wp2
        go_ret
        exact ⟨⟨false, rfl, ⟨fun h => (by cases h), fun H => (HF.out H).elim⟩⟩, HBq.out⟩
    · have g1 : ¬ (i : Int) < (len : Int) := by omega
      obtain rfl : len = i := by omega
      have HAB : Hid (a = b) := by
        have := hE.out
        rw [List.take_of_length_le (by rw [HA.out]; exact Nat.le_refl _), List.take_of_length_le (by rw [HB.out]; exact Nat.le_refl _)] at this
        exact this
      go_wp2
      go_ret
      exact ⟨⟨true, rfl, ⟨fun _ => HAB.out, fun _ => rfl⟩⟩, hBr.out⟩
theorem lt3_asym {a b : Z3} (h : lt3 a b = true) : lt3 b a = false := by
  cases e : lt3 b a with
  | false => rfl
  | true =>
    rw [lt3_iff] at h e
    omega
theorem TellsP.yes {P : Prop} {e : Ending} (h : TellsP P e) (hp : P) : e = .returned (.bool true) := by
  obtain ⟨b, rfl, hb⟩ := h
  rw [hb.2 hp]
theorem TellsP.no {P : Prop} {e : Ending} (h : TellsP P e) (hp : ¬ P) : e = .returned (.bool false) := by
  obtain ⟨b, rfl, hb⟩ := h
  cases b with
  | false => rfl
  | true => exact (hp (hb.1 rfl)).elim
theorem ordEq {l ys : List Z3} (hs : ys.Pairwise (fun a b => lt3 b a = false)) (hp : ys.Perm l) (hl : l.Pairwise (fun a b => lt3 b a = false)) : ys = l := hp.eq_of_pairwise (fun a b _ _ h1 h2 => lt3_tri h2 h1) hs hl
/-- put in order and the same: in order -/
theorem sys_ord {n : Nat} {l ys : List Z3} (hp : ys.Perm l) (hs : ys.Pairwise (fun a b => lt3 b a = false)) : (ys = l ∧ TogP n l) ↔ SysP n l := by
  constructor
  · rintro ⟨rfl, ht⟩
    exact ht.sys (List.Perm.refl _) hs
  · intro h
    refine ⟨hp.eq_of_pairwise (fun a b _ _ h1 h2 => lt3_tri h2 h1) hs (h.srt.imp fun hab => lt3_asym hab), h.tog⟩
theorem SrcZ.src {W : World} {p : Option Addr} {l : List Z3} (h : SrcZ W p l) : Src W p l.length 3 (zcells l) := by
  refine ⟨zcells_len l, fun hm => ?_⟩
  obtain ⟨b, o, e, hb, hc⟩ := h (by omega)
  refine ⟨⟨b, o, none⟩, e, fun j u hu => ?_⟩
  have hj : j < l.length * 3 := by
    have := (List.getElem?_eq_some_iff.1 hu).1
    rw [zcells_len] at this
    exact this
  have e2 : (⟨b, o, none⟩ : Addr).add j = ⟨b, o + j, none⟩ := by
    cases j with
    | zero => simp [Addr.add]
    | succ j => simp [Addr.add]
  rw [e2]
  have hi : j / 3 < l.length := by omega
  obtain ⟨z0, z1, z2⟩ := zcells_get l (j / 3) hi
  obtain ⟨c0, c1, c2⟩ := hc (j / 3) hi
  rcases (show j = j / 3 * 3 ∨ j = j / 3 * 3 + 1 ∨ j = j / 3 * 3 + 2 by omega) with e3 | e3 | e3
  · rw [e3, z0] at hu
    rw [← Option.some.inj hu, ← c0]
    congr 2; omega
  · rw [e3, z1] at hu
    rw [← Option.some.inj hu, ← c1]
    congr 2; omega
  · rw [e3, z2] at hu
    rw [← Option.some.inj hu, ← c2]
    congr 2; omega
theorem SrcZ.lt {W : World} {p : Option Addr} {l : List Z3} (h : SrcZ W p l) (h0 : 0 < l.length) : ∀ a, p = some a → a.block < W.heap.size := fun a e => by
  obtain ⟨b, o, e2, hb, _⟩ := h h0
  rw [e] at e2
  rw [Option.some.inj e2]; exact hb
set_option maxRecDepth 100000 in
set_option maxHeartbeats 4000000 in
theorem IsTriples_any (n : Int) (p : Option Addr) (c : Nat) (l : List Z3) (w : World) (hl : l.length ≤ 1000) (hc : l.length ≤ c) (hS : SrcZ w p l) (hlt : ∀ a, p = some a → a.block < w.heap.size) :
    Calls Try.prog 23 #[.int .i64 n, .slice p l.length c] w fun e w' => TellsP ((3 ≤ n ∧ n ≤ 27) ∧ SysP n.toNat l) e ∧ Below w.heap.size w w' := by
  have HS := Lib.hid hS
  by_cases hr : 3 ≤ n ∧ n ≤ 27
  · obtain ⟨m, rfl⟩ : ∃ m : Nat, n = (m : Int) := ⟨n.toNat, by omega⟩
    have HO := Lib.hid (ordered_any p c l w hl hc hS.src hlt)
    have HR := Lib.hid (inRange_any (m : Int) w)
    rw [decide_eq_true hr] at HR
    have hm3 : 3 ≤ m := by omega
    have hm27 : m ≤ 27 := by omega
    have HIT := Lib.hid (fun W (hB : Below w.heap.size w W) => isTri_any m p c l W hm3 hm27 (by omega) hc (HS.out.below hB (Nat.le_refl _)))
    have hl5 : l.length ≤ 100000 := by omega
    have HTT : Hid (((3 ≤ (m : Int) ∧ (m : Int) ≤ 27) ∧ SysP (m : Int).toNat l) ↔ SysP m l) := ⟨fun h => h.2, fun h => ⟨hr, h⟩⟩
    obtain ⟨len, HL⟩ : ∃ len, Hid (l.length = len) := ⟨_, rfl⟩
    rw [HL.out] at HO HIT hl5 hc ⊢
    clear hl hS hlt hr
    go_enter Try.func23, Try.ntmps23
    by_cases hW : l.Pairwise (fun a b => lt3 b a = false)
    · by_cases hT : TogP m l
      · have HF : Hid (SysP m l) := hT.sys (List.Perm.refl _) hW
        go_wp2_with (first
          | (go_at_call 37; refine HR.out.mono ?_; rintro e w4 ⟨rfl, hw4⟩; replace hw4 := hw4.symm; subst hw4; try dsimp only)
          | (go_at_call 38; refine HO.out.mono ?_; rintro e w1 ⟨⟨q, d, ys, rfl, hp, hs, hz⟩, hB1⟩; have hly : ys.length = len := (by rw [hp.length_eq, HL.out]); have HZ : Hid (SrcZ w1 q ys) := hz.src; have hfit := (show QRow w1 w.heap.size 44 3 (.slice q len d) ys.length (zcells ys) from hz); rw [hly] at hfit; have hcd := hfit.fits.1; have HE := Lib.hid (equalT_any q p d c len ys l w1 hly HL.out hl5 hcd hc HZ.out (HS.out.below hB1 (Nat.le_refl _))); have HP := Lib.hid hp; have HSR := Lib.hid hs; have HB1 := Lib.hid hB1; clear hp hs hz hfit hB1 hly)
          | (go_at_call 45; refine HE.out.mono ?_; rintro e w2 ⟨ht, hB2⟩; obtain rfl := ht.yes (ordEq HSR.out HP.out hW); have HB2 : Hid (Below w.heap.size w w2) := HB1.out.trans (hB2.mono HB1.out.size); clear ht hB2)
          | (go_at_call 46; refine (HIT.out _ HB2.out).mono ?_; rintro e w3 ⟨ht, hB3⟩; obtain rfl := ht.yes hT; have HB3 : Hid (Below w.heap.size w w3) := HB2.out.trans (hB3.mono HB2.out.size); clear ht hB3))
        go_ret
        exact ⟨⟨true, rfl, ⟨fun _ => HTT.out.2 HF.out, fun _ => rfl⟩⟩, HB3.out⟩
      · have HF : Hid (¬ SysP m l) := fun h => hT h.tog
        go_wp2_with (first
          | (go_at_call 37; refine HR.out.mono ?_; rintro e w4 ⟨rfl, hw4⟩; replace hw4 := hw4.symm; subst hw4; try dsimp only)
          | (go_at_call 38; refine HO.out.mono ?_; rintro e w1 ⟨⟨q, d, ys, rfl, hp, hs, hz⟩, hB1⟩; have hly : ys.length = len := (by rw [hp.length_eq, HL.out]); have HZ : Hid (SrcZ w1 q ys) := hz.src; have hfit := (show QRow w1 w.heap.size 44 3 (.slice q len d) ys.length (zcells ys) from hz); rw [hly] at hfit; have hcd := hfit.fits.1; have HE := Lib.hid (equalT_any q p d c len ys l w1 hly HL.out hl5 hcd hc HZ.out (HS.out.below hB1 (Nat.le_refl _))); have HP := Lib.hid hp; have HSR := Lib.hid hs; have HB1 := Lib.hid hB1; clear hp hs hz hfit hB1 hly)
          | (go_at_call 45; refine HE.out.mono ?_; rintro e w2 ⟨ht, hB2⟩; obtain rfl := ht.yes (ordEq HSR.out HP.out hW); have HB2 : Hid (Below w.heap.size w w2) := HB1.out.trans (hB2.mono HB1.out.size); clear ht hB2)
          | (go_at_call 46; refine (HIT.out _ HB2.out).mono ?_; rintro e w3 ⟨ht, hB3⟩; obtain rfl := ht.no hT; have HB3 : Hid (Below w.heap.size w w3) := HB2.out.trans (hB3.mono HB2.out.size); clear ht hB3))
        go_ret
        exact ⟨⟨false, rfl, ⟨fun h => (by cases h), fun H => (HF.out (HTT.out.1 H)).elim⟩⟩, HB3.out⟩
    · have HF : Hid (¬ SysP m l) := fun h => hW (h.srt.imp fun hab => lt3_asym hab)
      go_wp2_with (first
        | (go_at_call 37; refine HR.out.mono ?_; rintro e w4 ⟨rfl, hw4⟩; replace hw4 := hw4.symm; subst hw4; try dsimp only)
        | (go_at_call 38; refine HO.out.mono ?_; rintro e w1 ⟨⟨q, d, ys, rfl, hp, hs, hz⟩, hB1⟩; have hly : ys.length = len := (by rw [hp.length_eq, HL.out]); have HZ : Hid (SrcZ w1 q ys) := hz.src; have hfit := (show QRow w1 w.heap.size 44 3 (.slice q len d) ys.length (zcells ys) from hz); rw [hly] at hfit; have hcd := hfit.fits.1; have HE := Lib.hid (equalT_any q p d c len ys l w1 hly HL.out hl5 hcd hc HZ.out (HS.out.below hB1 (Nat.le_refl _))); have HP := Lib.hid hp; have HSR := Lib.hid hs; have HB1 := Lib.hid hB1; clear hp hs hz hfit hB1 hly)
        | (go_at_call 45; refine HE.out.mono ?_; rintro e w2 ⟨ht, hB2⟩; obtain rfl := ht.no (fun e => hW (by rw [← e]; exact HSR.out)); have HB2 : Hid (Below w.heap.size w w2) := HB1.out.trans (hB2.mono HB1.out.size); clear ht hB2))
      go_ret
      exact ⟨⟨false, rfl, ⟨fun h => (by cases h), fun H => (HF.out (HTT.out.1 H)).elim⟩⟩, HB2.out⟩
  · have HR := Lib.hid (inRange_any n w)
    rw [decide_eq_false hr] at HR
    have HF : Hid (¬ ((3 ≤ n ∧ n ≤ 27) ∧ SysP n.toNat l)) := fun h => hr h.1
    obtain ⟨len, HL⟩ : ∃ len, Hid (l.length = len) := ⟨_, rfl⟩
    rw [HL.out]
    clear hl hS hlt hr
    go_enter Try.func23, Try.ntmps23
    go_wp2_with (go_at_call 37; refine HR.out.mono ?_; rintro e w4 ⟨rfl, hw4⟩; replace hw4 := hw4.symm; subst hw4; try dsimp only)
    go_ret
    exact ⟨⟨false, rfl, ⟨fun h => (by cases h), fun H => (HF.out H).elim⟩⟩, Below.refl _ _⟩
set_option maxRecDepth 100000 in
theorem Triples_ok (n : Nat) (w : World) (hn3 : 3 ≤ n) (hn : n ≤ 27) (h6 : n % 6 = 1 ∨ n % 6 = 3) :
    Calls Try.prog 18 #[.int .i64 (n : Int)] w fun e w' => (∃ q d ys, e = .returned (.tuple #[.slice q ys.length d, .int .i64 0]) ∧ SysP n ys ∧ ys.length ≤ 200 ∧ ZRow w' w.heap.size (.slice q ys.length d) ys) ∧ Below w.heap.size w w' := by
  have HR := Lib.hid (inRange_any (n : Int) w)
  rw [decide_eq_true (show 3 ≤ (n : Int) ∧ (n : Int) ≤ 27 by omega)] at HR
  have hlen : ∀ l : List Z3, TogP n l → l.length ≤ 200 := fun l h => by
    have h1 := h.len
    have h2 : n * (n - 1) ≤ 27 * 26 := Nat.mul_le_mul hn (by omega)
    omega
  rcases h6 with h6 | h6
  · have e1 : Int.tmod (n : Int) 6 = 1 := by rw [Int.tmod_eq_emod_of_nonneg (by omega)]; omega
    have HT := Lib.hid (skolem_tog (show n = 7 ∨ n = 13 ∨ n = 19 ∨ n = 25 by omega))
    have HL := Lib.hid (hlen _ HT.out)
    have HSK := Lib.hid (skolem_any n (n / 3) w rfl hn hn3)
    go_enter Try.func18, Try.ntmps18
    go_wp2_with (first
      | (go_at_call 37; refine HR.out.mono ?_; rintro e w4 ⟨rfl, hw4⟩; replace hw4 := hw4.symm; subst hw4; try dsimp only)
      | (go_at_call 40; refine HSK.out.mono ?_; rintro e w1 ⟨⟨p, c, rfl, hz⟩, hB1⟩; have hz2 := hz.z; have hfit := (show QRow w1 w.heap.size 44 3 (.slice p (skolemL n).length c) (skolemL n).length (tcells (skolemL n)) from hz).fits; have HO := Lib.hid (ordered_any p c ((skolemL n).map zc) w1 (by have := HL.out; omega) (by rw [List.length_map]; exact hfit.1) hz2.src.src (fun a e => by have hq := (show QRow w1 w.heap.size 44 3 (.slice p (skolemL n).length c) (skolemL n).length (tcells (skolemL n)) from hz); subst e; exact (hq.lt _ rfl).2)); rw [List.length_map] at HO; have HB1 := Lib.hid hB1; clear hz hz2 hfit hB1)
      | (go_at_call 38; refine HO.out.mono ?_; rintro e w2 ⟨⟨q, d, ys, rfl, hp, hs, hz⟩, hB2⟩; have HSY : Hid (SysP n ys) := HT.out.sys hp hs; have hly : ys.length = (skolemL n).length := (by rw [hp.length_eq, List.length_map]); have HZ := Lib.hid hz; have HB2 : Hid (Below w.heap.size w w2) := HB1.out.trans (hB2.mono HB1.out.size); have HZB := Lib.hid HB1.out.size; clear hp hs hz hB2))
    refine bodyPost_ret (v := .tuple #[.slice q (skolemL n).length d, .int .i64 0]) (by simp [results, Try.f18, go_sem]) rfl ?_
    rw [← hly] at HZ ⊢
    exact ⟨⟨q, d, ys, rfl, HSY.out, hlen _ HSY.out.tog, (show QRow _ _ _ _ _ _ _ from HZ.out).mono HZB.out⟩, HB2.out⟩
  · have e1 : Int.tmod (n : Int) 6 = 3 := by rw [Int.tmod_eq_emod_of_nonneg (by omega)]; omega
    have HT := Lib.hid (bose_tog (show n = 3 ∨ n = 9 ∨ n = 15 ∨ n = 21 ∨ n = 27 by omega))
    have HL := Lib.hid (hlen _ HT.out)
    have HSK := Lib.hid (bose_any n (n / 3) w rfl hn hn3)
    go_enter Try.func18, Try.ntmps18
    go_wp2_with (first
      | (go_at_call 37; refine HR.out.mono ?_; rintro e w4 ⟨rfl, hw4⟩; replace hw4 := hw4.symm; subst hw4; try dsimp only)
      | (go_at_call 39; refine HSK.out.mono ?_; rintro e w1 ⟨⟨p, c, rfl, hz⟩, hB1⟩; have hz2 := hz.z; have hfit := (show QRow w1 w.heap.size 44 3 (.slice p (boseL n).length c) (boseL n).length (tcells (boseL n)) from hz).fits; have HO := Lib.hid (ordered_any p c ((boseL n).map zc) w1 (by have := HL.out; omega) (by rw [List.length_map]; exact hfit.1) hz2.src.src (fun a e => by have hq := (show QRow w1 w.heap.size 44 3 (.slice p (boseL n).length c) (boseL n).length (tcells (boseL n)) from hz); subst e; exact (hq.lt _ rfl).2)); rw [List.length_map] at HO; have HB1 := Lib.hid hB1; clear hz hz2 hfit hB1)
      | (go_at_call 38; refine HO.out.mono ?_; rintro e w2 ⟨⟨q, d, ys, rfl, hp, hs, hz⟩, hB2⟩; have HSY : Hid (SysP n ys) := HT.out.sys hp hs; have hly : ys.length = (boseL n).length := (by rw [hp.length_eq, List.length_map]); have HZ := Lib.hid hz; have HB2 : Hid (Below w.heap.size w w2) := HB1.out.trans (hB2.mono HB1.out.size); have HZB := Lib.hid HB1.out.size; clear hp hs hz hB2))
    refine bodyPost_ret (v := .tuple #[.slice q (boseL n).length d, .int .i64 0]) (by simp [results, Try.f18, go_sem]) rfl ?_
    rw [← hly] at HZ ⊢
    exact ⟨⟨q, d, ys, rfl, HSY.out, hlen _ HSY.out.tog, (show QRow _ _ _ _ _ _ _ from HZ.out).mono HZB.out⟩, HB2.out⟩
set_option maxRecDepth 100000 in
theorem Triples_none (n : Nat) (w : World) (hn3 : 3 ≤ n) (hn : n ≤ 27) (h6 : ¬ (n % 6 = 1 ∨ n % 6 = 3)) :
    Calls Try.prog 18 #[.int .i64 (n : Int)] w fun e w' => e = .returned (.tuple #[.slice none 0 0, .int .i64 4]) ∧ w' = w := by
  have HR := Lib.hid (inRange_any (n : Int) w)
  rw [decide_eq_true (show 3 ≤ (n : Int) ∧ (n : Int) ≤ 27 by omega)] at HR
  obtain ⟨r, hr⟩ : ∃ r, n % 6 = r := ⟨_, rfl⟩
  have e1 : Int.tmod (n : Int) 6 = (r : Int) := by rw [Int.tmod_eq_emod_of_nonneg (by omega)]; omega
  have q1 : ((r : Int) == 3) = false := by simp; omega
  have q2 : ((r : Int) == 1) = false := by simp; omega
  clear hr h6
  go_enter Try.func18, Try.ntmps18
  go_wp2_with (go_at_call 37; refine HR.out.mono ?_; rintro e w4 ⟨rfl, hw4⟩; replace hw4 := hw4.symm; subst hw4; try dsimp only)
  refine bodyPost_ret (v := .tuple #[.slice none 0 0, .int .i64 4]) (by simp [results, Try.f18, go_sem]) rfl ?_
  exact ⟨rfl, rfl⟩
set_option maxRecDepth 100000 in
theorem Triples_err (n : Int) (w : World) (hn : ¬ (3 ≤ n ∧ n ≤ 27)) :
    Calls Try.prog 18 #[.int .i64 n] w fun e w' => e = .returned (.tuple #[.slice none 0 0, .int .i64 1]) ∧ w' = w := by
  have HR := Lib.hid (inRange_any n w)
  rw [decide_eq_false hn] at HR
  clear hn
  go_enter Try.func18, Try.ntmps18
  go_wp2_with (go_at_call 37; refine HR.out.mono ?_; rintro e w4 ⟨rfl, hw4⟩; replace hw4 := hw4.symm; subst hw4; try dsimp only)
  refine bodyPost_ret (v := .tuple #[.slice none 0 0, .int .i64 1]) (by simp [results, Try.f18, go_sem]) rfl ?_
  exact ⟨rfl, rfl⟩
end Go.Proofs.Ytocnhikohfkcaaa
namespace Go.Proofs.Ytocnhikohfkcaaa
open Go.RowKit Go.Shelf
attribute [local go_sem] Oper.semAt_some

/-- k rows of h entries, each row in its own block -/
def RowsR (W : World) (base : Nat) (te ti : TypeId) (sz : Nat) (v : Value) (k h : Nat) (cs : Nat → List Value) : Prop := ∃ xs, QRow W base te 1 v k xs ∧ (∀ r, r < k → ∃ p c, xs[r]? = some (.slice p h c) ∧ QRow W base ti sz (.slice p h c) h (cs r)) ∧
  ∀ r r' x x' b, r < k → r' < k → xs[r]? = some x → xs[r']? = some x' → x.ownBlock = some b → x'.ownBlock = some b → r = r'
section
variable {W W' : World} {base : Nat} {te ti : TypeId} {sz : Nat} {v : Value} {k h : Nat} {cs : Nat → List Value}
theorem RowsR.nil (W : World) (base : Nat) (te ti : TypeId) (sz h : Nat) (cs : Nat → List Value) : RowsR W base te ti sz (.slice none 0 0) 0 h cs := ⟨[], QRow.nil _ _ _ _, fun r hr => by omega, fun r _ _ _ _ hr => by omega⟩
theorem RowsR.isSlice (H : RowsR W base te ti sz v k h cs) : ∃ p c, v = .slice p k c := H.elim fun _ h => h.1.isSlice
theorem RowsR.below {n : Nat} (H : RowsR W base te ti sz v k h cs) (hB : Below n W W') (hn : W.heap.size ≤ n) : RowsR W' base te ti sz v k h cs := by
  obtain ⟨xs, h1, h2, h5⟩ := H
  refine ⟨xs, h1.below hB fun k' hk' => Nat.lt_of_lt_of_le (h1.lt k' hk').2 hn, fun r hr => ?_, h5⟩
  obtain ⟨p, c, h3, h4⟩ := h2 r hr
  exact ⟨p, c, h3, h4.below hB fun k' hk' => Nat.lt_of_lt_of_le (h4.lt k' hk').2 hn⟩
theorem RowsR.congr {cs' : Nat → List Value} (H : RowsR W base te ti sz v k h cs) (e : ∀ r, r < k → cs r = cs' r) : RowsR W base te ti sz v k h cs' := by
  obtain ⟨xs, h1, h2, h5⟩ := H
  refine ⟨xs, h1, fun r hr => ?_, h5⟩
  rw [← e r hr]; exact h2 r hr
theorem RowsR.push {v' : Value} {p : Option Addr} {c : Nat} {xs : List Value} (hne : ti ≠ te)
    (h2 : ∀ r, r < k → ∃ p c, xs[r]? = some (.slice p h c) ∧ QRow W base ti sz (.slice p h c) h (cs r)) (h1 : QRow W base te 1 v k xs)
    (hq : QRow W base ti sz (.slice p h c) h (cs k)) (hg : W.grownBy W' v.ownBlock) (h3 : QRow W' base te 1 v' (k + 1) (xs ++ [.slice p h c]))
    (hD : ∀ r r' x x' b, r < k → r' < k → xs[r]? = some x → xs[r']? = some x' → x.ownBlock = some b → x'.ownBlock = some b → r = r') (hN : ∀ r x b, r < k → xs[r]? = some x → x.ownBlock = some b → (Value.slice p h c).ownBlock ≠ some b) : RowsR W' base te ti sz v' (k + 1) h cs := by
  have hxl := h1.1
  have hat : ∀ r x, r < k + 1 → (xs ++ [Value.slice p h c])[r]? = some x → (r < k ∧ xs[r]? = some x) ∨ (r = k ∧ x = .slice p h c) := fun r x hr hx => by
    by_cases e : r = k
    · subst e
      rw [List.getElem?_append_right (by omega)] at hx
      rw [show r - xs.length = 0 by omega] at hx
      exact .inr ⟨rfl, by simpa using hx.symm⟩
    · rw [List.getElem?_append_left (by omega)] at hx
      exact .inl ⟨by omega, hx⟩
  refine ⟨_, h3, fun r hr => ?_, fun r r' x x' b hr hr' hx hx' hb hb' => ?_⟩
  rotate_left
  · rcases hat r x hr hx with ⟨h4, h5⟩ | ⟨rfl, rfl⟩
    · rcases hat r' x' hr' hx' with ⟨h6, h7⟩ | ⟨rfl, rfl⟩
      · exact hD r r' x x' b h4 h6 h5 h7 hb hb'
      · exact absurd hb' (hN r x b h4 h5 hb)
    · rcases hat r' x' hr' hx' with ⟨h6, h7⟩ | ⟨rfl, rfl⟩
      · exact absurd hb (hN r' x' b h6 h7 hb')
      · rfl
  by_cases e : r = k
  · subst e
    refine ⟨p, c, ?_, hq.kept hg (ne_or (hq.ne h1 hne))⟩
    rw [List.getElem?_append_right (by omega)]; simp [hxl]
  · obtain ⟨p', c', h4, h5⟩ := h2 r (by omega)
    refine ⟨p', c', ?_, h5.kept hg (ne_or (h5.ne h1 hne))⟩
    rw [List.getElem?_append_left (by omega)]; exact h4
end
theorem RowsR.lts {W : World} {base : Nat} {te ti : TypeId} {sz : Nat} {v : Value} {k h : Nat} {cs : Nat → List Value} (H : RowsR W base te ti sz v k h cs) : ∃ xs, QRow W base te 1 v k xs ∧ (∀ r, r < k → ∃ p c, xs[r]? = some (.slice p h c) ∧ QRow W base ti sz (.slice p h c) h (cs r)) ∧
    (∀ r r' x x' b, r < k → r' < k → xs[r]? = some x → xs[r']? = some x' → x.ownBlock = some b → x'.ownBlock = some b → r = r') ∧ ∀ r x b, r < k → xs[r]? = some x → x.ownBlock = some b → b < W.heap.size := by
  obtain ⟨xs, h1, h2, h3⟩ := H
  refine ⟨xs, h1, h2, h3, fun r x b hr hx hb => ?_⟩
  obtain ⟨p, c, e1, e2⟩ := h2 r hr
  rw [hx] at e1
  cases e1
  exact (e2.lt b hb).2
theorem qrow_new (W : World) (n sz : Nat) (vs : Array Value) (t : TypeId) {base : Nat} (hb : base ≤ W.heap.size) (hn : n ≤ maxLen) (hs : vs.size = n * sz) : QRow (W.alloc (.cells vs t)) base t sz (.slice (some ⟨W.heap.size, 0, none⟩) n n) n vs.toList :=
  ⟨by simp [hs], .inr ⟨W.heap.size, 0, n, vs, rfl, hb, World.alloc_heap_new W _, Nat.le_refl _, hn, by omega, fun j hj => by
    rw [Nat.zero_add, Array.getElem?_toList]⟩⟩
theorem infoTs : (Try.prog.info? 33).map (fun i => (i.zero, i.size, i.bytes)) = some (some (.slice none 0 0), 1, 24) := by kernel_rfl
theorem underD : Try.prog.underlying 36 = some (.slice 33) := by kernel_rfl
/-- k days of h triples each -/
def DayR (W : World) (base : Nat) (v : Value) (k h : Nat) (ds : Nat → List N3) : Prop := RowsR W base 33 44 3 v k h (fun r => tcells (ds r))
/-- one day more, that has just been laid -/
theorem day_push {W : World} {base : Nat} {p : Option Addr} {d c h : Nat} {ds : Nat → List N3} {vs : Array Value} (hR : DayR W base (.slice p d c) d h ds) (hb : base ≤ W.heap.size) (hh : h ≤ 1000) (hvs : vs.toList = tcells (ds d)) (hl : (ds d).length = h) :
    ∃ xs, QRow ((W.alloc (.cells vs 44)).alloc (.cells #[.slice (some ⟨W.heap.size, 0, none⟩) h h] 33)) base 33 1 (.slice p d c) d xs ∧
      ∀ v' w', QRow w' base 33 1 v' (d + 1) (xs ++ [.slice (some ⟨W.heap.size, 0, none⟩) h h]) → ((W.alloc (.cells vs 44)).alloc (.cells #[.slice (some ⟨W.heap.size, 0, none⟩) h h] 33)).grownBy w' (Value.slice p d c).ownBlock → DayR w' base v' (d + 1) h ds := by
  obtain ⟨xs, h1, h2, h3, h4⟩ := hR.lts
  have hsz : vs.size = h * 3 := by
    have e : vs.size = vs.toList.length := by simp
    have : ∀ l : List N3, (tcells l).length = l.length * 3 := by
      intro l
      induction l with
      | nil => rfl
      | cons a l ih => unfold tcells at *; rw [List.flatMap_cons, List.length_append, ih, List.length_cons]; simp [t3]; omega
    rw [e, hvs, this, hl]
  have hq : QRow ((W.alloc (.cells vs 44)).alloc (.cells #[.slice (some ⟨W.heap.size, 0, none⟩) h h] 33)) base 44 3 (.slice (some ⟨W.heap.size, 0, none⟩) h h) h (tcells (ds d)) := by
    rw [← hvs]
    exact (qrow_new W h 3 vs _ hb (by unfold maxLen; omega) hsz).alloc _
  refine ⟨xs, (h1.alloc _).alloc _, fun v' w' hq' hg => RowsR.push (by decide) (fun r hr => ?_) ((h1.alloc _).alloc _) hq hg hq' h3 (fun r x b hr hx hbk e => ?_)⟩
  · obtain ⟨q, e, e1, e2⟩ := h2 r hr
    exact ⟨q, e, e1, (e2.alloc _).alloc _⟩
  · have h5 := h4 r x b hr hx hbk
    have e2 : W.heap.size = b := Option.some.inj e
    omega
set_option maxRecDepth 100000 in
theorem schA_any (bd day i : Nat) (w : World) (hd : day ≤ 6) (hi : i ≤ 6) (k : w.cell? ⟨bd, 0, none⟩ = some (.int .i64 (day : Int))) :
    Calls Try.prog 59 #[.int .i64 (i : Int), .pointer (some ⟨bd, 0, none⟩)] w fun e w' => e = .returned (.int .i64 (sA day i : Int)) ∧ w' = w := by
  have e1 : Int.tmod ((day : Int) + (i : Int)) 7 = ((sA day i : Nat) : Int) := by rw [Int.tmod_eq_emod_of_nonneg (by omega)]; unfold sA; omega
  generalize sA day i = z at *
  go_enter Try.func59, Try.ntmps59
  go_wp2
  go_ret
  exact ⟨rfl, rfl⟩
set_option maxRecDepth 100000 in
theorem schB_any (bd day i : Nat) (w : World) (hd : day ≤ 6) (hi : i ≤ 6) (k : w.cell? ⟨bd, 0, none⟩ = some (.int .i64 (day : Int))) :
    Calls Try.prog 60 #[.int .i64 (i : Int), .pointer (some ⟨bd, 0, none⟩)] w fun e w' => e = .returned (.int .i64 (sB day i : Int)) ∧ w' = w := by
  have e1 : Int.tmod ((day : Int) + (i : Int)) 7 = ((sA day i : Nat) : Int) := by rw [Int.tmod_eq_emod_of_nonneg (by omega)]; unfold sA; omega
  have hz : sA day i < 7 := by unfold sA; omega
  have HE : Hid (sB day i = 7 + sA day i) := rfl
  generalize sA day i = z at *
  go_enter Try.func60, Try.ntmps60
  go_wp2
  go_ret
  exact ⟨by rw [HE.out]; simp, rfl⟩
theorem sA_lt (d i : Nat) : sA d i < 7 := by unfold sA; omega
theorem sB_lt (d i : Nat) : sB d i < 14 := by unfold sB; omega
set_option maxRecDepth 100000 in
set_option maxHeartbeats 8000000 in
theorem school_any (w : World) :
    Calls Try.prog 41 #[] w fun e w' => (∃ p c, e = .returned (.slice p 7 c) ∧ DayR w' w.heap.size (.slice p 7 c) 7 5 schoolD) ∧ Below w.heap.size w w' := by
  obtain ⟨i0, hi0, hz0, hz1, hz2⟩ := info_parts infoTs
  go_enter Try.func41, Try.ntmps41
  go_upto_region 3 with (fail)
  go_loopw [1, 5] (fun s1 s5 wr => ∃ d : Nat, d ≤ 7 ∧ s5 = .int .i64 (d : Int) ∧ Hid (DayR wr w.heap.size s1 d 5 schoolD) ∧ Hid (Below w.heap.size w wr)) (fun _ s5 _ => 7 - (intOf s5).toNat)
  case atStart => exact ⟨0, by omega, rfl, RowsR.nil _ _ _ _ _ _ _, Below.refl _ _⟩
  case round =>
    obtain ⟨d, hd, rfl, hR, hB⟩ := hrel
    obtain ⟨p1, c1, rfl⟩ := hR.out.isSlice
    have hwr : w.heap.size ≤ wr.heap.size := hB.out.size
    by_cases hd7 : d < 7
    · have g1 : (d : Int) < 7 := by omega
      have HX : Hid (Boxed (wr.alloc (.cells #[.int .i64 (d : Int)] 3)) wr.heap.size 3 (.int .i64 (d : Int))) := boxed_at rfl
      have HBV : Hid (Below wr.heap.size wr (wr.alloc (.cells #[.int .i64 (d : Int)] 3))) := (Below.refl _ _).alloc (Nat.le_refl _) _
      go_upto_region 7 with (fail)
      obtain ⟨bd, hbd⟩ : ∃ bd, Hid (bd = wr.heap.size) := ⟨_, rfl⟩
      rw [← hbd.out] at HX ⊢
      generalize (wr.alloc (.cells #[.int .i64 (d : Int)] 3)) = V at *
      have HRV : Hid (DayR V w.heap.size (.slice p1 d c1) d 5 schoolD) := hR.out.below HBV.out (Nat.le_refl _)
      have hBV : Hid (Below w.heap.size w V) := hB.out.trans (HBV.out.mono hwr)
      have HA := Lib.hid (fun W (hW : Below V.heap.size V W) i (hi : i ≤ 6) => schA_any bd d i W (by omega) hi ((hW.cell (p := ⟨bd, 0, none⟩) HX.out.lt).trans HX.out.cell))
      have HBc := Lib.hid (fun W (hW : Below V.heap.size V W) i (hi : i ≤ 6) => schB_any bd d i W (by omega) hi ((hW.cell (p := ⟨bd, 0, none⟩) HX.out.lt).trans HX.out.cell))
      have HA0 : Hid (∀ W, Below V.heap.size V W → Calls Try.prog 59 #[.int .i64 0, .pointer (some ⟨bd, 0, none⟩)] W fun e w' => e = .returned (.int .i64 (sA d 0 : Int)) ∧ w' = W) := fun W hW => HA.out W hW 0 (by decide)
      have HA1 : Hid (∀ W, Below V.heap.size V W → Calls Try.prog 59 #[.int .i64 1, .pointer (some ⟨bd, 0, none⟩)] W fun e w' => e = .returned (.int .i64 (sA d 1 : Int)) ∧ w' = W) := fun W hW => HA.out W hW 1 (by decide)
      have HA2 : Hid (∀ W, Below V.heap.size V W → Calls Try.prog 59 #[.int .i64 2, .pointer (some ⟨bd, 0, none⟩)] W fun e w' => e = .returned (.int .i64 (sA d 2 : Int)) ∧ w' = W) := fun W hW => HA.out W hW 2 (by decide)
      have HA3 : Hid (∀ W, Below V.heap.size V W → Calls Try.prog 59 #[.int .i64 3, .pointer (some ⟨bd, 0, none⟩)] W fun e w' => e = .returned (.int .i64 (sA d 3 : Int)) ∧ w' = W) := fun W hW => HA.out W hW 3 (by decide)
      have HA4 : Hid (∀ W, Below V.heap.size V W → Calls Try.prog 59 #[.int .i64 4, .pointer (some ⟨bd, 0, none⟩)] W fun e w' => e = .returned (.int .i64 (sA d 4 : Int)) ∧ w' = W) := fun W hW => HA.out W hW 4 (by decide)
      have HA5 : Hid (∀ W, Below V.heap.size V W → Calls Try.prog 59 #[.int .i64 5, .pointer (some ⟨bd, 0, none⟩)] W fun e w' => e = .returned (.int .i64 (sA d 5 : Int)) ∧ w' = W) := fun W hW => HA.out W hW 5 (by decide)
      have HA6 : Hid (∀ W, Below V.heap.size V W → Calls Try.prog 59 #[.int .i64 6, .pointer (some ⟨bd, 0, none⟩)] W fun e w' => e = .returned (.int .i64 (sA d 6 : Int)) ∧ w' = W) := fun W hW => HA.out W hW 6 (by decide)
      have HB0 : Hid (∀ W, Below V.heap.size V W → Calls Try.prog 60 #[.int .i64 0, .pointer (some ⟨bd, 0, none⟩)] W fun e w' => e = .returned (.int .i64 (sB d 0 : Int)) ∧ w' = W) := fun W hW => HBc.out W hW 0 (by decide)
      have HB1 : Hid (∀ W, Below V.heap.size V W → Calls Try.prog 60 #[.int .i64 1, .pointer (some ⟨bd, 0, none⟩)] W fun e w' => e = .returned (.int .i64 (sB d 1 : Int)) ∧ w' = W) := fun W hW => HBc.out W hW 1 (by decide)
      have HB2 : Hid (∀ W, Below V.heap.size V W → Calls Try.prog 60 #[.int .i64 2, .pointer (some ⟨bd, 0, none⟩)] W fun e w' => e = .returned (.int .i64 (sB d 2 : Int)) ∧ w' = W) := fun W hW => HBc.out W hW 2 (by decide)
      have HB3 : Hid (∀ W, Below V.heap.size V W → Calls Try.prog 60 #[.int .i64 3, .pointer (some ⟨bd, 0, none⟩)] W fun e w' => e = .returned (.int .i64 (sB d 3 : Int)) ∧ w' = W) := fun W hW => HBc.out W hW 3 (by decide)
      have HB4 : Hid (∀ W, Below V.heap.size V W → Calls Try.prog 60 #[.int .i64 4, .pointer (some ⟨bd, 0, none⟩)] W fun e w' => e = .returned (.int .i64 (sB d 4 : Int)) ∧ w' = W) := fun W hW => HBc.out W hW 4 (by decide)
      have HB5 : Hid (∀ W, Below V.heap.size V W → Calls Try.prog 60 #[.int .i64 5, .pointer (some ⟨bd, 0, none⟩)] W fun e w' => e = .returned (.int .i64 (sB d 5 : Int)) ∧ w' = W) := fun W hW => HBc.out W hW 5 (by decide)
      have HB6 : Hid (∀ W, Below V.heap.size V W → Calls Try.prog 60 #[.int .i64 6, .pointer (some ⟨bd, 0, none⟩)] W fun e w' => e = .returned (.int .i64 (sB d 6 : Int)) ∧ w' = W) := fun W hW => HBc.out W hW 6 (by decide)
      obtain ⟨T1, hT1⟩ : ∃ T1, Hid (put3 (14) (sA d 0) (sB d 0) = T1) := ⟨_, rfl⟩
      obtain ⟨T2, hT2⟩ : ∃ T2, Hid (put3 (sA d 1) (sA d 2) (sA d 4) = T2) := ⟨_, rfl⟩
      obtain ⟨T3, hT3⟩ : ∃ T3, Hid (put3 (sA d 5) (sB d 2) (sB d 3) = T3) := ⟨_, rfl⟩
      obtain ⟨T4, hT4⟩ : ∃ T4, Hid (put3 (sA d 3) (sB d 4) (sB d 6) = T4) := ⟨_, rfl⟩
      obtain ⟨T5, hT5⟩ : ∃ T5, Hid (put3 (sA d 6) (sB d 1) (sB d 5) = T5) := ⟨_, rfl⟩
      have HSD : Hid (schoolD d = [T1, T2, T3, T4, T5]) := by unfold Hid schoolD; rw [hT1.out, hT2.out, hT3.out, hT4.out, hT5.out]
      have HP1 := Lib.hid (put_new V (14 : Int) ((sA d 0 : Nat) : Int) ((sB d 0 : Nat) : Int) (14) (sA d 0) (sB d 0) rfl rfl rfl); rw [hT1.out] at HP1
      clear HA HBc
      have hwV : w.heap.size ≤ V.heap.size := hBV.out.size
      have hRV5 : ∀ {W}, Below V.heap.size V W → DayR W w.heap.size (.slice p1 d c1) d 5 schoolD := fun h => HRV.out.below h (Nat.le_refl _)
      go_wp2_with (first
        | (go_at_call 59; (with_reducible refine (HA0.out V (Below.refl _ _)).mono ?_); rintro e ww ⟨rfl, hww⟩; replace hww := hww.symm; subst hww; try dsimp only)
        | (go_at_call 60; (with_reducible refine (HB0.out V (Below.refl _ _)).mono ?_); rintro e ww ⟨rfl, hww⟩; replace hww := hww.symm; subst hww; try dsimp only)
        | (go_at_call 57; (with_reducible refine HP1.out.mono ?_); rintro e w1 ⟨rfl, hBn⟩; have HW1 : Hid (Below V.heap.size V w1) := hBn; clear hBn; have HP2 := Lib.hid (put_new w1 ((sA d 1 : Nat) : Int) ((sA d 2 : Nat) : Int) ((sA d 4 : Nat) : Int) (sA d 1) (sA d 2) (sA d 4) rfl rfl rfl); rw [hT2.out] at HP2)
        | (go_at_call 59; (with_reducible refine (HA1.out w1 HW1.out).mono ?_); rintro e ww ⟨rfl, hww⟩; replace hww := hww.symm; subst hww; try dsimp only)
        | (go_at_call 59; (with_reducible refine (HA2.out w1 HW1.out).mono ?_); rintro e ww ⟨rfl, hww⟩; replace hww := hww.symm; subst hww; try dsimp only)
        | (go_at_call 59; (with_reducible refine (HA4.out w1 HW1.out).mono ?_); rintro e ww ⟨rfl, hww⟩; replace hww := hww.symm; subst hww; try dsimp only)
        | (go_at_call 57; (with_reducible refine HP2.out.mono ?_); rintro e w2 ⟨rfl, hBn⟩; have HW2 : Hid (Below V.heap.size V w2) := HW1.out.trans (hBn.mono HW1.out.size); clear hBn; have HP3 := Lib.hid (put_new w2 ((sA d 5 : Nat) : Int) ((sB d 2 : Nat) : Int) ((sB d 3 : Nat) : Int) (sA d 5) (sB d 2) (sB d 3) rfl rfl rfl); rw [hT3.out] at HP3)
        | (go_at_call 59; (with_reducible refine (HA5.out w2 HW2.out).mono ?_); rintro e ww ⟨rfl, hww⟩; replace hww := hww.symm; subst hww; try dsimp only)
        | (go_at_call 60; (with_reducible refine (HB2.out w2 HW2.out).mono ?_); rintro e ww ⟨rfl, hww⟩; replace hww := hww.symm; subst hww; try dsimp only)
        | (go_at_call 60; (with_reducible refine (HB3.out w2 HW2.out).mono ?_); rintro e ww ⟨rfl, hww⟩; replace hww := hww.symm; subst hww; try dsimp only)
        | (go_at_call 57; (with_reducible refine HP3.out.mono ?_); rintro e w3 ⟨rfl, hBn⟩; have HW3 : Hid (Below V.heap.size V w3) := HW2.out.trans (hBn.mono HW2.out.size); clear hBn; have HP4 := Lib.hid (put_new w3 ((sA d 3 : Nat) : Int) ((sB d 4 : Nat) : Int) ((sB d 6 : Nat) : Int) (sA d 3) (sB d 4) (sB d 6) rfl rfl rfl); rw [hT4.out] at HP4)
        | (go_at_call 59; (with_reducible refine (HA3.out w3 HW3.out).mono ?_); rintro e ww ⟨rfl, hww⟩; replace hww := hww.symm; subst hww; try dsimp only)
        | (go_at_call 60; (with_reducible refine (HB4.out w3 HW3.out).mono ?_); rintro e ww ⟨rfl, hww⟩; replace hww := hww.symm; subst hww; try dsimp only)
        | (go_at_call 60; (with_reducible refine (HB6.out w3 HW3.out).mono ?_); rintro e ww ⟨rfl, hww⟩; replace hww := hww.symm; subst hww; try dsimp only)
        | (go_at_call 57; (with_reducible refine HP4.out.mono ?_); rintro e w4 ⟨rfl, hBn⟩; have HW4 : Hid (Below V.heap.size V w4) := HW3.out.trans (hBn.mono HW3.out.size); clear hBn; have HP5 := Lib.hid (put_new w4 ((sA d 6 : Nat) : Int) ((sB d 1 : Nat) : Int) ((sB d 5 : Nat) : Int) (sA d 6) (sB d 1) (sB d 5) rfl rfl rfl); rw [hT5.out] at HP5)
        | (go_at_call 59; (with_reducible refine (HA6.out w4 HW4.out).mono ?_); rintro e ww ⟨rfl, hww⟩; replace hww := hww.symm; subst hww; try dsimp only)
        | (go_at_call 60; (with_reducible refine (HB1.out w4 HW4.out).mono ?_); rintro e ww ⟨rfl, hww⟩; replace hww := hww.symm; subst hww; try dsimp only)
        | (go_at_call 60; (with_reducible refine (HB5.out w4 HW4.out).mono ?_); rintro e ww ⟨rfl, hww⟩; replace hww := hww.symm; subst hww; try dsimp only)
        | (go_at_call 57; (with_reducible refine HP5.out.mono ?_); rintro e w5 ⟨rfl, hBn⟩; have HW5 : Hid (Below V.heap.size V w5) := HW4.out.trans (hBn.mono HW4.out.size); clear hBn; have HDP := day_push (W := w5) (vs := #[.int .i64 (T1.1 : Int), .int .i64 (T1.2.1 : Int), .int .i64 (T1.2.2 : Int), .int .i64 (T2.1 : Int), .int .i64 (T2.2.1 : Int), .int .i64 (T2.2.2 : Int), .int .i64 (T3.1 : Int), .int .i64 (T3.2.1 : Int), .int .i64 (T3.2.2 : Int), .int .i64 (T4.1 : Int), .int .i64 (T4.2.1 : Int), .int .i64 (T4.2.2 : Int), .int .i64 (T5.1 : Int), .int .i64 (T5.2.1 : Int), .int .i64 (T5.2.2 : Int)]) (hRV5 HW5.out) (Nat.le_trans hwV HW5.out.size) (by decide) (by rw [HSD.out]; rfl) (by rw [HSD.out]; rfl); obtain ⟨xs, hx1, hx2⟩ := HDP; have HX1 := Lib.hid hx1; have HX2 := Lib.hid hx2; have hw5 := HW5.out.size; clear hx1 hx2)
        | (at_builtin; go_must (refine wpList_append_q _ rfl (.tmp 10) (.tmp 50) 36 rfl w.heap.size 33 i0 (.slice none 0 0) 1 24 underD hi0 hz0 hz1 hz2 rfl (by decide) _ d xs rfl HX1.out ⟨w5.heap.size + 1, 0, none⟩ 1 1 [.slice (some ⟨w5.heap.size, 0, none⟩) 5 5] rfl rfl (by have := cells_new1 (w5.alloc (.cells #[.int .i64 (T1.1 : Int), .int .i64 (T1.2.1 : Int), .int .i64 (T1.2.2 : Int), .int .i64 (T2.1 : Int), .int .i64 (T2.2.1 : Int), .int .i64 (T2.2.2 : Int), .int .i64 (T3.1 : Int), .int .i64 (T3.2.1 : Int), .int .i64 (T3.2.2 : Int), .int .i64 (T4.1 : Int), .int .i64 (T4.2.1 : Int), .int .i64 (T4.2.2 : Int), .int .i64 (T5.1 : Int), .int .i64 (T5.2.1 : Int), .int .i64 (T5.2.2 : Int)] 44)) 33 (.slice (some ⟨w5.heap.size, 0, none⟩) 5 5); rw [World.size_alloc] at this; exact this) (by simp [Value.oneCell']) (by unfold maxLen; omega) (by omega) (by simp; omega) ?_); intro v8 w8 hq8 hg8 ho8; have HQ8 := Lib.hid hq8; have HG8 := Lib.hid hg8; clear hq8 hg8 ho8))
      have HR8 : Hid (DayR w8 w.heap.size v8 (d + 1) 5 schoolD) := HX2.out v8 w8 HQ8.out HG8.out
      have HB8 : Hid (Below w.heap.size w w8) := Below.grown (((hBV.out.trans (HW5.out.mono hwV)).alloc (by omega) _).alloc (by simp; omega) _) HG8.out (by simp; omega) (fun kk e => (HX1.out.lt kk e).1)
      exact ⟨⟨d + 1, by omega, int_eq (by omega), HR8, HB8⟩, by simp [intOf]; omega⟩
    · have g1 : ¬ (d : Int) < 7 := by omega
      obtain rfl : d = 7 := by omega
      go_wp2
      go_ret
      exact ⟨⟨p1, c1, rfl, hR.out⟩, hB.out⟩
end Go.Proofs.Ytocnhikohfkcaaa
namespace Go.Proofs.Ytocnhikohfkcaaa
open Go.RowKit Go.Shelf
attribute [local go_sem] Oper.semAt_some

theorem pl3_lt {n : Nat} (h : n = 3 ∨ n = 9 ∨ n = 27) : ∀ x, x < 27 → ∀ y, y < 27 → pl3 n x y < 27 := by
  rcases h with rfl | rfl | rfl
  · decide +kernel
  · decide +kernel
  · decide +kernel
set_option maxRecDepth 100000 in
theorem plus_any (bn n x y : Nat) (w : World) (hn : n ≤ 27) (hx : x < 27) (hy : y < 27) (k : w.cell? ⟨bn, 0, none⟩ = some (.int .i64 (n : Int))) :
    Calls Try.prog 61 #[.int .i64 (x : Int), .int .i64 (y : Int), .pointer (some ⟨bn, 0, none⟩)] w fun e w' => e = .returned (.int .i64 (pl3 n x y : Int)) ∧ Below w.heap.size w w' := by
  have hbn : bn < w.heap.size := by
    unfold World.cell? at k
    exact Classical.byContradiction fun h => by
      have : w.heap[bn]? = none := Array.getElem?_eq_none (by omega)
      simp [this] at k
  have HK := Lib.hid k
  clear k
  go_enter Try.func61, Try.ntmps61
  go_upto_region 2 with (fail)
  go_loopw [6, 7] (fun s6 s7 wr => ∃ (k out place : Nat), s6 = .int .i64 (out : Int) ∧ s7 = .int .i64 (place : Int) ∧ Hid (plF n x y k out place = pl3 n x y) ∧ Hid (place * 3 ^ k = 81) ∧ out < place ∧ 1 ≤ place ∧ place ≤ 81 ∧ Hid (Below w.heap.size w wr)) (fun _ s7 _ => 100 - (intOf s7).toNat)
  case atStart => exact ⟨4, 0, 1, rfl, rfl, rfl, by unfold Hid; decide, by omega, by omega, by omega, Below.refl _ _⟩
  case round =>
    obtain ⟨k, out, place, rfl, rfl, hF, hP, hop, hp1, hp81, hB⟩ := hrel
    have k1 := (hB.out.cell (p := ⟨bn, 0, none⟩) hbn).trans HK.out
    by_cases hpn : place < n
    · have g1 : (place : Int) < (n : Int) := by omega
      have g0 : ¬ (place : Int) = 0 := by omega
      obtain ⟨j, rfl⟩ : ∃ j, k = j + 1 := by
        cases k with
        | zero => have := hP.out; simp at this; omega
        | succ j => exact ⟨j, rfl⟩
      obtain ⟨u, hu⟩ : ∃ u, Hid (x / place = u) := ⟨_, rfl⟩
      obtain ⟨v, hv⟩ : ∃ v, Hid (y / place = v) := ⟨_, rfl⟩
      have hul : u ≤ 27 := by rw [← hu.out]; exact Nat.le_trans (Nat.div_le_self _ _) (by omega)
      have hvl : v ≤ 27 := by rw [← hv.out]; exact Nat.le_trans (Nat.div_le_self _ _) (by omega)
      have e1 : Int.tdiv (x : Int) (place : Int) = (u : Int) := by rw [← hu.out]; rfl
      have e2 : Int.tdiv (y : Int) (place : Int) = (v : Int) := by rw [← hv.out]; rfl
      obtain ⟨r, hr⟩ : ∃ r, Hid ((u + v) % 3 = r) := ⟨_, rfl⟩
      have hr2 : r ≤ 2 := by have := hr.out; omega
      have e3 : Int.tmod ((u : Int) + (v : Int)) 3 = (r : Int) := by have := hr.out; rw [Int.tmod_eq_emod_of_nonneg (by omega)]; omega
      obtain ⟨q, hq⟩ : ∃ q, Hid (r * place = q) := ⟨_, rfl⟩
      have hq2 : q ≤ 2 * place := by rw [← hq.out]; exact Nat.mul_le_mul_right _ hr2
      have e4 : (r : Int) * (place : Int) = (q : Int) := by rw [← hq.out]; push_cast; rfl
      have HF2 : Hid (plF n x y j (out + q) (place * 3) = pl3 n x y) := by
        have := hF.out
        unfold plF at this
        rw [if_pos hpn, hu.out, hv.out, hr.out, hq.out] at this
        exact this
      have HP2 : Hid (place * 3 * 3 ^ j = 81) := by
        have := hP.out
        rw [Nat.pow_succ, Nat.mul_comm (3 ^ j) 3, ← Nat.mul_assoc] at this
        exact this
      go_wp2
      go_quiet (fail)
      have HBq : Hid (Below w.heap.size w (wr.drewN nq)) := below_dr hB.out nq
      clear hB k1
      generalize wr.drewN nq = wZ at *
      go_wp2
      exact ⟨⟨j, out + q, place * 3, int_eq (by omega), int_eq (by omega), HF2, HP2, by omega, by omega, by omega, HBq⟩, by simp [intOf]; omega⟩
    · have g1 : ¬ (place : Int) < (n : Int) := by omega
      have HO : Hid (pl3 n x y = out) := by
        have := hF.out
        rw [← hF.out]
        cases k with
        | zero => rfl
        | succ j => unfold plF; rw [if_neg hpn]; exact rfl
      go_wp2
      go_ret
      exact ⟨by rw [HO.out]; rfl, hB.out⟩
theorem day_len {n : Nat} (h : n = 3 ∨ n = 9 ∨ n = 27) : ∀ d, d < n → d / hi3 d = 1 → (dayF n d n).2.length = n / 3 := by
  rcases h with rfl | rfl | rfl
  · decide +kernel
  · decide +kernel
  · decide +kernel
/-- marks -/
def MarkB (W : World) (R : Nat) (mk : List Nat) : Prop := BoxN W R 68 ((List.range 27).map fun i => Value.bool (mk.elem i)).toArray
theorem MarkB.cell {W : World} {R : Nat} {mk : List Nat} (h : MarkB W R mk) {i : Nat} (hi : i < 27) : W.cell? ⟨R, i, none⟩ = some (.bool (mk.elem i)) := by
  have := BoxN.cell h i
  rw [this]
  simp [hi]
theorem MarkB.frozen {W : World} {R : Nat} {mk : List Nat} (h : MarkB W R mk) (i : Nat) : W.frozen? ⟨R, i, none⟩ = false := BoxN.frozen h i
theorem MarkB.set {W : World} {R : Nat} {mk : List Nat} (h : MarkB W R mk) (i : Nat) : MarkB (W.setCell ⟨R, i, none⟩ (.bool true)) R (mk ++ [i]) := by
  have h2 := BoxN.set h i (.bool true)
  unfold MarkB
  refine Eq.mp ?_ h2
  congr 1
  refine Array.ext_getElem? fun j => ?_
  by_cases hj : j < 27
  · by_cases e : i = j
    · subst e
      rw [Array.getElem?_setIfInBounds_self_of_lt (by simpa using hj)]
      simp [hj]
    · rw [Array.getElem?_setIfInBounds_ne (by omega)]
      have : j ≠ i := fun h => e h.symm
      simp [hj, this]
  · rw [Array.getElem?_eq_none (by simp; omega), Array.getElem?_eq_none (by simp; omega)]
theorem MarkB.new {W : World} {R : Nat} (h : R = W.heap.size) : MarkB (W.alloc (.cells (List.replicate 27 (Value.bool false)).toArray 68)) R [] := by
  have h2 : BoxN (W.alloc (.cells (List.replicate 27 (Value.bool false)).toArray 68)) R 68 (List.replicate 27 (Value.bool false)).toArray := BoxN.new h
  exact h2
theorem RowsR.mono {W : World} {base base' : Nat} {te ti : TypeId} {sz : Nat} {v : Value} {k h : Nat} {cs : Nat → List Value} (H : RowsR W base te ti sz v k h cs) (hb : base' ≤ base) : RowsR W base' te ti sz v k h cs := by
  obtain ⟨xs, h1, h2, h3⟩ := H
  refine ⟨xs, h1.mono hb, fun r hr => ?_, h3⟩
  obtain ⟨p, c, e1, e2⟩ := h2 r hr
  exact ⟨p, c, e1, e2.mono hb⟩
set_option maxRecDepth 100000 in
set_option maxHeartbeats 16000000 in
theorem lines_any (n h : Nat) (w : World) (hn : n = 3 ∨ n = 9 ∨ n = 27) (hh : n / 3 = h) :
    Calls Try.prog 42 #[.int .i64 (n : Int)] w fun e w' => (∃ p c, e = .returned (.slice p (linesL n).length c) ∧ DayR w' w.heap.size (.slice p (linesL n).length c) (linesL n).length h (fun r => ((linesL n)[r]?).getD [])) ∧ Below w.heap.size w w' := by
  obtain ⟨i0, hi0, hz0, hz1, hz2⟩ := info_parts infoTs
  obtain ⟨j0, hj0, hy0, hy1, hy2⟩ := info_parts infoT
  have hn3 : 3 ≤ n := by omega
  have hn27 : n ≤ 27 := by omega
  have HPL := Lib.hid (pl3_lt hn)
  have HDL := Lib.hid (day_len hn)
  have HX0 : Hid (Boxed (w.alloc (.cells #[.int .i64 (n : Int)] 3)) w.heap.size 3 (.int .i64 (n : Int))) := boxed_at rfl
  have HB0 : Hid (Below w.heap.size w (w.alloc (.cells #[.int .i64 (n : Int)] 3))) := (Below.refl _ _).alloc (Nat.le_refl _) _
  clear hn
  go_enter Try.func42, Try.ntmps42
  go_wp2
  go_step3
  go_upto_region 3 with (fail)
  go_step3
  go_upto_region 4 with (fail)
  obtain ⟨bn, hbn⟩ : ∃ bn, Hid (bn = w.heap.size) := ⟨_, rfl⟩
  rw [← hbn.out] at HX0 ⊢
  generalize (w.alloc (.cells #[.int .i64 (n : Int)] 3)) = U at *
  have HPA : Hid (∀ W, Below U.heap.size U W → ∀ x y : Nat, x < 27 → y < 27 → Calls Try.prog 61 #[.int .i64 (x : Int), .int .i64 (y : Int), .pointer (some ⟨bn, 0, none⟩)] W fun e w' => e = .returned (.int .i64 (pl3 n x y : Int)) ∧ Below W.heap.size W w') := fun W hW x y hx hy => plus_any bn n x y W hn27 hx hy ((hW.cell (p := ⟨bn, 0, none⟩) HX0.out.lt).trans HX0.out.cell)
  have HKN : Hid (∀ W, Below U.heap.size U W → W.cell? ⟨bn, 0, none⟩ = some (.int .i64 (n : Int))) := fun W hW => (hW.cell (p := ⟨bn, 0, none⟩) HX0.out.lt).trans HX0.out.cell
  have hwU : w.heap.size ≤ U.heap.size := HB0.out.size
  clear HX0
  go_loopw [4, 5] (fun s4 s5 wr => ∃ d : Nat, 1 ≤ d ∧ d ≤ n ∧ s5 = .int .i64 (d : Int) ∧ Hid (DayR wr U.heap.size s4 (linesF n d).length h (fun r => ((linesF n d)[r]?).getD [])) ∧ (linesF n d).length ≤ d ∧ Hid (Below U.heap.size U wr)) (fun _ s5 _ => n - (intOf s5).toNat)
  case atStart => exact ⟨1, by omega, by omega, rfl, RowsR.nil _ _ _ _ _ _ _, by simp [linesF], Below.refl _ _⟩
  case round =>
    obtain ⟨d, hd1, hd, rfl, hR, hld, hB⟩ := hrel
    obtain ⟨p4, c4, rfl⟩ := hR.out.isSlice
    obtain ⟨wo, hwo⟩ : ∃ wo, Hid (wo = wr) := ⟨_, rfl⟩
    rw [← hwo.out] at hR hB ⊢
    clear hwo
    have hUo : U.heap.size ≤ wo.heap.size := hB.out.size
    have kn := HKN.out wo hB.out
    by_cases hdn : d < n
    · have g1 : (d : Int) < (n : Int) := by omega
      go_upto_region 7 with (fail)
      go_loopw [6] (fun s6 wr => ∃ (k high : Nat), s6 = .int .i64 (high : Int) ∧ Hid (hiF d k high = hi3 d) ∧ Hid (high * 3 ^ k = 81) ∧ 1 ≤ high ∧ high ≤ 81 ∧ Hid (wo = wr)) (fun s6 _ => 100 - (intOf s6).toNat)
      case atStart => exact ⟨4, 1, rfl, rfl, by unfold Hid; decide, by omega, by omega, rfl⟩
      case round =>
        obtain ⟨k, high, rfl, hF, hP, hh1, hh81, hw⟩ := hrel
        rw [← hw.out]
        clear hw
        by_cases hle : high * 3 ≤ d
        · have g2 : (high : Int) * 3 ≤ (d : Int) := by omega
          obtain ⟨j, rfl⟩ : ∃ j, k = j + 1 := by
            cases k with
            | zero => have := hP.out; simp at this; omega
            | succ j => exact ⟨j, rfl⟩
          have HF2 : Hid (hiF d j (high * 3) = hi3 d) := by
            have := hF.out
            unfold hiF at this
            rw [if_pos hle] at this
            exact this
          have HP2 : Hid (high * 3 * 3 ^ j = 81) := by
            have := hP.out
            rw [Nat.pow_succ, Nat.mul_comm (3 ^ j) 3, ← Nat.mul_assoc] at this
            exact this
          go_wp2
          exact ⟨⟨j, high * 3, int_eq (by omega), HF2, HP2, by omega, by omega, (by first | exact trivial | exact rfl)⟩, by simp [intOf]; omega⟩
        · have g2 : ¬ (high : Int) * 3 ≤ (d : Int) := by omega
          have HH : Hid (hi3 d = high) := by
            have := hF.out
            rw [← hF.out]
            cases k with
            | zero => exact rfl
            | succ j => unfold hiF; rw [if_neg hle]; exact rfl
          have g3 : ¬ (high : Int) = 0 := by omega
          obtain ⟨q, hq⟩ : ∃ q, Hid (d / high = q) := ⟨_, rfl⟩
          have hqb : q ≤ 27 := by rw [← hq.out]; exact Nat.le_trans (Nat.div_le_self _ _) (by omega)
          have e1 : Int.tdiv (d : Int) (high : Int) = (q : Int) := by rw [← hq.out]; rfl
          have HLF : Hid (linesF n (d + 1) = if d = 0 ∨ q ≠ 1 then linesF n d else linesF n d ++ [(dayF n d n).2]) := by
            unfold Hid
            rw [show linesF n (d + 1) = if d = 0 ∨ d / hi3 d ≠ 1 then linesF n d else linesF n d ++ [(dayF n d n).2] from rfl, HH.out, hq.out]
          clear hF hP
          by_cases hq1 : q = 1
          · have q1 : ((q : Int) != 1) = false := by simp; omega
            have HDQ : Hid ((dayF n d n).2.length = h) := by
              have := HDL.out d hdn (by rw [HH.out, hq.out]; exact hq1)
              unfold Hid
              rw [this, hh]
            rw [if_neg (by omega)] at HLF
            have HM0 : Hid (MarkB (wo.alloc (.cells (List.replicate 27 (Value.bool false)).toArray 68)) wo.heap.size []) := MarkB.new rfl
            have HB1 : Hid (Below wo.heap.size wo (wo.alloc (.cells (List.replicate 27 (Value.bool false)).toArray 68))) := (Below.refl _ _).alloc (Nat.le_refl _) _
            simp only [List.replicate_succ, List.replicate_zero] at HM0 HB1
            go_upto_region 13 with (fail)
            obtain ⟨R, hRR⟩ : ∃ R, Hid (R = wo.heap.size) := ⟨_, rfl⟩
            rw [← hRR.out] at HM0 ⊢
            generalize (wo.alloc (.cells _ 68)) = V at *
            clear HH
            go_loopw [7, 29] (fun s7 s29 wq => ∃ x : Nat, x ≤ n ∧ s29 = .int .i64 (x : Int) ∧ Hid (MarkB wq R (dayF n d x).1) ∧ Hid (TRow3 wq (R + 1) s7 (dayF n d x).2) ∧ (dayF n d x).2.length ≤ x ∧ Hid (Below wo.heap.size wo wq)) (fun _ s29 _ => n - (intOf s29).toNat)
            case atStart => exact ⟨0, by omega, rfl, HM0, QRow.nil _ _ _ _, by simp [dayF], HB1⟩
            case round =>
              clear HM0 HB1
              obtain ⟨x, hx, rfl, hM, hQ, hlx, hBq⟩ := hrel
              obtain ⟨p7, c7, rfl⟩ := hQ.out.isSlice
              have hwq : wo.heap.size ≤ wr.heap.size := hBq.out.size
              have hRq : R < wr.heap.size := BoxN.lt hM.out
              by_cases hxn : x < n
              · have g5 : (x : Int) < (n : Int) := by omega
                have g6 : (x : Int) < 27 := by omega
                have HDF : Hid (dayF n d (x + 1) = if (dayF n d x).1.elem x then dayF n d x else ((dayF n d x).1 ++ [x, pl3 n x d, pl3 n (pl3 n x d) d], (dayF n d x).2 ++ [put3 x (pl3 n x d) (pl3 n (pl3 n x d) d)])) := rfl
                have cx := hM.out.cell (i := x) (by omega)
                cases hel : (dayF n d x).1.elem x with
                | true =>
                  rw [hel] at cx HDF
                  rw [if_pos rfl] at HDF
                  go_wp2
                  refine ⟨⟨x + 1, by omega, int_eq (by omega), by rw [HDF.out]; exact hM, by rw [HDF.out]; exact hQ, by rw [HDF.out]; omega, hBq⟩, by simp [intOf]; omega⟩
                | false =>
                  rw [hel] at cx HDF
                  rw [if_neg (by simp)] at HDF
                  have HY := Lib.hid (HPL.out x (by omega) d (by omega))
                  have HZ := Lib.hid (HPL.out (pl3 n x d) HY.out d (by omega))
                  obtain ⟨y, hy⟩ : ∃ y, Hid (pl3 n x d = y) := ⟨_, rfl⟩
                  rw [hy.out] at HDF HY HZ
                  obtain ⟨z, hz⟩ : ∃ z, Hid (pl3 n y d = z) := ⟨_, rfl⟩
                  rw [hz.out] at HDF HZ
                  have hy27 : y < 27 := HY.out
                  have hz27 : z < 27 := HZ.out
                  obtain ⟨T, hT⟩ : ∃ T, Hid (put3 x y z = T) := ⟨_, rfl⟩
                  rw [hT.out] at HDF
                  obtain ⟨mk, hmk⟩ : ∃ mk, Hid ((dayF n d x).1 = mk) := ⟨_, rfl⟩
                  obtain ⟨L, hL⟩ : ∃ L, Hid ((dayF n d x).2 = L) := ⟨_, rfl⟩
                  rw [hmk.out] at hM HDF
                  rw [hL.out] at hQ HDF hlx ⊢
                  have HP1 := Lib.hid (HPA.out wr (hB.out.trans (hBq.out.mono hUo)) x d (by omega) (by omega))
                  have HP2 : Hid (∀ W, Below wr.heap.size wr W → Calls Try.prog 61 #[.int .i64 (y : Int), .int .i64 (d : Int), .pointer (some ⟨bn, 0, none⟩)] W fun e w' => e = .returned (.int .i64 (z : Int)) ∧ Below W.heap.size W w') := fun W hW => by
                    have := HPA.out W (hB.out.trans ((hBq.out.trans (hW.mono hwq)).mono hUo)) y d hy27 (by omega)
                    rw [hz.out] at this
                    exact this
                  rw [hy.out] at HP1
                  clear hel HY HZ
                  go_upto_region 18 with (first
                    | (go_at_call 61; (with_reducible refine HP1.out.mono ?_); rintro e w1 ⟨rfl, hBx⟩; have HW1 := Lib.hid hBx; clear hBx)
                    | (go_at_call 61; (with_reducible refine (HP2.out w1 HW1.out).mono ?_); rintro e w2 ⟨rfl, hBx⟩; have HW2 : Hid (Below wr.heap.size wr w2) := HW1.out.trans (hBx.mono HW1.out.size); clear hBx))
                  have HM2 : Hid (MarkB w2 R mk) := BoxN.below hM.out HW2.out hRq
                  have HQ2 : Hid (TRow3 w2 (R + 1) (.slice p7 L.length c7) L) := hQ.out.below HW2.out (fun k hk => (hQ.out.lt k hk).2)
                  have c0 := HM2.out.cell (i := x) (by omega)
                  have f0 := HM2.out.frozen x
                  have HM3 := Lib.hid (HM2.out.set x)
                  have c1 := HM3.out.cell (i := y) hy27
                  have f1 := HM3.out.frozen y
                  have HM4 := Lib.hid (HM3.out.set y)
                  have c2 := HM4.out.cell (i := z) hz27
                  have f2 := HM4.out.frozen z
                  have HM5 := Lib.hid (HM4.out.set z)
                  have HA5 : Hid (Ag (fun k => k = R) w2 (((w2.setCell ⟨R, x, none⟩ (.bool true)).setCell ⟨R, y, none⟩ (.bool true)).setCell ⟨R, z, none⟩ (.bool true))) := (((Ag.refl (fun k => k = R) w2).set ⟨R, x, none⟩ _ (.inr rfl)).set ⟨R, y, none⟩ _ (.inr rfl)).set ⟨R, z, none⟩ _ (.inr rfl)
                  have HQ5 : Hid (TRow3 (((w2.setCell ⟨R, x, none⟩ (.bool true)).setCell ⟨R, y, none⟩ (.bool true)).setCell ⟨R, z, none⟩ (.bool true)) (R + 1) (.slice p7 L.length c7) L) := HA5.out.qrow HQ2.out (fun k hk e => by have := (HQ2.out.lt k hk).1; omega)
                  have HB5 : Hid (Below wo.heap.size wo (((w2.setCell ⟨R, x, none⟩ (.bool true)).setCell ⟨R, y, none⟩ (.bool true)).setCell ⟨R, z, none⟩ (.bool true))) := HA5.out.below (hBq.out.trans (HW2.out.mono hwq)) (by have := HW2.out.size; omega) (fun k hk e => by have := hRR.out; omega)
                  have HMK : Hid (mk ++ [x, y, z] = ((mk ++ [x]) ++ [y]) ++ [z]) := by unfold Hid; simp
                  go_upto_region 19 with (fail)
                  clear c0 f0 c1 f1 c2 f2 HM2 HM3 HM4 HA5 HQ2 hM hQ
                  generalize (((w2.setCell ⟨R, x, none⟩ (.bool true)).setCell ⟨R, y, none⟩ (.bool true)).setCell ⟨R, z, none⟩ (.bool true)) = Z at *
                  have hRZ : R < Z.heap.size := BoxN.lt HM5.out
                  have HP := Lib.hid (put_new Z (x : Int) (y : Int) (z : Int) x y z rfl rfl rfl)
                  rw [hT.out] at HP
                  go_wp2_with (first
                    | (go_at_call 57; refine HP.out.mono ?_; rintro e w4 ⟨rfl, hB4⟩; have HB4 := Lib.hid hB4; have HQA := Lib.hid ((HQ5.out.below hB4 (fun k hk => (HQ5.out.lt k hk).2)).alloc (.cells #[.int .i64 (T.1 : Int), .int .i64 (T.2.1 : Int), .int .i64 (T.2.2 : Int)] 44)); have hw4 := hB4.size; clear hB4)
                    | (at_builtin; go_must (refine wpList_append_q _ rfl (.tmp 49) (.tmp 55) 33 rfl (R + 1) 44 j0 _ 3 24 underT hj0 hy0 hy1 hy2 rfl (by decide) _ L.length (tcells L) rfl HQA.out ⟨w4.heap.size, 0, none⟩ 1 1 [.int .i64 (T.1 : Int), .int .i64 (T.2.1 : Int), .int .i64 (T.2.2 : Int)] rfl rfl (cells_new3 _ _ _ _ _) (by simp [Value.oneCell']) (by unfold maxLen; omega) (by omega) (by simp; omega) ?_); intro v9 w9 hq9 hg9 ho9; have HQ9 := Lib.hid hq9; have HG9 := Lib.hid hg9; clear hq9 hg9 ho9))
                  have HT9 : Hid (TRow3 w9 (R + 1) v9 (L ++ [T])) := TRow3.snoc HQ9.out
                  have hRow : ∀ k, (Value.slice p7 L.length c7).ownBlock = some k → R + 1 ≤ k := fun k e => (HQ5.out.lt k e).1
                  have HB9 : Hid (Below wo.heap.size wo w9) := Below.grown ((HB5.out.trans (HB4.out.mono (by have := hRR.out; omega))).alloc (by have := hRR.out; omega) _) HG9.out (by have := hRR.out; simp; omega) (fun kk e => by have := hRow kk e; have := hRR.out; omega)
                  have HM9 : Hid (MarkB w9 R (((mk ++ [x]) ++ [y]) ++ [z])) := ((BoxN.below HM5.out HB4.out hRZ).alloc _).kept HG9.out (fun e => by have := hRow R e.symm; omega)
                  refine ⟨⟨x + 1, by omega, int_eq (by omega), by rw [HDF.out]; show Hid (MarkB w9 R (mk ++ [x, y, z])); rw [HMK.out]; exact HM9, by rw [HDF.out]; exact HT9, by rw [HDF.out]; simp; omega, HB9⟩, by simp [intOf]; omega⟩
              · have g5 : ¬ (x : Int) < (n : Int) := by omega
                obtain rfl : n = x := by omega
                obtain ⟨L, hL⟩ : ∃ L, Hid ((dayF n d n).2 = L) := ⟨_, rfl⟩
                rw [hL.out] at hQ HLF HDQ ⊢
                have hLh : L.length = h := HDQ.out
                rw [hLh] at hQ ⊢
                obtain ⟨ls, hls⟩ : ∃ ls, Hid (linesF n d = ls) := ⟨_, rfl⟩
                rw [hls.out] at hR HLF hld ⊢
                have hQq : QRow wr (R + 1) 44 3 (.slice p7 h c7) h (tcells L) := by
                  have := hQ.out
                  unfold TRow3 at this
                  rw [hLh] at this
                  exact this
                obtain ⟨xs, h1, h2, h3, h4⟩ := hR.out.lts
                have hRo := hRR.out
                have HG0 : Hid (∀ r, r < ls.length → ((ls ++ [L])[r]?).getD [] = (ls[r]?).getD []) := fun r hr => by rw [List.getElem?_append_left hr]
                have HGL : Hid (((ls ++ [L])[ls.length]?).getD [] = L) := by unfold Hid; simp
                have HX1 := Lib.hid ((h1.below hBq.out (fun k hk => (h1.lt k hk).2)).alloc (.cells #[.slice p7 h c7] 33))
                have HX2 : Hid (∀ r, r < ls.length → ∃ p c, xs[r]? = some (.slice p h c) ∧ QRow (wr.alloc (.cells #[.slice p7 h c7] 33)) U.heap.size 44 3 (.slice p h c) h (tcells (((ls ++ [L])[r]?).getD []))) := fun r hr => by
                  obtain ⟨p, c, e1, e2⟩ := h2 r hr
                  rw [HG0.out r hr]
                  exact ⟨p, c, e1, (e2.below hBq.out (fun k hk => (e2.lt k hk).2)).alloc _⟩
                have HX3 := Lib.hid h3
                have HX4 : Hid (∀ r x b, r < ls.length → xs[r]? = some x → x.ownBlock = some b → (Value.slice p7 h c7).ownBlock ≠ some b) := fun r x b hr hx hb e => by
                  have h5 := h4 r x b hr hx hb
                  have h6 := (hQq.lt b e).1
                  omega
                have HX5 : Hid (QRow (wr.alloc (.cells #[.slice p7 h c7] 33)) U.heap.size 44 3 (.slice p7 h c7) h (tcells (((ls ++ [L])[ls.length]?).getD []))) := by
                  unfold Hid
                  rw [HGL.out]
                  exact (hQq.mono (base' := U.heap.size) (by omega)).alloc _
                have HB6 : Hid (Below U.heap.size U (wr.alloc (.cells #[.slice p7 h c7] 33))) := (hB.out.trans (hBq.out.mono hUo)).alloc (by omega) _
                have HLT := Lib.hid (fun kk (e : _ = some kk) => (h1.lt kk e).1)
                have HCN := Lib.hid (cells_new1 wr 33 (.slice p7 h c7))
                clear h1 h2 h3 h4 hR hQ hQq
                go_wp2_with (at_builtin; go_must (refine wpList_append_q _ rfl (.tmp 58) (.tmp 60) 36 rfl U.heap.size 33 i0 (.slice none 0 0) 1 24 underD hi0 hz0 hz1 hz2 rfl (by decide) _ ls.length xs rfl HX1.out ⟨_, 0, none⟩ 1 1 [.slice p7 h c7] rfl rfl HCN.out (by simp [Value.oneCell']) (by unfold maxLen; omega) (by omega) (by simp; omega) ?_); intro v8 w8 hq8 hg8 ho8; have HQ8 := Lib.hid hq8; have HG8 := Lib.hid hg8; clear hq8 hg8 ho8)
                have HR8 : Hid (DayR w8 U.heap.size v8 (ls.length + 1) h (fun r => ((ls ++ [L])[r]?).getD [])) := RowsR.push (cs := fun r => tcells (((ls ++ [L])[r]?).getD [])) (by decide) HX2.out HX1.out HX5.out HG8.out HQ8.out HX3.out HX4.out
                have HB8 : Hid (Below U.heap.size U w8) := Below.grown HB6.out HG8.out (by simp; omega) (fun kk e => HLT.out kk e)
                try simp only [Exit.noGoto]
                refine ⟨⟨d + 1, by omega, by omega, int_eq (by omega), ?_, by rw [HLF.out]; simp; omega, HB8⟩, by simp [intOf]; omega⟩
                rw [HLF.out]
                unfold Hid
                rw [List.length_append]
                exact HR8.out
          · have q1 : ((q : Int) != 1) = true := by simp; omega
            rw [if_pos (.inr hq1)] at HLF
            go_wp2
            refine ⟨⟨d + 1, by omega, by omega, int_eq (by omega), ?_, by rw [HLF.out]; omega, hB⟩, by simp [intOf]; omega⟩
            rw [HLF.out]
            exact hR
    · have g1 : ¬ (d : Int) < (n : Int) := by omega
      obtain rfl : n = d := by omega
      go_wp2
      go_ret
      exact ⟨⟨p4, c4, rfl, RowsR.mono hR.out hwU⟩, HB0.out.trans (hB.out.mono hwU)⟩
end Go.Proofs.Ytocnhikohfkcaaa
namespace Go.Proofs.Ytocnhikohfkcaaa
open Go.RowKit Go.Shelf
attribute [local go_sem] Oper.semAt_some

/-- days as the call has made them -/
def DaysG (W : World) (base n : Nat) (v : Value) : Prop := ∃ (p : Option Addr) (c : Nat) (ls : List (List N3)), v = .slice p ls.length c ∧ ls.length ≤ 13 ∧ (∀ d ∈ ls, d.length = n / 3) ∧ DayR W base (.slice p ls.length c) ls.length (n / 3) (fun r => (ls[r]?).getD []) ∧ DaysP n (ls.map fun d => d.map zc)
theorem lines_len {n : Nat} (h : n = 3 ∨ n = 9 ∨ n = 27) : (linesL n).length ≤ 13 := by
  rcases h with rfl | rfl | rfl <;> decide +kernel
theorem lines_all {n : Nat} (h : n = 3 ∨ n = 9 ∨ n = 27) : ∀ d ∈ linesL n, d.length = n / 3 := by
  rcases h with rfl | rfl | rfl <;> decide +kernel
theorem school_len : schoolL.length = 7 := by decide
theorem school_at (r : Nat) (h : r < 7) : (schoolL[r]?).getD [] = schoolD r := by
  unfold schoolL
  rw [List.getElem?_map, List.getElem?_range h]
  rfl
set_option maxRecDepth 100000 in
theorem Days_ok (n : Nat) (w : World) (hn : n = 3 ∨ n = 9 ∨ n = 15 ∨ n = 27) :
    Calls Try.prog 19 #[.int .i64 (n : Int)] w fun e w' => (∃ v, e = .returned (.tuple #[v, .int .i64 0]) ∧ DaysG w' w.heap.size n v) ∧ Below w.heap.size w w' := by
  have HR := Lib.hid (inRange_any (n : Int) w)
  rw [decide_eq_true (show 3 ≤ (n : Int) ∧ (n : Int) ≤ 27 by omega)] at HR
  by_cases h15 : n = 15
  · subst h15
    have HS := Lib.hid (school_any w)
    go_enter Try.func19, Try.ntmps19
    go_wp2_with (first
      | (go_at_call 37; refine HR.out.mono ?_; rintro e w4 ⟨rfl, hw4⟩; replace hw4 := hw4.symm; subst hw4; try dsimp only)
      | (go_at_call 41; refine HS.out.mono ?_; rintro e w1 ⟨⟨p, c, rfl, hd⟩, hB1⟩; have HD := Lib.hid hd; have HB1 := Lib.hid hB1; clear hd hB1))
    refine bodyPost_ret (v := .tuple #[.slice p 7 c, .int .i64 0]) (by simp [results, Try.f19, go_sem]) rfl ?_
    refine ⟨⟨_, rfl, p, c, schoolL, by rw [school_len], by rw [school_len]; decide, by decide, ?_, school_days⟩, HB1.out⟩
    rw [school_len]
    exact RowsR.congr HD.out (fun r hr => by show _ = tcells ((schoolL[r]?).getD []); rw [school_at r hr])
  · have h3 : n = 3 ∨ n = 9 ∨ n = 27 := by omega
    have HL := Lib.hid (lines_any n (n / 3) w h3 rfl)
    have HL1 := Lib.hid (lines_len h3)
    have HL2 := Lib.hid (lines_all h3)
    have HL3 := Lib.hid (lines_days h3)
    have q15 : ((n : Int) == 15) = false := by simp; omega
    rcases h3 with h3 | h3 | h3
    · rw [h3] at HL HL1 HL2 HL3 HR q15 ⊢
      go_enter Try.func19, Try.ntmps19
      go_wp2_with (first
        | (go_at_call 37; refine HR.out.mono ?_; rintro e w4 ⟨rfl, hw4⟩; replace hw4 := hw4.symm; subst hw4; try dsimp only)
        | (go_at_call 42; refine HL.out.mono ?_; rintro e w1 ⟨⟨p, c, rfl, hd⟩, hB1⟩; have HD := Lib.hid hd; have HB1 := Lib.hid hB1; clear hd hB1))
      refine bodyPost_ret (v := .tuple #[.slice p (linesL 3).length c, .int .i64 0]) (by simp [results, Try.f19, go_sem]) rfl ?_
      exact ⟨⟨_, rfl, p, c, linesL 3, rfl, HL1.out, HL2.out, HD.out, HL3.out⟩, HB1.out⟩
    · rw [h3] at HL HL1 HL2 HL3 HR q15 ⊢
      go_enter Try.func19, Try.ntmps19
      go_wp2_with (first
        | (go_at_call 37; refine HR.out.mono ?_; rintro e w4 ⟨rfl, hw4⟩; replace hw4 := hw4.symm; subst hw4; try dsimp only)
        | (go_at_call 42; refine HL.out.mono ?_; rintro e w1 ⟨⟨p, c, rfl, hd⟩, hB1⟩; have HD := Lib.hid hd; have HB1 := Lib.hid hB1; clear hd hB1))
      refine bodyPost_ret (v := .tuple #[.slice p (linesL 9).length c, .int .i64 0]) (by simp [results, Try.f19, go_sem]) rfl ?_
      exact ⟨⟨_, rfl, p, c, linesL 9, rfl, HL1.out, HL2.out, HD.out, HL3.out⟩, HB1.out⟩
    · rw [h3] at HL HL1 HL2 HL3 HR q15 ⊢
      go_enter Try.func19, Try.ntmps19
      go_wp2_with (first
        | (go_at_call 37; refine HR.out.mono ?_; rintro e w4 ⟨rfl, hw4⟩; replace hw4 := hw4.symm; subst hw4; try dsimp only)
        | (go_at_call 42; refine HL.out.mono ?_; rintro e w1 ⟨⟨p, c, rfl, hd⟩, hB1⟩; have HD := Lib.hid hd; have HB1 := Lib.hid hB1; clear hd hB1))
      refine bodyPost_ret (v := .tuple #[.slice p (linesL 27).length c, .int .i64 0]) (by simp [results, Try.f19, go_sem]) rfl ?_
      exact ⟨⟨_, rfl, p, c, linesL 27, rfl, HL1.out, HL2.out, HD.out, HL3.out⟩, HB1.out⟩
set_option maxRecDepth 100000 in
theorem Days_none (n : Nat) (w : World) (hn3 : 3 ≤ n) (hn27 : n ≤ 27) (hn : ¬ (n = 3 ∨ n = 9 ∨ n = 15 ∨ n = 27)) :
    Calls Try.prog 19 #[.int .i64 (n : Int)] w fun e w' => e = .returned (.tuple #[.slice none 0 0, .int .i64 4]) ∧ w' = w := by
  have HR := Lib.hid (inRange_any (n : Int) w)
  rw [decide_eq_true (show 3 ≤ (n : Int) ∧ (n : Int) ≤ 27 by omega)] at HR
  have q1 : ((n : Int) == 3) = false := by simp; omega
  have q2 : ((n : Int) == 9) = false := by simp; omega
  have q3 : ((n : Int) == 15) = false := by simp; omega
  have q4 : ((n : Int) == 27) = false := by simp; omega
  clear hn
  go_enter Try.func19, Try.ntmps19
  go_wp2_with (go_at_call 37; refine HR.out.mono ?_; rintro e w4 ⟨rfl, hw4⟩; replace hw4 := hw4.symm; subst hw4; try dsimp only)
  refine bodyPost_ret (v := .tuple #[.slice none 0 0, .int .i64 4]) (by simp [results, Try.f19, go_sem]) rfl ?_
  exact ⟨rfl, rfl⟩
set_option maxRecDepth 100000 in
theorem Days_err (n : Int) (w : World) (hn : ¬ (3 ≤ n ∧ n ≤ 27)) :
    Calls Try.prog 19 #[.int .i64 n] w fun e w' => e = .returned (.tuple #[.slice none 0 0, .int .i64 1]) ∧ w' = w := by
  have HR := Lib.hid (inRange_any n w)
  rw [decide_eq_false hn] at HR
  clear hn
  go_enter Try.func19, Try.ntmps19
  go_wp2_with (go_at_call 37; refine HR.out.mono ?_; rintro e w4 ⟨rfl, hw4⟩; replace hw4 := hw4.symm; subst hw4; try dsimp only)
  refine bodyPost_ret (v := .tuple #[.slice none 0 0, .int .i64 1]) (by simp [results, Try.f19, go_sem]) rfl ?_
  exact ⟨rfl, rfl⟩
end Go.Proofs.Ytocnhikohfkcaaa
