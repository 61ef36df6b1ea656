/- threeOne: walk. TwoTwo, ThreeOne: walks. -/
import Derived.Test.YtgpijajgaclhfaaDoorG1113
import Derived.Laws.EntriesVeiled
import Derived.Sort.CutIn
import Derived.Test.YtgpijajgaclhfaaDoorG1112
set_option linter.unusedVariables false
set_option linter.unusedSimpArgs false
namespace Go.Proofs.YtgpijajgaclhfaaDoor
open Go.RowKit Go.Shelf
attribute [local go_sem] Oper.semAt_some

/-- what lies between a and c and is not comparable with d -/
def btw (n : Nat) (r : Nat → Nat → Bool) (a c d : Nat) : Nat := ldiff (ldiff (aft n r a &&& bef n r c) (aft n r d)) (bef n r d)
theorem btw_bit {n : Nat} {r : Nat → Nat → Bool} {a c d b : Nat} : (btw n r a c d).testBit b = true ↔ b < n ∧ r a b = true ∧ r b c = true ∧ r d b = false ∧ r b d = false := by
  unfold btw
  rw [testBit_ldiff, testBit_ldiff, Nat.testBit_and]
  by_cases hb : b < n
  · rw [aft64 hb, aft64 hb, bef64 hb, bef64 hb]
    cases r a b <;> cases r b c <;> cases r d b <;> cases r b d <;> simp [hb]
  · have h0 : (aft n r a).testBit b = false := by unfold aft; rw [bs_bit]; simp [hb]
    rw [h0]; simp [hb]
theorem btw_none {n : Nat} {r : Nat → Nat → Bool} {a c d : Nat} (h : btw n r a c d = 0) (b : Nat) : ¬ ThreeOne n r a b c d := fun ⟨_, hb, _, _, h1, h2, _, h3, _⟩ => by
  have := (btw_bit (n := n) (r := r) (a := a) (c := c) (d := d) (b := b)).2 ⟨hb, h1, h2, h3.2.1, h3.2.2⟩
  rw [h, Nat.zero_testBit] at this
  cases this
theorem btw_sm {n : Nat} {r : Nat → Nat → Bool} (hn : n ≤ 12) (a c d : Nat) : Sm (btw n r a c d) := sm_ldiff _ (sm_ldiff _ (sm_and_l _ (aft_sm hn a)))
theorem btw_lo {n : Nat} {r : Nat → Nat → Bool} {a c d : Nat} (hn : n ≤ 12) (h : btw n r a c d ≠ 0) : (lo (btw n r a c d)) < n ∧ r a (lo (btw n r a c d)) = true ∧ r (lo (btw n r a c d)) c = true ∧ r d (lo (btw n r a c d)) = false ∧ r (lo (btw n r a c d)) d = false :=
  btw_bit.1 (lo_bit h (Nat.lt_trans (btw_sm (r := r) hn a c d).lt (by decide))).1
theorem btw_not {n : Nat} {r : Nat → Nat → Bool} {a c d : Nat} (hn : n ≤ 12) (ha : a < n) (hc : c < n) (hd : d < n) (h : btw n r a c d ≠ 0) (ht : to3 n r a (lo (btw n r a c d)) c d = false) (b : Nat) : ¬ ThreeOne n r a b c d := fun hT => by
  obtain ⟨h1, h2, h3, h4, h5⟩ := btw_lo hn h
  have hne : d ≠ lo (btw n r a c d) := fun e => by
    have h6 := hT.2.2.2.2.2.2.1.2.2
    have h7 := h2
    rw [← e, h6] at h7
    cases h7
  have : to3 n r a (lo (btw n r a c d)) c d = true := (to3_iff ha h1 hc hd).2 ⟨ha, h1, hc, hd, h2, h3, hT.2.2.2.2.2.2.1, ⟨hne, h4, h5⟩, hT.2.2.2.2.2.2.2.2⟩
  rw [ht] at this; cases this
/-- what threeOne answers -/
def ThreeA (n : Nat) (r : Nat → Nat → Bool) (e : Ending) : Prop :=
  (∃ a b c d : Nat, e = .returned (.tuple #[.agg #[.int .i64 (a : Int), .int .i64 (b : Int), .int .i64 (c : Int), .int .i64 (d : Int)], .bool true]) ∧ ThreeOne n r a b c d) ∨
  (e = .returned (.tuple #[.agg #[.int .i64 0, .int .i64 0, .int .i64 0, .int .i64 0], .bool false]) ∧ ∀ a b c d, ¬ ThreeOne n r a b c d)
/-- the law of a loop over an iterator of pairs -/
theorem rf_two {α : Type} {u1 u2 : α → Value} {P : Program} {n : Nat} {g : Operand} {t1 t2 d1 d2 : Nat} {i1 i2 : Nat} {ty1 ty2 : TypeId} {p1 p2 : String} {aft1 aft2 : Array Edge} {body : Code} {Q : Exit → Act → World → Prop} {a : Act} {w : World}
    (h1 : 1 ≤ n) {gf : Nat} {lb : Array Value} (hg : a.eval g = .func (.func gf) #[] lb) (eg : ∀ args w, (callFunc gf args).run P w = .ok (.enter gf args) w)
    {Kp : World → World → Prop} {S Sp : List α → Prop} {N : Nat} (hseq : SeqStopsK Fence.wide (n - 1) P gf lb (fun x : α => #[u1 x, u2 x]) Kp S Sp N w)
    (hKt : ∀ {A B C : World}, Kp A B → Kp B C → Kp A C) (hKb : ∀ (W : World) (l : Nat) (o o' : Obj), w.heap.size ≤ l → W.heap[l]? = some o → o.isCells = false → o.isWalk = false → Kp W (W.putObj l o')) (hKr : ∀ W, Kp W W)
    (ht1 : t1 < a.tmps.size) (ht2 : t2 < a.tmps.size) (ht12 : t1 ≠ t2) (htd : t2 ≠ d1) (I : List α → World → Prop) (Ix : Code → List α → World → Prop) (hI : OwnFrom w.heap.size I) (hIx : ∀ c, OwnFrom w.heap.size (Ix c)) (h0 : I [] w)
    (hbody : ∀ (l : Nat) (pre : List α) (x : α) (W : World), I pre W → pre.length < N → body.wpIn (Fence.wide.inRound l) (n - 1 - 1) P (ownPostG w.heap.size Kp I Ix (pre ++ [x]) W) { tmps := (((a.tmps.setIfInBounds t1 (u1 x)).setIfInBounds t2 (u2 x)).setIfInBounds d1 (u1 x)).setIfInBounds d2 (u2 x), defers := [] } W)
    (hdone : ∀ (D : Nat) (xs : List α) (W : World), w.heap.size ≤ D → S xs → I xs W → W.heap[D]? = some (.deferred (some [])) → Q .normal { a with defers := { target := .collected D, args := #[] } :: a.defers } W)
    (hstop : ∀ (D : Nat) (c : Code) (pre : List α) (W : World), w.heap.size ≤ D → Sp pre → Ix c pre W → W.heap[D]? = some (.deferred (some [])) → c.wpIn Fence.wide n P Q { a with defers := { target := .collected D, args := #[] } :: a.defers } W) :
    (Code.rangeFunc g #[t1, t2] ((Code.region i1 #[{ dst := some d1, op := Op.assign (Operand.tmp t1), type := ty1, pos := p1, after := aft1, guard := none }] false).seq (Code.region i2 #[{ dst := some d2, op := Op.assign (Operand.tmp t2), type := ty2, pos := p2, after := aft2, guard := none }] false)) body).wpIn Fence.wide n P Q a w := by
  refine wpIn_rangeFunc_ownG_of_H rfl h1 hg trivial eg hseq (fun h k => hKt h k) hKb (Below.refl _ _) (fun _ => rfl) I Ix hI hIx h0 (fun x => { tmps := (((a.tmps.setIfInBounds t1 (u1 x)).setIfInBounds t2 (u2 x)).setIfInBounds d1 (u1 x)).setIfInBounds d2 (u2 x), defers := [] }) ?_ hbody hdone hstop hKr
  intro l x W K hK
  have e : (Array.zip #[t1, t2] #[u1 x, u2 x]).foldl (fun t (p, v) => t.setIfInBounds p v) a.tmps = (a.tmps.setIfInBounds t1 (u1 x)).setIfInBounds t2 (u2 x) := by simp
  rw [e]
  have hv1 : ((a.tmps.setIfInBounds t1 (u1 x)).setIfInBounds t2 (u2 x)).getD t1 undef = u1 x := by
    rw [Array.getD_eq_getD_getElem?, Array.getElem?_setIfInBounds_ne ht12.symm, Array.getElem?_setIfInBounds_self_of_lt ht1]; rfl
  have hv2 : (((a.tmps.setIfInBounds t1 (u1 x)).setIfInBounds t2 (u2 x)).setIfInBounds d1 (u1 x)).getD t2 undef = u2 x := by
    rw [Array.getD_eq_getD_getElem?, Array.getElem?_setIfInBounds_ne htd.symm, Array.getElem?_setIfInBounds_self_of_lt (by simpa using ht2)]; rfl
  gi_wp2
  exact hK
theorem boxed_otherN {W : World} {b : Nat} {t : TypeId} {v : Value} (h : Boxed W b t v) {a : Addr} (hne : b ≠ a.block) (x : Value) : Boxed (W.setCell a x) b t v := BoxN.other (W := W) (B := b) (t := t) (vs := #[v]) h hne x
theorem boxed_below {W W' : World} {b : Nat} {t : TypeId} {v : Value} (h : Boxed W b t v) (hB : Below W.heap.size W W') : Boxed W' b t v := (hB.block b h.lt).trans h
/-- none with these -/
def NoT {n : Nat} {r : Nat → Nat → Bool} (pre : List (OvX n r)) : Prop := ∀ z ∈ pre, ∀ b c, ¬ ThreeOne n r z.1.1 b c z.1.2
/-- what holds between two rounds -/
structure T3 (w W : World) (B n : Nat) (r : Nat → Nat → Bool) : Prop where
  bl : Below w.heap.size w W
  ob : Boxed W w.heap.size 81 (.pointer (some ⟨B, 0, none⟩))
  or : OrdAt W B n r
  x4 : ∃ p q s t : Int, BoxN W (w.heap.size + 1) 45 #[.int .i64 p, .int .i64 q, .int .i64 s, .int .i64 t]
  fk : Boxed W (w.heap.size + 1 + 1) 4 (.bool false)
theorem T3.own {w A C : World} {B n K : Nat} {r : Nat → Nat → Bool} (hK : w.heap.size + 3 ≤ K) (hBw : B < w.heap.size) (h : T3 w A B n r) {row : Option Nat} (hg : A.grownBy C row) (hr : ∀ k, row = some k → K ≤ k) : T3 w C B n r := by
  have hne : ∀ {k}, k < w.heap.size + 3 → some k ≠ row := fun hk e => by have := hr _ e.symm; omega
  have hB : Below w.heap.size A C := ⟨hg.os, hg.tape, hg.output, hg.size, fun k hk => hg.block k (Nat.lt_of_lt_of_le hk h.bl.size) (hne (by omega))⟩
  have hb : C.heap[B]? = A.heap[B]? := hg.block B h.or.lt (hne (by omega))
  obtain ⟨p, q, s, t, hx⟩ := h.x4
  exact ⟨h.bl.trans hB, h.ob.kept hg (hne (by omega)), ⟨Nat.lt_of_lt_of_le h.or.lt hg.size, (World.cell?_of_block hb).trans h.or.cn, fun j hj => (World.cell?_of_block hb).trans (h.or.cb j hj), fun j hj => (World.cell?_of_block hb).trans (h.or.ca j hj)⟩, ⟨p, q, s, t, hx.kept hg (hne (by omega))⟩, h.fk.kept hg (hne (by omega))⟩
theorem T3.dr {w A : World} {B n : Nat} {r : Nat → Nat → Bool} (h : T3 w A B n r) (q : Nat) : T3 w (A.drewN q) B n r := ⟨below_dr h.bl q, h.ob, h.or.dr q, h.x4, h.fk⟩
abbrev Ex3 (w : World) (k : Nat) : Prop := k = w.heap.size + 1 ∨ k = w.heap.size + 1 + 1
theorem T3.ag {w A C : World} {B n : Nat} {r : Nat → Nat → Bool} (hBw : B < w.heap.size) (h : T3 w A B n r) (hA : Ag (Ex3 w) A C) (hx : ∃ p q s t : Int, BoxN C (w.heap.size + 1) 45 #[.int .i64 p, .int .i64 q, .int .i64 s, .int .i64 t]) (hf : Boxed C (w.heap.size + 1 + 1) 4 (.bool false)) : T3 w C B n r := by
  have hb : C.heap[B]? = A.heap[B]? := hA.block B h.or.lt (fun e => by rcases e with e | e <;> omega)
  exact ⟨hA.below h.bl h.bl.size (fun k hk e => by rcases e with e | e <;> omega), hA.boxed h.ob (fun e => by rcases e with e | e <;> omega), ⟨Nat.lt_of_lt_of_le h.or.lt hA.size, (World.cell?_of_block hb).trans h.or.cn, fun j hj => (World.cell?_of_block hb).trans (h.or.cb j hj), fun j hj => (World.cell?_of_block hb).trans (h.or.ca j hj)⟩, hx, hf⟩
theorem T3.ord {w A C : World} {B n : Nat} {r : Nat → Nat → Bool} (hBw : B < w.heap.size) (h : T3 w A B n r) (hA : Ag (Ex3 w) A C) : OrdAt C B n r := by
  have hb : C.heap[B]? = A.heap[B]? := hA.block B h.or.lt (fun e => by rcases e with e | e <;> omega)
  exact ⟨Nat.lt_of_lt_of_le h.or.lt hA.size, (World.cell?_of_block hb).trans h.or.cn, fun j hj => (World.cell?_of_block hb).trans (h.or.cb j hj), fun j hj => (World.cell?_of_block hb).trans (h.or.ca j hj)⟩
theorem Ag.ofB {ex : Nat → Prop} {A C : World} (h : Below A.heap.size A C) : Ag ex A C := ⟨h.os, h.tape, h.output, h.size, fun k hk _ => h.block k hk⟩
theorem kf3 {w X C : World} {K : Nat} (hK : K = w.heap.size + 4) (h : Ag (Ex3 w) X C) : KeepsFrom K X C := KeepsFrom.of_ag h (fun k o hk _ _ e => by rcases e with e | e <;> omega)
theorem ko3 {w X C : World} {B n : Nat} {r : Nat → Nat → Bool} (hBw : B < w.heap.size) (h : Ag (Ex3 w) X C) : KeepsOv (w.heap.size + 3) B n r X C := fun hI => hI.block (h.block B hI.1.lt (fun e => by rcases e with e | e <;> omega)) (h.block _ hI.2.2 (fun e => by rcases e with e | e <;> omega)) h.size
/-- when one has been found -/
def T3x (w W : World) (n : Nat) (r : Nat → Nat → Bool) : Prop := ∃ a b c d : Nat, ThreeOne n r a b c d ∧ Below w.heap.size w W ∧ BoxN W (w.heap.size + 1) 45 #[.int .i64 (a : Int), .int .i64 (b : Int), .int .i64 (c : Int), .int .i64 (d : Int)] ∧ Boxed W (w.heap.size + 1 + 1) 4 (.bool true)
theorem T3x.own {w A C : World} {n K : Nat} {r : Nat → Nat → Bool} (hK : w.heap.size + 3 ≤ K) (h : T3x w A n r) {row : Option Nat} (hg : A.grownBy C row) (hr : ∀ k, row = some k → K ≤ k) : T3x w C n r := by
  have hne : ∀ {k}, k < w.heap.size + 3 → some k ≠ row := fun hk e => by have := hr _ e.symm; omega
  obtain ⟨a, b, c, d, h1, h2, h3, h4⟩ := h
  have hB : Below w.heap.size A C := ⟨hg.os, hg.tape, hg.output, hg.size, fun k hk => hg.block k (by have := h3.lt; omega) (hne (by omega))⟩
  exact ⟨a, b, c, d, h1, h2.trans hB, h3.kept hg (hne (by omega)), h4.kept hg (hne (by omega))⟩
set_option maxRecDepth 100000 in
set_option maxHeartbeats 4000000 in
theorem threeOne_in (B n : Nat) (r : Nat → Nat → Bool) (w : World) (hn1 : 1 ≤ n) (hn : n ≤ 12) (hT : Tab w) (hO : OrdAt w B n r) :
    CallsIn Fence.wide 26 Tryd.prog 68 #[.pointer (some ⟨B, 0, none⟩)] w fun e w' => ThreeA n r e ∧ Below w.heap.size w w' := by
  refine callsIn_of_wp_marks Tryd.func68 rfl trivial ?_ rfl
  simp only [Tryd.ntmps68, List.size_toArray, List.length_cons, List.length_nil, Nat.reduceAdd, Nat.reduceSub, Array.replicate_succ, Array.replicate_zero, List.push_toArray, List.append_toArray, List.nil_append, List.cons_append]
  refine wpIn_wide.2 ?_
  go_wp2
  go_step3
  go_wp2
  go_step3
  have HC := Lib.hid (overlaps_any B)
  go_wp2_with (go_at_call 70; refine (HC.out _).mono ?_; rintro e w4 ⟨rfl, hw4⟩; subst hw4)
  have hBw := hO.lt
  have hB0 : Below w.heap.size w ((((w.alloc (Obj.cells #[.pointer (some ⟨B, 0, none⟩)] 81)).alloc (.cells #[.int .i64 0, .int .i64 0, .int .i64 0, .int .i64 0] 45)).alloc (.cells #[.bool false] 4)).alloc (.cells #[.pointer (some ⟨B, 0, none⟩)] 81)) :=
    (((((Below.refl _ w).alloc (Nat.le_refl _) _).alloc (by simp) _).alloc (by simp; omega) _).alloc (by simp; omega) _)
  have x1 : Boxed (w.alloc (Obj.cells #[.pointer (some ⟨B, 0, none⟩)] 81)) w.heap.size 81 (.pointer (some ⟨B, 0, none⟩)) := boxed_at rfl
  have x1 := ((x1.alloc (.cells #[.int .i64 0, .int .i64 0, .int .i64 0, .int .i64 0] 45)).alloc (.cells #[.bool false] 4)).alloc (.cells #[.pointer (some ⟨B, 0, none⟩)] 81)
  have x2 : BoxN ((w.alloc (Obj.cells #[.pointer (some ⟨B, 0, none⟩)] 81)).alloc (.cells #[.int .i64 0, .int .i64 0, .int .i64 0, .int .i64 0] 45)) (w.heap.size + 1) 45 #[.int .i64 0, .int .i64 0, .int .i64 0, .int .i64 0] := BoxN.new (by simp)
  have x2 := (x2.alloc (.cells #[.bool false] 4)).alloc (.cells #[.pointer (some ⟨B, 0, none⟩)] 81)
  have x3 : Boxed (((w.alloc (Obj.cells #[.pointer (some ⟨B, 0, none⟩)] 81)).alloc (.cells #[.int .i64 0, .int .i64 0, .int .i64 0, .int .i64 0] 45)).alloc (.cells #[.bool false] 4)) (w.heap.size + 1 + 1) 4 (.bool false) := boxed_at (by simp)
  have x3 := x3.alloc (.cells #[.pointer (some ⟨B, 0, none⟩)] 81)
  have x4 : Boxed ((((w.alloc (Obj.cells #[.pointer (some ⟨B, 0, none⟩)] 81)).alloc (.cells #[.int .i64 0, .int .i64 0, .int .i64 0, .int .i64 0] 45)).alloc (.cells #[.bool false] 4)).alloc (.cells #[.pointer (some ⟨B, 0, none⟩)] 81)) (w.heap.size + 3) 81 (.pointer (some ⟨B, 0, none⟩)) := boxed_at (by simp)
  have hs0 : ((((w.alloc (Obj.cells #[.pointer (some ⟨B, 0, none⟩)] 81)).alloc (.cells #[.int .i64 0, .int .i64 0, .int .i64 0, .int .i64 0] 45)).alloc (.cells #[.bool false] 4)).alloc (.cells #[.pointer (some ⟨B, 0, none⟩)] 81)).heap.size = w.heap.size + 4 := by simp
  generalize ((((w.alloc (Obj.cells #[.pointer (some ⟨B, 0, none⟩)] 81)).alloc (.cells #[.int .i64 0, .int .i64 0, .int .i64 0, .int .i64 0] 45)).alloc (.cells #[.bool false] 4)).alloc (.cells #[.pointer (some ⟨B, 0, none⟩)] 81)) = U at *
  have HT := Lib.hid hT
  have HOU := Lib.hid (hO.below hB0 (Nat.le_refl _))
  have HS := Lib.hid hs0
  have HBw := Lib.hid hBw
  have HN := Lib.hid hn
  clear hs0 hT hO
  refine (wpIn_wide (n := 26)).1 ?_
  refine rf_two (α := OvX n r) (u1 := fun x => .int .i64 (x.1.1 : Int)) (u2 := fun x => .int .i64 (x.1.2 : Int)) (by decide) (gf := 85) (lb := #[.pointer (some ⟨w.heap.size + 3, 0, none⟩)]) rfl (enters_of Tryd.func85 (by kernel_rfl) rfl)
    (ov_stops 25 (by decide) (w.heap.size + 3) B n r hn U ⟨HOU.out, x4.cell, x4.lt⟩) keepsOv_t (keepsOv_b (by rw [HS.out]; omega) HOU.out.lt) (fun W => KeepsOv.refl W) (by simp) (by simp) (by decide) (by decide)
    (fun pre W => T3 w W B n r ∧ Hid (NoT pre))
    (fun c pre W => c = .exit 0 ∧ T3x w W n r) ?hI ?hIx ?h0 ?body ?done ?stop
  case hI =>
    intro pre A C row hs hg hr
    exact ⟨hs.1.own (K := U.heap.size) (by rw [HS.out]; omega) HBw.out hg (fun k e => (hr k e).1), hs.2⟩
  case hIx =>
    intro c pre A C row hs hg hr
    exact ⟨hs.1, hs.2.own (K := U.heap.size) (by rw [HS.out]; omega) hg (fun k e => (hr k e).1)⟩
  case h0 => exact ⟨⟨hB0, x1, HOU.out, ⟨0, 0, 0, 0, x2⟩, x3⟩, fun z hz => by cases hz⟩
  case body =>
    rintro lf pre x X ⟨hT3, hpre⟩ _
    simp only [List.setIfInBounds_toArray, List.set_cons_zero, List.set_cons_succ]
    obtain ⟨a, ha⟩ : ∃ a, x.1.1 = a := ⟨_, rfl⟩
    obtain ⟨d, hd⟩ : ∃ d, x.1.2 = d := ⟨_, rfl⟩
    have han : a < n := by rw [← ha]; exact x.2.1
    have hdn : d < n := by rw [← hd]; exact x.2.2.1
    have HOV : Hid (Ovl r a d) := by rw [← ha, ← hd]; exact x.2.2.2
    rw [ha, hd]
    have HXA := Lib.hid ha
    have HXD := Lib.hid hd
    clear ha hd
    have c0 := hT3.ob.cell
    have cn := hT3.or.cn
    have HPRE := hpre
    have HT3 := Lib.hid hT3
    clear hpre hT3 hB0 x4 HC
    clear x1 x2 x3
    have ga : (a : Int) < 12 := by omega
    have ga0 : (0 : Int) ≤ (a : Int) := by omega
    have gd : (d : Int) < 12 := by omega
    have gd0 : (0 : Int) ≤ (d : Int) := by omega
    gi_wp2
    gi_loopw [16] (fun s16 wr => ∃ k : Nat, k ≤ n ∧ s16 = .int .i64 (k : Int) ∧ Hid (T3 w wr B n r) ∧ Hid (Ag (Ex3 w) X wr) ∧ Hid (∀ c, c < k → ∀ b, ¬ ThreeOne n r a b c d)) (fun s16 _ => n - (intOf s16).toNat)
    case atStart => exact ⟨0, by omega, rfl, HT3.out, Ag.refl _ _, fun c hc => by omega⟩
    case round =>
      obtain ⟨k, hk, rfl, hT, hA, hq⟩ := hrel
      clear c0 cn
      by_cases hkn : k < n
      · have g1 : (k : Int) < (n : Int) := by omega
        have gk : (k : Int) < 12 := by omega
        have gk0 : (0 : Int) ≤ (k : Int) := by omega
        have c0 := hT.out.ob.cell
        have l1 := hT.out.or.ca a han
        have l2 := hT.out.or.cb k hkn
        have l3 := hT.out.or.ca d hdn
        have l4 := hT.out.or.cb d hdn
        have s1 := aft_sm (r := r) HN.out a
        have s2 := bef_sm (r := r) HN.out k
        have s3 := aft_sm (r := r) HN.out d
        have s4 := bef_sm (r := r) HN.out d
        have s5 := btw_sm (r := r) HN.out a k d
        have HZ := Lib.hid (fun h => btw_none (n := n) (r := r) (a := a) (c := k) (d := d) h)
        have HLO := Lib.hid (fun h => btw_lo (r := r) (a := a) (c := k) (d := d) HN.out h)
        have HNOT := Lib.hid (fun h ht => btw_not (r := r) (a := a) (c := k) (d := d) HN.out han hkn hdn h ht)
        have hbt : Hid (btw n r a k d = ldiff (ldiff (aft n r a &&& bef n r k) (aft n r d)) (bef n r d)) := rfl
        obtain ⟨S, hS⟩ : ∃ S, Hid (S = btw n r a k d) := ⟨_, rfl⟩
        rw [← hS.out] at hbt s5 HZ HLO HNOT
        generalize aft n r a = v1 at *
        generalize bef n r k = v2 at *
        generalize aft n r d = v3 at *
        generalize bef n r d = v4 at *
        have s6 := sm_and_l v2 s1
        have s7 := sm_ldiff v3 s6
        gi_wp2
        refine quietR_lit (by kernel_rfl) (by kernel_rfl) (by kernel_rfl) ?_
        repeat (gi_big_quiet_step (fail))
        refine wpQuietIn_nil ?_
        rintro _ ⟨nq, rfl⟩
        have hbt' := hbt.out
        rw [← hbt']
        clear hbt hbt' l1 l2 l3 l4 s1 s2 s3 s4 s6 s7 hS
        by_cases h0 : S = 0
        · have HNN : Hid (∀ c, c < k + 1 → ∀ b, ¬ ThreeOne n r a b c d) := fun c hc b => by
            by_cases e : c = k
            · subst e; exact HZ.out h0 b
            · exact hq.out c (by omega) b
          have n0 : ((S : Int) != 0) = false := by rw [h0]; rfl
          clear HZ HLO HNOT hq
          gi_wp2
          exact ⟨⟨k + 1, by omega, int_eq (by omega), hT.out.dr nq, hA.out.drewN nq, HNN⟩, by simp [intOf]; omega⟩
        · have n0 : ((S : Int) != 0) = true := by rw [bne_iff_ne]; omega
          have HL := Lib.hid (HLO.out h0)
          obtain ⟨m, hm⟩ : ∃ m, Hid (m = lo S) := ⟨_, rfl⟩
          have HTZ : Hid (∀ q, Calls Tryd.prog 80 #[.int .u64 (S : Int)] (wr.drewN q) fun e w' => e = .returned (.int .i64 (m : Int)) ∧ w' = wr.drewN q) := fun q => by rw [hm.out]; exact tz_any S (Nat.lt_trans s5.lt (by decide)) h0 (wr.drewN q) (Tab.dr (HT.out.below hT.out.bl (Nat.le_refl _)) q)
          have z1 : IntKind.u64.wrap (S : Int) = (S : Int) := u64_same _ (Nat.lt_trans s5.lt (by decide))
          rw [← hm.out] at HL HNOT
          have hmn : m < n := HL.out.1
          obtain ⟨p0, q0, s0, t0, hx0⟩ := hT.out.x4
          have f0 := hx0.frozen 0
          have f1 := hx0.frozen 1
          have f2 := hx0.frozen 2
          have f3 := hx0.frozen 3
          have d0 := hx0.cell 0
          have d1 := hx0.cell 1
          have d2 := hx0.cell 2
          have d3 := hx0.cell 3
          clear HZ HLO hm
          gi_upto_region 10 with (gi_at_call 80; refine (CallsIn.inRound lf (callsIn_wide.2 (HTZ.out _))).mono ?_; rintro e w1 ⟨rfl, hw1⟩; subst hw1)
          have HXY := ((((show BoxN (wr.drewN nq) _ 45 _ from hx0).set 0 (.int .i64 (a : Int))).set 1 (.int .i64 (m : Int))).set 2 (.int .i64 (k : Int))).set 3 (.int .i64 (d : Int))
          have HAY : Ag (Ex3 w) (wr.drewN nq) _ := ((((Ag.refl (Ex3 w) (wr.drewN nq)).set ⟨w.heap.size + 1, 0, none⟩ (.int .i64 (a : Int)) (.inr (.inl rfl))).set ⟨w.heap.size + 1, 1, none⟩ (.int .i64 (m : Int)) (.inr (.inl rfl))).set ⟨w.heap.size + 1, 2, none⟩ (.int .i64 (k : Int)) (.inr (.inl rfl))).set ⟨w.heap.size + 1, 3, none⟩ (.int .i64 (d : Int)) (.inr (.inl rfl))
          simp only [List.setIfInBounds_toArray, List.set_cons_zero, List.set_cons_succ] at HXY
          have HFY : Boxed _ (w.heap.size + 1 + 1) 4 (.bool false) := boxed_otherN (a := ⟨w.heap.size + 1, 3, none⟩) (boxed_otherN (a := ⟨w.heap.size + 1, 2, none⟩) (boxed_otherN (a := ⟨w.heap.size + 1, 1, none⟩) (boxed_otherN (a := ⟨w.heap.size + 1, 0, none⟩) (show Boxed (wr.drewN nq) _ 4 _ from hT.out.fk) (by simp) (.int .i64 (a : Int))) (by simp) (.int .i64 (m : Int))) (by simp) (.int .i64 (k : Int))) (by simp) (.int .i64 (d : Int))
          generalize (((((wr.drewN nq).setCell ⟨w.heap.size + 1, 0, none⟩ (.int .i64 (a : Int))).setCell ⟨w.heap.size + 1, 1, none⟩ (.int .i64 (m : Int))).setCell ⟨w.heap.size + 1, 2, none⟩ (.int .i64 (k : Int))).setCell ⟨w.heap.size + 1, 3, none⟩ (.int .i64 (d : Int))) = Y at *
          clear d0 d1 d2 d3 f0 f1 f2 f3
          have d0 := HXY.cell 0
          have d1 := HXY.cell 1
          have d2 := HXY.cell 2
          have d3 := HXY.cell 3
          have c0 := (HAY.boxed (show Boxed (wr.drewN nq) _ 81 _ from hT.out.ob) (fun e => by rcases e with e | e <;> omega)).cell
          have HOY : Hid (OrdAt Y B n r) := T3.ord HBw.out (hT.out.dr nq) HAY
          have HTO := Lib.hid (isTO_any B n r a m k d Y HN.out han hmn hkn hdn HOY.out)
          obtain ⟨t, ht⟩ : ∃ t, Hid (t = to3 n r a m k d) := ⟨_, rfl⟩
          rw [← ht.out] at HTO HNOT
          have hYs : w.heap.size + 1 + 1 < Y.heap.size := HFY.lt
          have HXYh := Lib.hid HXY
          have HAYh := Lib.hid HAY
          have HFYh := Lib.hid HFY
          clear HXY HAY HFY
          gi_wp2_with (gi_at_call 65; refine (CallsIn.inRound lf (callsIn_wide.2 HTO.out)).mono ?_; rintro e w3 ⟨rfl, hB3⟩; have HB3 := Lib.hid hB3; have fk := (boxed_below HFYh.out hB3).frozen; have ck := (boxed_below HFYh.out hB3).cell; clear hB3)
          · have ht1 : t = true := by assumption
            have HAX : Ag (Ex3 w) X (w3.setCell ⟨w.heap.size + 1 + 1, 0, none⟩ (.bool t)) := ((((hA.out.drewN nq).trans HAYh.out).trans (Ag.ofB HB3.out)).set ⟨w.heap.size + 1 + 1, 0, none⟩ (.bool t) (.inr (.inr rfl)))
            have hb3 := boxed_below HFYh.out HB3.out
            have hx3 := HXYh.out.below HB3.out HXYh.out.lt
            refine ⟨kf3 HS.out HAX, rfl, a, m, k, d, ?_, HAX.below HT3.out.bl HT3.out.bl.size (fun k hk e => by rcases e with e | e <;> omega), hx3.other (by simp) _, ?_⟩
            · exact (to3_iff han hmn hkn hdn).1 (by rw [← ht.out]; exact ht1)
            · rw [ht1]; exact hb3.set _
          · have ht1 : t = false := by assumption
            have HAX : Ag (Ex3 w) X (w3.setCell ⟨w.heap.size + 1 + 1, 0, none⟩ (.bool false)) := ((((hA.out.drewN nq).trans HAYh.out).trans (Ag.ofB HB3.out)).set ⟨w.heap.size + 1 + 1, 0, none⟩ (.bool false) (.inr (.inr rfl)))
            have hb3 := boxed_below HFYh.out HB3.out
            have hx3 := HXYh.out.below HB3.out HXYh.out.lt
            refine ⟨⟨k + 1, by omega, int_eq (by omega), HT3.out.ag HBw.out HAX ⟨a, m, k, d, hx3.other (by simp) _⟩ (hb3.set _), HAX, fun c hc b => ?_⟩, by simp [intOf]; omega⟩
            by_cases e : c = k
            · subst e; exact HNOT.out h0 ht1 b
            · exact hq.out c (by omega) b
      · have g1 : ¬ (k : Int) < (n : Int) := by omega
        obtain rfl : k = n := by omega
        gi_wp2
        refine ⟨kf3 HS.out hA.out, ko3 HBw.out hA.out, hT.out, fun z hz b c hz3 => ?_⟩
        rcases List.mem_append.1 hz with hz | hz
        · exact HPRE.out z hz b c hz3
        · rw [List.mem_singleton] at hz
          subst hz
          rw [HXA.out, HXD.out] at hz3
          exact hq.out c hz3.2.2.1 b hz3
  case done =>
    rintro D xs W2 hD hall ⟨hT3, hno⟩ hK
    have HNO : Hid (∀ a b c d, ¬ ThreeOne n r a b c d) := fun a b c d h => by
      obtain ⟨z, hz, e⟩ := hall a d h.1 h.2.2.2.1 (by obtain ⟨h1, h2, h3⟩ := h.2.2.2.2.2.2.1; exact ⟨fun e => h1 e.symm, h3, h2⟩)
      have := hno.out z hz b c
      rw [e] at this
      exact this h
    have HT3 := Lib.hid hT3
    obtain ⟨p0, q0, s0, t0, y4⟩ := hT3.x4
    have y5 := hT3.fk
    have m0 := y4.frozen 0
    have m1 := y4.frozen 1
    have m2 := y4.frozen 2
    have m3 := y4.frozen 3
    have l0 := y4.cell 0
    have l1 := y4.cell 1
    have l2 := y4.cell 2
    have l3 := y4.cell 3
    have c5 := y5.cell
    have f5 := y5.frozen
    clear hno hall hT3
    go_wp2
    have hD2 : w.heap.size + 1 + 1 < D := by have := HS.out; omega
    have HAG : Ag (Ex3 w) W2 (((((W2.setCell ⟨w.heap.size + 1, 0, none⟩ (.int .i64 0)).setCell ⟨w.heap.size + 1, 1, none⟩ (.int .i64 0)).setCell ⟨w.heap.size + 1, 2, none⟩ (.int .i64 0)).setCell ⟨w.heap.size + 1, 3, none⟩ (.int .i64 0)).setCell ⟨w.heap.size + 1 + 1, 0, none⟩ (.bool false)) :=
      (((((Ag.refl (Ex3 w) W2).set _ _ (.inr (.inl rfl))).set _ _ (.inr (.inl rfl))).set _ _ (.inr (.inl rfl))).set _ _ (.inr (.inl rfl))).set _ _ (.inr (.inr rfl))
    have z4 := ((((y4.set 0 (.int .i64 0)).set 1 (.int .i64 0)).set 2 (.int .i64 0)).set 3 (.int .i64 0)).other (a := ⟨w.heap.size + 1 + 1, 0, none⟩) (by simp) (.bool false)
    simp only [List.setIfInBounds_toArray, List.set_cons_zero, List.set_cons_succ] at z4
    have z5 : Boxed (((((W2.setCell ⟨w.heap.size + 1, 0, none⟩ (.int .i64 0)).setCell ⟨w.heap.size + 1, 1, none⟩ (.int .i64 0)).setCell ⟨w.heap.size + 1, 2, none⟩ (.int .i64 0)).setCell ⟨w.heap.size + 1, 3, none⟩ (.int .i64 0)).setCell ⟨w.heap.size + 1 + 1, 0, none⟩ (.bool false)) (w.heap.size + 1 + 1) 4 (.bool false) :=
      Boxed.set _ (boxed_otherN (boxed_otherN (boxed_otherN (boxed_otherN y5 (by simp) _) (by simp) _) (by simp) _) (by simp) _)
    generalize (((((W2.setCell ⟨w.heap.size + 1, 0, none⟩ (.int .i64 0)).setCell ⟨w.heap.size + 1, 1, none⟩ (.int .i64 0)).setCell ⟨w.heap.size + 1, 2, none⟩ (.int .i64 0)).setCell ⟨w.heap.size + 1, 3, none⟩ (.int .i64 0)).setCell ⟨w.heap.size + 1 + 1, 0, none⟩ (.bool false)) = Y at *
    have hKY : Y.heap[D]? = some (.deferred (some [])) := HAG.obj hK (fun e => by rcases e with e | e <;> omega)
    have hBY := HAG.below HT3.out.bl HT3.out.bl.size (fun k hk e => by rcases e with e | e <;> omega)
    have z4' := z4.kept (grownBy_putObj' _ D (.deferred none)) (by simp; omega)
    have z5' := z5.kept (grownBy_putObj' _ D (.deferred none)) (by simp; omega)
    have q0 := z4'.cell 0
    have q1 := z4'.cell 1
    have q2 := z4'.cell 2
    have q3 := z4'.cell 3
    have q4 := z5'.cell
    refine ⟨by simp, .inl ⟨_, _, rfl, run_takeDeferred hKY, ?_⟩⟩
    refine ⟨.tuple #[.agg #[.int .i64 0, .int .i64 0, .int .i64 0, .int .i64 0], .bool false], by simp [results, Tryd.f68, go_sem, q0, q1, q2, q3, q4], .inr ⟨rfl, HNO.out⟩, hBY.trans (belowK_b (w := w) (Nat.le_refl _) _ D _ _ (by omega) hKY rfl rfl)⟩
  case stop =>
    rintro D c pre W2 hD - ⟨rfl, hx⟩ hK
    obtain ⟨a, b, c, d, hto, hbw, y4, y5⟩ := hx
    have HTO := Lib.hid hto
    have HBL := Lib.hid hbw
    have m0 := y4.frozen 0
    have m1 := y4.frozen 1
    have m2 := y4.frozen 2
    have m3 := y4.frozen 3
    have l0 := y4.cell 0
    have l1 := y4.cell 1
    have l2 := y4.cell 2
    have l3 := y4.cell 3
    have c5 := y5.cell
    have f5 := y5.frozen
    clear hto hbw
    gi_wp2
    go_wp2
    have hD2 : w.heap.size + 1 + 1 < D := by have := HS.out; omega
    have HAG : Ag (Ex3 w) W2 (((((W2.setCell ⟨w.heap.size + 1, 0, none⟩ (.int .i64 (a : Int))).setCell ⟨w.heap.size + 1, 1, none⟩ (.int .i64 (b : Int))).setCell ⟨w.heap.size + 1, 2, none⟩ (.int .i64 (c : Int))).setCell ⟨w.heap.size + 1, 3, none⟩ (.int .i64 (d : Int))).setCell ⟨w.heap.size + 1 + 1, 0, none⟩ (.bool true)) :=
      (((((Ag.refl (Ex3 w) W2).set _ _ (.inr (.inl rfl))).set _ _ (.inr (.inl rfl))).set _ _ (.inr (.inl rfl))).set _ _ (.inr (.inl rfl))).set _ _ (.inr (.inr rfl))
    have z4 := ((((y4.set 0 (.int .i64 (a : Int))).set 1 (.int .i64 (b : Int))).set 2 (.int .i64 (c : Int))).set 3 (.int .i64 (d : Int))).other (a := ⟨w.heap.size + 1 + 1, 0, none⟩) (by simp) (.bool true)
    simp only [List.setIfInBounds_toArray, List.set_cons_zero, List.set_cons_succ] at z4
    have z5 : Boxed (((((W2.setCell ⟨w.heap.size + 1, 0, none⟩ (.int .i64 (a : Int))).setCell ⟨w.heap.size + 1, 1, none⟩ (.int .i64 (b : Int))).setCell ⟨w.heap.size + 1, 2, none⟩ (.int .i64 (c : Int))).setCell ⟨w.heap.size + 1, 3, none⟩ (.int .i64 (d : Int))).setCell ⟨w.heap.size + 1 + 1, 0, none⟩ (.bool true)) (w.heap.size + 1 + 1) 4 (.bool true) :=
      Boxed.set _ (boxed_otherN (boxed_otherN (boxed_otherN (boxed_otherN y5 (by simp) _) (by simp) _) (by simp) _) (by simp) _)
    generalize (((((W2.setCell ⟨w.heap.size + 1, 0, none⟩ (.int .i64 (a : Int))).setCell ⟨w.heap.size + 1, 1, none⟩ (.int .i64 (b : Int))).setCell ⟨w.heap.size + 1, 2, none⟩ (.int .i64 (c : Int))).setCell ⟨w.heap.size + 1, 3, none⟩ (.int .i64 (d : Int))).setCell ⟨w.heap.size + 1 + 1, 0, none⟩ (.bool true)) = Y at *
    have hKY : Y.heap[D]? = some (.deferred (some [])) := HAG.obj hK (fun e => by rcases e with e | e <;> omega)
    have hBY := HAG.below HBL.out HBL.out.size (fun k hk e => by rcases e with e | e <;> omega)
    have z4' := z4.kept (grownBy_putObj' _ D (.deferred none)) (by simp; omega)
    have z5' := z5.kept (grownBy_putObj' _ D (.deferred none)) (by simp; omega)
    have q0 := z4'.cell 0
    have q1 := z4'.cell 1
    have q2 := z4'.cell 2
    have q3 := z4'.cell 3
    have q4 := z5'.cell
    refine ⟨by simp, .inl ⟨_, _, rfl, run_takeDeferred hKY, ?_⟩⟩
    refine ⟨.tuple #[.agg #[.int .i64 (a : Int), .int .i64 (b : Int), .int .i64 (c : Int), .int .i64 (d : Int)], .bool true], by simp [results, Tryd.f68, go_sem, q0, q1, q2, q3, q4], .inl ⟨a, b, c, d, rfl, HTO.out⟩, hBY.trans (belowK_b (w := w) (Nat.le_refl _) _ D _ _ (by omega) hKY rfl rfl)⟩
theorem threeOne_any (B n : Nat) (r : Nat → Nat → Bool) (w : World) (hn1 : 1 ≤ n) (hn : n ≤ 12) (hT : Tab w) (hO : OrdAt w B n r) :
    Calls Tryd.prog 68 #[.pointer (some ⟨B, 0, none⟩)] w fun e w' => ThreeA n r e ∧ Below w.heap.size w w' := callsIn_wide.1 (threeOne_in B n r w hn1 hn hT hO)
end Go.Proofs.YtgpijajgaclhfaaDoor
namespace Go.Proofs.YtgpijajgaclhfaaDoor
open Go.RowKit Go.Shelf

set_option maxRecDepth 100000 in
set_option maxHeartbeats 1000000 in
theorem TwoTwo_any (la : Option Addr) (n lc : Nat) (ln : Nat → Nat) (r : Nat → Nat → Bool) (w : World) (hn : n ≤ 1099511627776) (hTb : Tab w) (hT : TblI w la n ln r) :
    Calls Tryd.prog 25 #[.slice la n lc] w fun e w' => TwoTA n ln r e ∧ Below w.heap.size w w' := by
  have HB0 : Hid (Below w.heap.size w (w.alloc (.cells #[.int .i64 0, .int .i64 0, .int .i64 0, .int .i64 0] 45))) := (Below.refl _ _).alloc (Nat.le_refl _) _
  have HX0 : Hid (BoxN (w.alloc (.cells #[.int .i64 0, .int .i64 0, .int .i64 0, .int .i64 0] 45)) w.heap.size 45 #[.int .i64 0, .int .i64 0, .int .i64 0, .int .i64 0]) := BoxN.new rfl
  have HC := Lib.hid (open_any la n lc ln r _ hn (hT.below HB0.out (Nat.le_refl _)))
  have HTb := Lib.hid (hTb.below HB0.out (Nat.le_refl _))
  clear hT hTb
  go_enter Tryd.func25, Tryd.ntmps25
  go_upto_region 1 with (fail)
  obtain ⟨b1, hb1⟩ : ∃ b1, Hid (b1 = w.heap.size) := ⟨_, rfl⟩
  rw [← hb1.out] at HX0
  simp only [← hb1.out]
  generalize w.alloc (.cells #[.int .i64 0, .int .i64 0, .int .i64 0, .int .i64 0] 45) = X at *
  have hwX : w.heap.size ≤ X.heap.size := HB0.out.size
  have hbX : b1 < X.heap.size := HX0.out.lt
  have hbw : w.heap.size ≤ b1 := Nat.le_of_eq hb1.out.symm
  go_upto_region 2 with (go_at_call 55; refine HC.out.mono ?_; rintro e w1 ⟨ha, hB1⟩; have HB1 := Lib.hid hB1; clear hB1; rcases ha with ⟨rfl, hno⟩ | ⟨B, rfl, hok, hB, hO⟩)
  · have HNO := Lib.hid hno
    have HX1 := HX0.out.below HB1.out hbX
    have f0 := HX1.frozen 0
    have f1 := HX1.frozen 1
    have f2 := HX1.frozen 2
    have f3 := HX1.frozen 3
    have d0 := HX1.cell 0
    have d1 := HX1.cell 1
    have d2 := HX1.cell 2
    have d3 := HX1.cell 3
    clear hno
    go_wp2
    have z4 := (((HX1.set 0 (.int .i64 0)).set 1 (.int .i64 0)).set 2 (.int .i64 0)).set 3 (.int .i64 0)
    simp only [List.setIfInBounds_toArray, List.set_cons_zero, List.set_cons_succ] at z4
    have HB4 := Lib.hid (((((HB0.out.trans (HB1.out.mono hwX)).setCell (p := ⟨b1, 0, none⟩) hbw (.int .i64 0)).setCell (p := ⟨b1, 1, none⟩) hbw (.int .i64 0)).setCell (p := ⟨b1, 2, none⟩) hbw (.int .i64 0)).setCell (p := ⟨b1, 3, none⟩) hbw (.int .i64 0))
    generalize ((((w1.setCell ⟨b1, 0, none⟩ (.int .i64 0)).setCell ⟨b1, 1, none⟩ (.int .i64 0)).setCell ⟨b1, 2, none⟩ (.int .i64 0)).setCell ⟨b1, 3, none⟩ (.int .i64 0)) = Y at *
    have q0 := z4.cell 0
    have q1 := z4.cell 1
    have q2 := z4.cell 2
    have q3 := z4.cell 3
    refine bodyPost_ret (v := .tuple #[.agg #[.int .i64 0, .int .i64 0, .int .i64 0, .int .i64 0], .bool false, .int .i64 100]) (by simp [results, Tryd.f25, go_sem, q0, q1, q2, q3]) rfl ?_
    exact ⟨.inl ⟨rfl, HNO.out⟩, HB4.out⟩
  · have HOK := Lib.hid hok
    have HX1 := Lib.hid (HX0.out.below HB1.out hbX)
    have hw1 : w.heap.size ≤ w1.heap.size := Nat.le_trans hwX HB1.out.size
    have HT := Lib.hid (twoTwo_any B n r w1 hok.n1 hok.n12 (HTb.out.below HB1.out (Nat.le_refl _)) hO)
    have HBW := Lib.hid (HB0.out.trans (HB1.out.mono hwX))
    clear hok hO HC
    go_upto_region 4 with (fail)
    have hbw1 : b1 < w1.heap.size := HX1.out.lt
    go_upto_region 5 with (go_at_call 57; refine HT.out.mono ?_; rintro e w2 ⟨ha, hB2⟩; have HB2 := Lib.hid hB2; clear hB2; rcases ha with ⟨a, b, c, d, rfl, htt⟩ | ⟨rfl, hno⟩)
    · have HTT := Lib.hid htt
      clear htt HT
      have HB2' := Lib.hid (HBW.out.trans (HB2.out.mono hw1))
      have HX2 := Lib.hid (HX1.out.below HB2.out hbw1)
      have HX3 := HX2.out.alloc (.cells #[.int .i64 (a : Int), .int .i64 (b : Int), .int .i64 (c : Int), .int .i64 (d : Int)] 45)
      have HY3 : BoxN (w2.alloc (.cells #[.int .i64 (a : Int), .int .i64 (b : Int), .int .i64 (c : Int), .int .i64 (d : Int)] 45)) w2.heap.size 45 #[.int .i64 (a : Int), .int .i64 (b : Int), .int .i64 (c : Int), .int .i64 (d : Int)] := BoxN.new rfl
      have HB3 := Lib.hid (HB2'.out.alloc HB2'.out.size (.cells #[.int .i64 (a : Int), .int .i64 (b : Int), .int .i64 (c : Int), .int .i64 (d : Int)] 45))
      generalize w2.alloc (.cells #[.int .i64 (a : Int), .int .i64 (b : Int), .int .i64 (c : Int), .int .i64 (d : Int)] 45) = V at *
      have f0 := HX3.frozen 0
      have f1 := HX3.frozen 1
      have f2 := HX3.frozen 2
      have f3 := HX3.frozen 3
      have d0 := HX3.cell 0
      have d1 := HX3.cell 1
      have d2 := HX3.cell 2
      have d3 := HX3.cell 3
      have e0 := HY3.cell 0
      have e1 := HY3.cell 1
      have e2 := HY3.cell 2
      have e3 := HY3.cell 3
      clear HY3
      go_wp2
      have z4 := (((HX3.set 0 (.int .i64 (a : Int))).set 1 (.int .i64 (b : Int))).set 2 (.int .i64 (c : Int))).set 3 (.int .i64 (d : Int))
      simp only [List.setIfInBounds_toArray, List.set_cons_zero, List.set_cons_succ] at z4
      have HB4 := Lib.hid ((((HB3.out.setCell (p := ⟨b1, 0, none⟩) hbw (.int .i64 (a : Int))).setCell (p := ⟨b1, 1, none⟩) hbw (.int .i64 (b : Int))).setCell (p := ⟨b1, 2, none⟩) hbw (.int .i64 (c : Int))).setCell (p := ⟨b1, 3, none⟩) hbw (.int .i64 (d : Int)))
      generalize ((((V.setCell ⟨b1, 0, none⟩ (.int .i64 (a : Int))).setCell ⟨b1, 1, none⟩ (.int .i64 (b : Int))).setCell ⟨b1, 2, none⟩ (.int .i64 (c : Int))).setCell ⟨b1, 3, none⟩ (.int .i64 (d : Int))) = Y at *
      have q0 := z4.cell 0
      have q1 := z4.cell 1
      have q2 := z4.cell 2
      have q3 := z4.cell 3
      refine bodyPost_ret (v := .tuple #[.agg #[.int .i64 (a : Int), .int .i64 (b : Int), .int .i64 (c : Int), .int .i64 (d : Int)], .bool true, .int .i64 0]) (by simp [results, Tryd.f25, go_sem, q0, q1, q2, q3]) rfl ?_
      exact ⟨.inr (.inl ⟨a, b, c, d, rfl, HOK.out, HTT.out⟩), HB4.out⟩
    · have HTT := Lib.hid hno
      clear hno HT
      have HB2' := Lib.hid (HBW.out.trans (HB2.out.mono hw1))
      have HX2 := Lib.hid (HX1.out.below HB2.out hbw1)
      have HX3 := HX2.out.alloc (.cells #[.int .i64 0, .int .i64 0, .int .i64 0, .int .i64 0] 45)
      have HY3 : BoxN (w2.alloc (.cells #[.int .i64 0, .int .i64 0, .int .i64 0, .int .i64 0] 45)) w2.heap.size 45 #[.int .i64 0, .int .i64 0, .int .i64 0, .int .i64 0] := BoxN.new rfl
      have HB3 := Lib.hid (HB2'.out.alloc HB2'.out.size (.cells #[.int .i64 0, .int .i64 0, .int .i64 0, .int .i64 0] 45))
      generalize w2.alloc (.cells #[.int .i64 0, .int .i64 0, .int .i64 0, .int .i64 0] 45) = V at *
      have f0 := HX3.frozen 0
      have f1 := HX3.frozen 1
      have f2 := HX3.frozen 2
      have f3 := HX3.frozen 3
      have d0 := HX3.cell 0
      have d1 := HX3.cell 1
      have d2 := HX3.cell 2
      have d3 := HX3.cell 3
      have e0 := HY3.cell 0
      have e1 := HY3.cell 1
      have e2 := HY3.cell 2
      have e3 := HY3.cell 3
      clear HY3
      go_wp2
      have z4 := (((HX3.set 0 (.int .i64 0)).set 1 (.int .i64 0)).set 2 (.int .i64 0)).set 3 (.int .i64 0)
      simp only [List.setIfInBounds_toArray, List.set_cons_zero, List.set_cons_succ] at z4
      have HB4 := Lib.hid ((((HB3.out.setCell (p := ⟨b1, 0, none⟩) hbw (.int .i64 0)).setCell (p := ⟨b1, 1, none⟩) hbw (.int .i64 0)).setCell (p := ⟨b1, 2, none⟩) hbw (.int .i64 0)).setCell (p := ⟨b1, 3, none⟩) hbw (.int .i64 0))
      generalize ((((V.setCell ⟨b1, 0, none⟩ (.int .i64 0)).setCell ⟨b1, 1, none⟩ (.int .i64 0)).setCell ⟨b1, 2, none⟩ (.int .i64 0)).setCell ⟨b1, 3, none⟩ (.int .i64 0)) = Y at *
      have q0 := z4.cell 0
      have q1 := z4.cell 1
      have q2 := z4.cell 2
      have q3 := z4.cell 3
      refine bodyPost_ret (v := .tuple #[.agg #[.int .i64 0, .int .i64 0, .int .i64 0, .int .i64 0], .bool false, .int .i64 0]) (by simp [results, Tryd.f25, go_sem, q0, q1, q2, q3]) rfl ?_
      exact ⟨.inr (.inr ⟨rfl, HOK.out, HTT.out⟩), HB4.out⟩
/-- what ThreeOne answers -/
def ThreeTA (n : Nat) (ln : Nat → Nat) (r : Nat → Nat → Bool) (e : Ending) : Prop :=
  (e = .returned (.tuple #[.agg #[.int .i64 0, .int .i64 0, .int .i64 0, .int .i64 0], .bool false, .int .i64 100]) ∧ ¬ TabOK n ln r) ∨
  (∃ a b c d : Nat, e = .returned (.tuple #[.agg #[.int .i64 (a : Int), .int .i64 (b : Int), .int .i64 (c : Int), .int .i64 (d : Int)], .bool true, .int .i64 0]) ∧ TabOK n ln r ∧ ThreeOne n r a b c d) ∨
  (e = .returned (.tuple #[.agg #[.int .i64 0, .int .i64 0, .int .i64 0, .int .i64 0], .bool false, .int .i64 0]) ∧ TabOK n ln r ∧ ∀ a b c d, ¬ ThreeOne n r a b c d)
set_option maxRecDepth 100000 in
set_option maxHeartbeats 1000000 in
theorem ThreeOne_any (la : Option Addr) (n lc : Nat) (ln : Nat → Nat) (r : Nat → Nat → Bool) (w : World) (hn : n ≤ 1099511627776) (hTb : Tab w) (hT : TblI w la n ln r) :
    Calls Tryd.prog 45 #[.slice la n lc] w fun e w' => ThreeTA n ln r e ∧ Below w.heap.size w w' := by
  have HB0 : Hid (Below w.heap.size w (w.alloc (.cells #[.int .i64 0, .int .i64 0, .int .i64 0, .int .i64 0] 45))) := (Below.refl _ _).alloc (Nat.le_refl _) _
  have HX0 : Hid (BoxN (w.alloc (.cells #[.int .i64 0, .int .i64 0, .int .i64 0, .int .i64 0] 45)) w.heap.size 45 #[.int .i64 0, .int .i64 0, .int .i64 0, .int .i64 0]) := BoxN.new rfl
  have HC := Lib.hid (open_any la n lc ln r _ hn (hT.below HB0.out (Nat.le_refl _)))
  have HTb := Lib.hid (hTb.below HB0.out (Nat.le_refl _))
  clear hT hTb
  go_enter Tryd.func45, Tryd.ntmps45
  go_upto_region 1 with (fail)
  obtain ⟨b1, hb1⟩ : ∃ b1, Hid (b1 = w.heap.size) := ⟨_, rfl⟩
  rw [← hb1.out] at HX0
  simp only [← hb1.out]
  generalize w.alloc (.cells #[.int .i64 0, .int .i64 0, .int .i64 0, .int .i64 0] 45) = X at *
  have hwX : w.heap.size ≤ X.heap.size := HB0.out.size
  have hbX : b1 < X.heap.size := HX0.out.lt
  have hbw : w.heap.size ≤ b1 := Nat.le_of_eq hb1.out.symm
  go_upto_region 2 with (go_at_call 55; refine HC.out.mono ?_; rintro e w1 ⟨ha, hB1⟩; have HB1 := Lib.hid hB1; clear hB1; rcases ha with ⟨rfl, hno⟩ | ⟨B, rfl, hok, hB, hO⟩)
  · have HNO := Lib.hid hno
    have HX1 := HX0.out.below HB1.out hbX
    have f0 := HX1.frozen 0
    have f1 := HX1.frozen 1
    have f2 := HX1.frozen 2
    have f3 := HX1.frozen 3
    have d0 := HX1.cell 0
    have d1 := HX1.cell 1
    have d2 := HX1.cell 2
    have d3 := HX1.cell 3
    clear hno
    go_wp2
    have z4 := (((HX1.set 0 (.int .i64 0)).set 1 (.int .i64 0)).set 2 (.int .i64 0)).set 3 (.int .i64 0)
    simp only [List.setIfInBounds_toArray, List.set_cons_zero, List.set_cons_succ] at z4
    have HB4 := Lib.hid (((((HB0.out.trans (HB1.out.mono hwX)).setCell (p := ⟨b1, 0, none⟩) hbw (.int .i64 0)).setCell (p := ⟨b1, 1, none⟩) hbw (.int .i64 0)).setCell (p := ⟨b1, 2, none⟩) hbw (.int .i64 0)).setCell (p := ⟨b1, 3, none⟩) hbw (.int .i64 0))
    generalize ((((w1.setCell ⟨b1, 0, none⟩ (.int .i64 0)).setCell ⟨b1, 1, none⟩ (.int .i64 0)).setCell ⟨b1, 2, none⟩ (.int .i64 0)).setCell ⟨b1, 3, none⟩ (.int .i64 0)) = Y at *
    have q0 := z4.cell 0
    have q1 := z4.cell 1
    have q2 := z4.cell 2
    have q3 := z4.cell 3
    refine bodyPost_ret (v := .tuple #[.agg #[.int .i64 0, .int .i64 0, .int .i64 0, .int .i64 0], .bool false, .int .i64 100]) (by simp [results, Tryd.f45, go_sem, q0, q1, q2, q3]) rfl ?_
    exact ⟨.inl ⟨rfl, HNO.out⟩, HB4.out⟩
  · have HOK := Lib.hid hok
    have HX1 := Lib.hid (HX0.out.below HB1.out hbX)
    have hw1 : w.heap.size ≤ w1.heap.size := Nat.le_trans hwX HB1.out.size
    have HT := Lib.hid (threeOne_any B n r w1 hok.n1 hok.n12 (HTb.out.below HB1.out (Nat.le_refl _)) hO)
    have HBW := Lib.hid (HB0.out.trans (HB1.out.mono hwX))
    clear hok hO HC
    go_upto_region 4 with (fail)
    have hbw1 : b1 < w1.heap.size := HX1.out.lt
    go_upto_region 5 with (go_at_call 68; refine HT.out.mono ?_; rintro e w2 ⟨ha, hB2⟩; have HB2 := Lib.hid hB2; clear hB2; rcases ha with ⟨a, b, c, d, rfl, htt⟩ | ⟨rfl, hno⟩)
    · have HTT := Lib.hid htt
      clear htt HT
      have HB2' := Lib.hid (HBW.out.trans (HB2.out.mono hw1))
      have HX2 := Lib.hid (HX1.out.below HB2.out hbw1)
      have HX3 := HX2.out.alloc (.cells #[.int .i64 (a : Int), .int .i64 (b : Int), .int .i64 (c : Int), .int .i64 (d : Int)] 45)
      have HY3 : BoxN (w2.alloc (.cells #[.int .i64 (a : Int), .int .i64 (b : Int), .int .i64 (c : Int), .int .i64 (d : Int)] 45)) w2.heap.size 45 #[.int .i64 (a : Int), .int .i64 (b : Int), .int .i64 (c : Int), .int .i64 (d : Int)] := BoxN.new rfl
      have HB3 := Lib.hid (HB2'.out.alloc HB2'.out.size (.cells #[.int .i64 (a : Int), .int .i64 (b : Int), .int .i64 (c : Int), .int .i64 (d : Int)] 45))
      generalize w2.alloc (.cells #[.int .i64 (a : Int), .int .i64 (b : Int), .int .i64 (c : Int), .int .i64 (d : Int)] 45) = V at *
      have f0 := HX3.frozen 0
      have f1 := HX3.frozen 1
      have f2 := HX3.frozen 2
      have f3 := HX3.frozen 3
      have d0 := HX3.cell 0
      have d1 := HX3.cell 1
      have d2 := HX3.cell 2
      have d3 := HX3.cell 3
      have e0 := HY3.cell 0
      have e1 := HY3.cell 1
      have e2 := HY3.cell 2
      have e3 := HY3.cell 3
      clear HY3
      go_wp2
      have z4 := (((HX3.set 0 (.int .i64 (a : Int))).set 1 (.int .i64 (b : Int))).set 2 (.int .i64 (c : Int))).set 3 (.int .i64 (d : Int))
      simp only [List.setIfInBounds_toArray, List.set_cons_zero, List.set_cons_succ] at z4
      have HB4 := Lib.hid ((((HB3.out.setCell (p := ⟨b1, 0, none⟩) hbw (.int .i64 (a : Int))).setCell (p := ⟨b1, 1, none⟩) hbw (.int .i64 (b : Int))).setCell (p := ⟨b1, 2, none⟩) hbw (.int .i64 (c : Int))).setCell (p := ⟨b1, 3, none⟩) hbw (.int .i64 (d : Int)))
      generalize ((((V.setCell ⟨b1, 0, none⟩ (.int .i64 (a : Int))).setCell ⟨b1, 1, none⟩ (.int .i64 (b : Int))).setCell ⟨b1, 2, none⟩ (.int .i64 (c : Int))).setCell ⟨b1, 3, none⟩ (.int .i64 (d : Int))) = Y at *
      have q0 := z4.cell 0
      have q1 := z4.cell 1
      have q2 := z4.cell 2
      have q3 := z4.cell 3
      refine bodyPost_ret (v := .tuple #[.agg #[.int .i64 (a : Int), .int .i64 (b : Int), .int .i64 (c : Int), .int .i64 (d : Int)], .bool true, .int .i64 0]) (by simp [results, Tryd.f45, go_sem, q0, q1, q2, q3]) rfl ?_
      exact ⟨.inr (.inl ⟨a, b, c, d, rfl, HOK.out, HTT.out⟩), HB4.out⟩
    · have HTT := Lib.hid hno
      clear hno HT
      have HB2' := Lib.hid (HBW.out.trans (HB2.out.mono hw1))
      have HX2 := Lib.hid (HX1.out.below HB2.out hbw1)
      have HX3 := HX2.out.alloc (.cells #[.int .i64 0, .int .i64 0, .int .i64 0, .int .i64 0] 45)
      have HY3 : BoxN (w2.alloc (.cells #[.int .i64 0, .int .i64 0, .int .i64 0, .int .i64 0] 45)) w2.heap.size 45 #[.int .i64 0, .int .i64 0, .int .i64 0, .int .i64 0] := BoxN.new rfl
      have HB3 := Lib.hid (HB2'.out.alloc HB2'.out.size (.cells #[.int .i64 0, .int .i64 0, .int .i64 0, .int .i64 0] 45))
      generalize w2.alloc (.cells #[.int .i64 0, .int .i64 0, .int .i64 0, .int .i64 0] 45) = V at *
      have f0 := HX3.frozen 0
      have f1 := HX3.frozen 1
      have f2 := HX3.frozen 2
      have f3 := HX3.frozen 3
      have d0 := HX3.cell 0
      have d1 := HX3.cell 1
      have d2 := HX3.cell 2
      have d3 := HX3.cell 3
      have e0 := HY3.cell 0
      have e1 := HY3.cell 1
      have e2 := HY3.cell 2
      have e3 := HY3.cell 3
      clear HY3
      go_wp2
      have z4 := (((HX3.set 0 (.int .i64 0)).set 1 (.int .i64 0)).set 2 (.int .i64 0)).set 3 (.int .i64 0)
      simp only [List.setIfInBounds_toArray, List.set_cons_zero, List.set_cons_succ] at z4
      have HB4 := Lib.hid ((((HB3.out.setCell (p := ⟨b1, 0, none⟩) hbw (.int .i64 0)).setCell (p := ⟨b1, 1, none⟩) hbw (.int .i64 0)).setCell (p := ⟨b1, 2, none⟩) hbw (.int .i64 0)).setCell (p := ⟨b1, 3, none⟩) hbw (.int .i64 0))
      generalize ((((V.setCell ⟨b1, 0, none⟩ (.int .i64 0)).setCell ⟨b1, 1, none⟩ (.int .i64 0)).setCell ⟨b1, 2, none⟩ (.int .i64 0)).setCell ⟨b1, 3, none⟩ (.int .i64 0)) = Y at *
      have q0 := z4.cell 0
      have q1 := z4.cell 1
      have q2 := z4.cell 2
      have q3 := z4.cell 3
      refine bodyPost_ret (v := .tuple #[.agg #[.int .i64 0, .int .i64 0, .int .i64 0, .int .i64 0], .bool false, .int .i64 0]) (by simp [results, Tryd.f45, go_sem, q0, q1, q2, q3]) rfl ?_
      exact ⟨.inr (.inr ⟨rfl, HOK.out, HTT.out⟩), HB4.out⟩
end Go.Proofs.YtgpijajgaclhfaaDoor
