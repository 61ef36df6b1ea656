/- strings.Builder in a slice: walks. The patterns of a schedule: walk. -/
import Derived.Test.YtocnhikohfkcaaaG319
import Derived.Lib.Builder
import Derived.Lib.UnsafeStr
import Derived.Maps.AppendAt
import Derived.Lib.BufferWrite
set_option linter.unusedVariables false
set_option linter.unusedSimpArgs false
namespace Go.Proofs.Ytocnhikohfkcaaa
open Go.RowKit Go.Shelf
attribute [local go_sem] Oper.semAt_some

def u8s (l : List UInt8) : List Value := l.map fun b => Value.int .u8 (b.toNat : Int)
/-- builders in a row: what each has got -/
structure BldR (W : World) (S Bl n : Nat) (f : Nat → List UInt8) (g : Nat → Value) (vs : Array Value) : Prop where
  box : BoxN W Bl 96 vs
  sz : vs.size = n * 2
  lt : Bl < S
  adr : ∀ i, i < n → vs[i * 2]? = some (.pointer none) ∨ vs[i * 2]? = some (.pointer (some ⟨Bl, i * 2, none⟩))
  buf : ∀ i, i < n → vs[i * 2 + 1]? = some (g i)
  row : ∀ i, i < n → W.ownsRow S 5 1 (g i) (f i).length (u8s (f i))
  own : ∀ i j k, i < n → j < n → (g i).ownBlock = some k → (g j).ownBlock = some k → i = j
theorem lies16_ok : ((List.range 17).all fun n => (List.range n).all fun i => liesAt Try.prog Try.prog.depth 96 (n * 2 / Try.prog.cellsOf 96) (i * 2) 96 1) = true := by decide +kernel
theorem lies_at {n i : Nat} (hn : n ≤ 16) (hi : i < n) : liesAt Try.prog Try.prog.depth 96 (n * 2 / Try.prog.cellsOf 96) (i * 2) 96 1 = true :=
  List.all_eq_true.1 (List.all_eq_true.1 lies16_ok n (List.mem_range.2 (by omega))) i (List.mem_range.2 hi)
theorem sizeBld : (Try.prog.info? 96).map (·.size) = some 2 := by kernel_rfl
set_option maxRecDepth 100000 in
theorem copyCheck_some (B o : Nat) (W : World) (hc : W.cell? ⟨B, o, none⟩ = some (.pointer (some ⟨B, o, none⟩))) :
    Calls Try.prog 71 #[.pointer (some ⟨B, o, none⟩)] W fun e W' => e = .returned (.tuple #[]) ∧ W' = W := by
  obtain ⟨j, hj, _⟩ := Option.map_eq_some_iff.1 sizeBld
  go_enter Try.func71, Try.ntmps71
  go_wp2
  rw [Lib.run_neq_ptr_same W _ Try.underlying93 hj]
  go_wp2
  go_end0
  exact ⟨rfl, rfl⟩
set_option maxRecDepth 100000 in
theorem copyCheck_none (B n i : Nat) (vs : Array Value) (W : World) (hn : n ≤ 16) (hi : i < n) (hb : BoxN W B 96 vs) (hs : vs.size = n * 2) (hc : vs[i * 2]? = some (.pointer none)) :
    Calls Try.prog 71 #[.pointer (some ⟨B, i * 2, none⟩)] W fun e W' => e = .returned (.tuple #[]) ∧ W' = W.setCell ⟨B, i * 2, none⟩ (.pointer (some ⟨B, i * 2, none⟩)) := by
  obtain ⟨j, hj, hjs⟩ := Option.map_eq_some_iff.1 sizeBld
  have hsh : W.shape? B = some (96, n * 2) := by
    have : W.heap[B]? = _ := hb
    simp [World.shape?, this, hs]
  have c0 : W.cell? ⟨B, i * 2, none⟩ = some (.pointer none) := by rw [hb.cell]; exact hc
  have f0 := hb.frozen (i * 2)
  have c2 : (W.setCell ⟨B, i * 2, none⟩ (.pointer (some ⟨B, i * 2, none⟩))).cell? ⟨B, i * 2, none⟩ = some (.pointer (some ⟨B, i * 2, none⟩)) := by
    rw [(hb.set (i * 2) _).cell, Array.getElem?_setIfInBounds_self_of_lt (by omega)]
  have HL := Lib.hid (lies_at hn hi)
  have HB := Lib.hid hb
  clear hb hs hc
  go_enter Try.func71, Try.ntmps71
  go_wp2
  rw [Lib.run_to_unsafe W ⟨B, i * 2, none⟩ Try.underlying93 Try.underlying117 hj (by rw [hjs]; decide) hsh (show i * 2 < n * 2 by omega)]
  simp only [Result.andThen]
  rw [Oper.upon_value]
  go_wp2
  rw [run_callFunc_extern Try.func84 (by kernel_rfl) (by kernel_rfl) (by kernel_rfl) (e := Extern.AbiNoEscape.same) (by kernel_rfl)]
  rw [Lib.run_noEscape]
  simp only [Result.andThen]
  rw [Oper.upon_value]
  go_wp2
  rw [Lib.run_from_unsafe W ⟨B, i * 2, none⟩ Try.underlying117 Try.underlying93 hj hsh HL.out]
  simp only [Result.andThen]
  rw [Oper.upon_value]
  go_wp2
  go_end0
  exact ⟨rfl, rfl⟩
/-- one entry changed -/
def updF {α : Type} (f : Nat → α) (i : Nat) (x : α) (j : Nat) : α := if j = i then x else f j
theorem updF_self {α : Type} (f : Nat → α) (i : Nat) (x : α) : updF f i x i = x := by unfold updF; rw [if_pos rfl]
theorem updF_ne {α : Type} (f : Nat → α) {i j : Nat} (x : α) (h : j ≠ i) : updF f i x j = f j := by unfold updF; rw [if_neg h]
section
variable {W W3 : World} {S Bl n i : Nat} {f : Nat → List UInt8} {g : Nat → Value} {vs : Array Value}
theorem BldR.keep {W' : World} (h : BldR W S Bl n f g vs) (hg : W.grownBy W' none) : BldR W' S Bl n f g vs :=
  ⟨h.box.kept hg (by simp), h.sz, h.lt, h.adr, h.buf, fun i hi => (h.row i hi).kept hg (by cases (g i).ownBlock <;> simp), h.own⟩
theorem BldR.mark (h : BldR W S Bl n f g vs) (hi : i < n) : BldR (W.setCell ⟨Bl, i * 2, none⟩ (.pointer (some ⟨Bl, i * 2, none⟩))) S Bl n f g (vs.setIfInBounds (i * 2) (.pointer (some ⟨Bl, i * 2, none⟩))) := by
  refine ⟨h.box.set _ _, by simpa using h.sz, h.lt, fun j hj => ?_, fun j hj => ?_, fun j hj => ?_, h.own⟩
  · by_cases e : j = i
    · subst e
      right
      rw [Array.getElem?_setIfInBounds_self_of_lt (by rw [h.sz]; omega)]
    · rw [Array.getElem?_setIfInBounds_ne (by omega)]; exact h.adr j hj
  · rw [Array.getElem?_setIfInBounds_ne (by omega)]; exact h.buf j hj
  · refine (h.row j hj).kept (Lib.grownBy_setCell W Bl _ _) ?_
    cases e : (g j).ownBlock with
    | none => exact .inl rfl
    | some k => right; intro e2; injection e2 with e2; have := ((h.row j hj).lt k e).1; have := h.lt; omega
theorem BldR.push {v' : Value} {K0 : Nat} {c : UInt8} (h : BldR W S Bl n f g vs) (hi : i < n) (hg : W.grownBy W3 (g i).ownBlock) (hr : W3.ownsRow S 5 1 v' ((f i).length + 1) (u8s (f i) ++ [.int .u8 (c.toNat : Int)]))
    (hv : v'.ownBlock = (g i).ownBlock ∨ v'.ownBlock = some K0) (hK0 : W.heap.size ≤ K0) :
    BldR (W3.setCell ⟨Bl, i * 2 + 1, none⟩ v') S Bl n (updF f i (f i ++ [c])) (updF g i v') (vs.setIfInBounds (i * 2 + 1) v') := by
  have hBl : ∀ v xs l, W3.ownsRow S 5 1 v l xs → (W3.setCell ⟨Bl, i * 2 + 1, none⟩ v').ownsRow S 5 1 v l xs := fun v xs l h1 => by
    refine h1.kept (Lib.grownBy_setCell W3 Bl _ _) ?_
    cases e : v.ownBlock with
    | none => exact .inl rfl
    | some k => right; intro e2; injection e2 with e2; have := (h1.lt k e).1; have := h.lt; omega
  have hrow : ∀ j, j < n → j ≠ i → W3.ownsRow S 5 1 (g j) (f j).length (u8s (f j)) := fun j hj hne => by
    refine (h.row j hj).kept hg ?_
    cases e : (g j).ownBlock with
    | none => exact .inl rfl
    | some k => right; intro e2; exact hne (h.own j i k hj hi e e2.symm)
  have hbx : BoxN W3 Bl 96 vs := h.box.kept hg (fun e => by have := ((h.row i hi).lt Bl e.symm).1; have := h.lt; omega)
  refine ⟨hbx.set _ _, by simpa using h.sz, h.lt, fun j hj => ?_, fun j hj => ?_, fun j hj => ?_, fun a b k ha hb ea eb => ?_⟩
  · rw [Array.getElem?_setIfInBounds_ne (by omega)]; exact h.adr j hj
  · by_cases e : j = i
    · subst e
      rw [updF_self, Array.getElem?_setIfInBounds_self_of_lt (by rw [h.sz]; omega)]
    · rw [updF_ne _ _ e, Array.getElem?_setIfInBounds_ne (by omega)]; exact h.buf j hj
  · by_cases e : j = i
    · subst e
      rw [updF_self, updF_self]
      have := hBl _ _ _ hr
      simpa [u8s] using this
    · rw [updF_ne _ _ e, updF_ne _ _ e]; exact hBl _ _ _ (hrow j hj e)
  · have key : ∀ a, a < n → a ≠ i → (g a).ownBlock = some k → v'.ownBlock = some k → False := fun a ha hne e1 e2 => by
      rcases hv with hv | hv
      · exact hne (h.own a i k ha hi e1 (hv.symm.trans e2))
      · rw [hv] at e2
        cases e2
        have := ((h.row a ha).lt _ e1).2
        omega
    by_cases e1 : a = i
    · by_cases e2 : b = i
      · rw [e1, e2]
      · subst e1
        rw [updF_self] at ea
        rw [updF_ne _ _ e2] at eb
        exact absurd (key b hb e2 eb ea) (fun h => h)
    · rw [updF_ne _ _ e1] at ea
      by_cases e2 : b = i
      · subst e2
        rw [updF_self] at eb
        exact absurd (key a ha e1 ea eb) (fun h => h)
      · rw [updF_ne _ _ e2] at eb
        exact h.own a b k ha hb ea eb
end
/-- blocks that a builder's writing may turn -/
def bytesFrom (S Bl : Nat) (W : World) (j : Nat) : Prop := j = Bl ∨ (S ≤ j ∧ ∃ cur, W.heap[j]? = some (.cells cur 5 (0, 0)))
theorem infoByte : (Try.prog.info? 5).map (fun i => (i.zero, i.size, i.bytes)) = some (some (.int .u8 0), 1, 1) := by kernel_rfl
set_option maxRecDepth 100000 in
theorem WriteByte_any (S Bl n i : Nat) (c : UInt8) (f : Nat → List UInt8) (g : Nat → Value) (vs : Array Value) (W : World) (hn : n ≤ 16) (hi : i < n) (hB : BldR W S Bl n f g vs) (hS : S ≤ W.heap.size) (hlen : (f i).length < 200) :
    Calls Try.prog 64 #[.pointer (some ⟨Bl, i * 2, none⟩), .int .u8 (c.toNat : Int)] W fun e W' => e = .returned .nilIface ∧ (∃ g' vs', BldR W' S Bl n (updF f i (f i ++ [c])) g' vs') ∧ Ag (bytesFrom S Bl W) W W' := by
  obtain ⟨i0, hi0, hz0, hz1, hz2⟩ := info_parts infoByte
  obtain ⟨cc, hcc⟩ : ∃ cc, (c.toNat : Int) = cc := ⟨_, rfl⟩
  rw [hcc]
  have hcopy : ∃ W1 vs1, Calls Try.prog 71 #[.pointer (some ⟨Bl, i * 2, none⟩)] W (fun e W' => e = .returned (.tuple #[]) ∧ W' = W1) ∧ BldR W1 S Bl n f g vs1 ∧ Ag (· = Bl) W W1 ∧ W1.heap.size = W.heap.size := by
    rcases hB.adr i hi with h0 | h0
    · exact ⟨_, _, copyCheck_none Bl n i vs W hn hi hB.box hB.sz h0, hB.mark hi, (Ag.refl _ W).set ⟨Bl, i * 2, none⟩ _ (.inr rfl), by simp⟩
    · exact ⟨W, vs, copyCheck_some Bl (i * 2) W (by rw [hB.box.cell]; exact h0), hB, Ag.refl _ W, rfl⟩
  obtain ⟨W1, vs1, hc, hB1, hA1, hs1⟩ := hcopy
  have HB1 := Lib.hid hB1
  have HA1 := Lib.hid hA1
  have HC := Lib.hid hc
  have c1 : W1.cell? ⟨Bl, i * 2 + 1, none⟩ = some (g i) := by rw [hB1.box.cell]; exact hB1.buf i hi
  have HS1 := Lib.hid hs1
  have hS1 : S ≤ W1.heap.size := by omega
  clear hB1 hA1 hc hs1 hB
  go_enter Try.func64, Try.ntmps64
  go_upto_region 2 with (go_at_call 71; refine HC.out.mono ?_; rintro e w4 ⟨rfl, hw4⟩; replace hw4 := hw4.symm; subst hw4; try dsimp only)
  have HBA := Lib.hid (HB1.out.keep (World.grownBy_alloc W1 (.cells #[.int .u8 cc] 5) none))
  have HSA : Hid (S ≤ (W1.alloc (.cells #[.int .u8 cc] 5)).heap.size) := by unfold Hid; simp; omega
  have HAA : Hid (Ag (· = Bl) W (W1.alloc (.cells #[.int .u8 cc] 5))) := HA1.out.alloc _
  go_wp2_with (at_builtin; go_must (refine wpList_append_own_at _ rfl (.tmp 11) (.tmp 13) 94 rfl S 5 i0 (.int .u8 0) 1 1 Try.underlying94 hi0 hz0 hz1 hz2 rfl (by decide) (g i) (f i).length (u8s (f i)) rfl (HBA.out.row i hi) ⟨_, 0, none⟩ 1 1 [.int .u8 cc] rfl rfl (cells_new1 _ _ _) (by simp [Value.oneCell']) (by unfold maxLen; omega) (by omega) HSA.out ?_); intro v7 w7 hq7 hg7 _ ho7; obtain ⟨pq, cq, hv7⟩ := (QRow.of_own hq7).isSlice; subst hv7; have HP7 := Lib.hid (HBA.out.push (c := c) hi hg7 (by rw [hcc]; exact hq7) ho7 (Nat.le_refl _)); have HX7 : Hid (BoxN w7 Bl 96 vs1) := HBA.out.box.kept hg7 (fun e => by have := ((HBA.out.row i hi).lt Bl e.symm).1; have := HB1.out.lt; omega); have f7 := HX7.out.frozen (i * 2 + 1); have c7 : w7.cell? ⟨Bl, i * 2 + 1, none⟩ = some (g i) := (by rw [HX7.out.cell]; exact HB1.out.buf i hi); have HG7 := Lib.hid hg7; clear hq7 hg7 ho7)
  go_ret
  refine ⟨rfl, ⟨_, _, HP7.out⟩, ?_⟩
  refine ((HAA.out.mono fun j hj => .inl hj).grown HG7.out fun k hk => ?_).set ⟨Bl, i * 2 + 1, none⟩ _ (.inr (.inl rfl))
  rcases Nat.lt_or_ge k W.heap.size with hlt | hge
  · right; right
    have h1 := (HB1.out.row i hi)
    refine ⟨(h1.lt k hk).1, ?_⟩
    rcases h1.2 with ⟨e, _⟩ | ⟨gg, cap, cur, e, _, e3, _⟩
    · rw [e] at hk; cases hk
    · rw [e] at hk
      cases hk
      exact ⟨cur, by rw [← e3]; exact (HA1.out.block _ hlt (fun e4 => by have e5 : gg = Bl := e4; have := (h1.lt gg (by rw [e]; rfl)).1; have := HB1.out.lt; omega)).symm⟩
  · exact .inl hge
theorem grown_freeze (W : World) (k m : Nat) : W.grownBy (W.freeze ⟨k, 0, none⟩ m) (some k) := by
  unfold World.freeze
  split
  · exact World.grownBy.refl W _
  · exact ⟨rfl, rfl, rfl, by simp, fun j hj hne => by
      have h : k ≠ j := fun e => hne (by rw [e])
      simp only [Array.getElem?_modify]
      rw [if_neg h]⟩
set_option maxRecDepth 100000 in
theorem String_at (S Bl i : Nat) (ll : List UInt8) (gi : Value) (vs : Array Value) (W : World) (hbx : BoxN W Bl 96 vs) (hbuf : vs[i * 2 + 1]? = some gi) (hrow : W.ownsRow S 5 1 gi ll.length (u8s ll)) (h0 : ll ≠ []) :
    Calls Try.prog 65 #[.pointer (some ⟨Bl, i * 2, none⟩)] W fun e W' => e = .returned (.string ⟨ll.toArray⟩) ∧ W.grownBy W' gi.ownBlock := by
  have hl0 : ll.length ≠ 0 := by simpa using h0
  obtain ⟨gg, cap, cur, hv, hbg, hg, hnc, hcm, hcs, htake⟩ : ∃ gg cap cur, gi = .slice (some ⟨gg, 0, none⟩) ll.length cap ∧ S ≤ gg ∧ W.heap[gg]? = some (.cells cur 5 (0, 0)) ∧ ll.length ≤ cap ∧ cap ≤ maxLen ∧ cur.size = cap * 1 ∧ cur.toList.take (ll.length * 1) = u8s ll := by
    rcases hrow.2 with ⟨_, hz⟩ | ⟨g, cap, cur, hv, r⟩
    · exact absurd hz hl0
    · exact ⟨g, cap, cur, hv, r⟩
  have c1 : W.drew.cell? ⟨Bl, i * 2 + 1, none⟩ = some (.slice (some ⟨gg, 0, none⟩) ll.length cap) := by
    have : W.cell? ⟨Bl, i * 2 + 1, none⟩ = _ := hbx.cell _
    show W.cell? _ = _
    rw [this, hbuf, hv]
  have hSD : (Builtin.unsafeSliceData_ #[94] 103 #[.slice (some ⟨gg, 0, none⟩) ll.length cap]).run Try.prog W.drew = .ok (.pointer (some ⟨gg, 0, none⟩)) W.drew :=
    Lib.run_unsafeSliceData_row _ _ _ _ _ _ (by omega)
  have hUS : (Builtin.unsafeString_ #[103, 3] 9 #[.pointer (some ⟨gg, 0, none⟩), .int .i64 ll.length]).run Try.prog W.drew = .ok (.string ⟨ll.toArray⟩) (W.drew.freeze ⟨gg, 0, none⟩ ll.length) := by
    refine Lib.run_unsafeString_row W.drew 103 3 9 5 Try.underlying103 (by kernel_rfl) gg cur.size (by have hg' : W.drew.heap[gg]? = some (.cells cur 5 (0, 0)) := hg; simp [World.shape?, hg']) ll h0 (by omega) (by unfold maxLen at hcm; omega) ?_
    intro j x hx
    have := hrow.cells (g := gg) (by rw [hv]; rfl) j (.int .u8 x.toNat) (by simp [u8s, hx])
    exact this
  have HO : Hid (gi.ownBlock = some gg) := by unfold Hid; rw [hv]; rfl
  clear hbx hbuf hrow hv hg htake
  go_enter Try.func65, Try.ntmps65
  go_wp2
  go_region
  all_goals (go_wp2; go_ret; exact ⟨rfl, by rw [HO.out]; exact (let h := grown_freeze W.drew gg ll.length; ⟨h.os, h.tape, h.output, h.size, h.block⟩)⟩)
end Go.Proofs.Ytocnhikohfkcaaa
namespace Go.Proofs.Ytocnhikohfkcaaa
open Go.RowKit Go.Shelf
attribute [local go_sem] Oper.semAt_some
/-- the same where the round is not wanted -/
theorem rf_box1 {k h : Nat} {m : Nat → Nat → Nat × Nat} {n : Nat} {g : Operand} {t1 t2 d2 : Nat} {i2 : Nat} {ty2 ty3 : TypeId} {p2 p3 : String} {e1 e2 : Edge} {body : Code} {Q : Exit → Act → World → Prop} {a : Act} {w : World}
    (h1 : 1 ≤ n) {gf : Nat} {lb : Array Value} (hg : a.eval g = .func (.func gf) #[] lb) (eg : ∀ args w, (callFunc gf args).run Try.prog w = .ok (.enter gf args) w)
    {K Bg : Nat} {S Sp : List (MtX k h) → Prop} {N : Nat} (hseq : SeqStopsK Fence.wide (n - 1) Try.prog gf lb (mtE m (k := k) (h := h)) (KeepsG K Bg) S Sp N w) (hKw : K ≤ w.heap.size) (hBw : Bg < w.heap.size)
    (ht1 : t1 < a.tmps.size) (ht2 : t2 < a.tmps.size) (hd2 : d2 < a.tmps.size) (ht12 : t1 ≠ t2) (htd2 : t2 ≠ d2) (I : List (MtX k h) → World → Prop) (Ix : Code → List (MtX k h) → World → Prop) (hI : OwnFrom w.heap.size I) (hIx : ∀ c, OwnFrom w.heap.size (Ix c)) (hIs : ∀ pre W, I pre W → w.heap.size ≤ W.heap.size) (h0 : I [] w)
    (hbody : ∀ (l : Nat) (pre : List (MtX k h)) (x : MtX k h) (W : World) (B8 : Nat), I pre W → w.heap.size ≤ B8 → BoxN W B8 58 #[.int .i64 ((m x.1.1 x.1.2).1 : Int), .int .i64 ((m x.1.1 x.1.2).2 : Int)] → pre.length < N →
      body.wpIn (Fence.wide.inRound l) (n - 1 - 1) Try.prog (ownPostG w.heap.size (KeepsG K Bg) I Ix (pre ++ [x]) W) { tmps := ((a.tmps.setIfInBounds t1 (.int .i64 (x.1.1 : Int))).setIfInBounds t2 (.agg #[.int .i64 ((m x.1.1 x.1.2).1 : Int), .int .i64 ((m x.1.1 x.1.2).2 : Int)])).setIfInBounds d2 (.pointer (some ⟨B8, 0, none⟩)), defers := [] } W)
    (hdone : ∀ (D : Nat) (xs : List (MtX k h)) (W : World), w.heap.size ≤ D → S xs → I xs W → W.heap[D]? = some (.deferred (some [])) → Q .normal { a with defers := { target := .collected D, args := #[] } :: a.defers } W)
    (hstop : ∀ (D : Nat) (c : Code) (pre : List (MtX k h)) (W : World), w.heap.size ≤ D → Sp pre → Ix c pre W → W.heap[D]? = some (.deferred (some [])) → c.wpIn Fence.wide n Try.prog Q { a with defers := { target := .collected D, args := #[] } :: a.defers } W) :
    (Code.rangeFunc g #[t1, t2] (Code.region i2 #[{ dst := some d2, op := Op.alloc 58, type := ty2, pos := p2, after := #[], guard := none }, { dst := none, op := Op.store 58 (Operand.tmp d2) (Operand.tmp t2), type := ty3, pos := p3, after := #[e1, e2], guard := none }] false) body).wpIn Fence.wide n Try.prog Q a w := by
  refine wpIn_rangeFunc_ownH rfl h1 hg trivial eg hseq (fun h k => keepsG_t h k) (keepsG_b hKw hBw) (Below.refl _ _) (fun _ => rfl) I Ix hI hIx h0
    (fun x a' W => ∃ B8, a' = { tmps := ((a.tmps.setIfInBounds t1 (.int .i64 (x.1.1 : Int))).setIfInBounds t2 (.agg #[.int .i64 ((m x.1.1 x.1.2).1 : Int), .int .i64 ((m x.1.1 x.1.2).2 : Int)])).setIfInBounds d2 (.pointer (some ⟨B8, 0, none⟩)), defers := [] } ∧ w.heap.size ≤ B8 ∧ BoxN W B8 58 #[.int .i64 ((m x.1.1 x.1.2).1 : Int), .int .i64 ((m x.1.1 x.1.2).2 : Int)])
    (fun x a' _ A C row hs hg hr => ?_) ?_ (fun l pre x a' W _ _ hi ha hl => ?_) hdone hstop
  · obtain ⟨B8, e, hb, hx⟩ := hs
    refine ⟨B8, e, hb, hx.kept hg (fun e2 => ?_)⟩
    obtain ⟨_, o, ho, hc⟩ := hr B8 e2.symm
    rw [show A.heap[B8]? = _ from hx] at ho
    cases ho
    cases hc
  · intro l pre x W KK hi hK
    have hsz := hIs pre W hi
    obtain ⟨u, hu⟩ : ∃ u, (m x.1.1 x.1.2).1 = u := ⟨_, rfl⟩
    obtain ⟨v, hv⟩ : ∃ v, (m x.1.1 x.1.2).2 = v := ⟨_, rfl⟩
    have e : (Array.zip #[t1, t2] (mtE m x)).foldl (fun t (p, v) => t.setIfInBounds p v) a.tmps = (a.tmps.setIfInBounds t1 (.int .i64 (x.1.1 : Int))).setIfInBounds t2 (.agg #[.int .i64 (u : Int), .int .i64 (v : Int)]) := by unfold mtE; rw [hu, hv]; simp
    rw [e]
    rw [hu, hv] at hK
    have hv2 : ∀ q : Value, (((a.tmps.setIfInBounds t1 (Value.int .i64 (x.1.1 : Int))).setIfInBounds t2 (.agg #[.int .i64 (u : Int), .int .i64 (v : Int)])).setIfInBounds d2 q).getD t2 undef = .agg #[.int .i64 (u : Int), .int .i64 (v : Int)] := fun q => by
      rw [Array.getD_eq_getD_getElem?, Array.getElem?_setIfInBounds_ne htd2.symm, Array.getElem?_setIfInBounds_self_of_lt (by simpa using ht2)]; rfl
    have hv3 : ∀ q : Value, (((a.tmps.setIfInBounds t1 (Value.int .i64 (x.1.1 : Int))).setIfInBounds t2 (.agg #[.int .i64 (u : Int), .int .i64 (v : Int)])).setIfInBounds d2 q).getD d2 undef = q := fun q => by
      rw [Array.getD_eq_getD_getElem?, Array.getElem?_setIfInBounds_self_of_lt (by simpa using hd2)]; rfl
    have hKA := Lib.hid (hK _ (W.alloc (.cells #[.int .i64 (u : Int), .int .i64 (v : Int)] 58)) ⟨by simp, fun kk o _ ho _ => (World.grownBy_alloc W _ none).block kk (Array.getElem?_eq_some_iff.1 ho).1 (by simp) |>.trans ho⟩ (KeepsG.of_below ((Below.refl W.heap.size W).alloc (Nat.le_refl _) _) (by omega) (by omega)) (hI.alloc _ hi) ⟨W.heap.size, rfl, by omega, BoxN.new rfl⟩)
    clear hK
    gi_wp2
    exact hKA.out
  · obtain ⟨B8, rfl, hb, hx⟩ := ha
    exact hbody l pre x W B8 hi hb hx hl
/-- a boat's pattern -/
def patU (ms : List (Nat × Nat)) (i : Nat) : List UInt8 := (patB ms i).map UInt8.ofNat
theorem patU_snoc (ms : List (Nat × Nat)) (u v : Nat) (hne : u ≠ v) (j : Nat) : updF (updF (patU ms) u (patU ms u ++ [72])) v (updF (patU ms) u (patU ms u ++ [72]) v ++ [65]) j = patU (ms ++ [(u, v)]) j := by
  unfold patU
  rw [patB_snoc, List.map_append]
  by_cases h1 : j = v
  · subst h1
    rw [updF_self, updF_ne _ _ (Ne.symm hne), if_neg hne, if_pos rfl]; rfl
  · rw [updF_ne _ _ h1]
    by_cases h2 : j = u
    · subst h2
      rw [updF_self, if_pos rfl]; rfl
    · rw [updF_ne _ _ h2, if_neg (Ne.symm h2), if_neg (Ne.symm h1)]; simp
theorem patU_len (ms : List (Nat × Nat)) (i : Nat) : (patU ms i).length ≤ ms.length := by unfold patU; rw [List.length_map]; exact patB_len ms i
def preM {k h : Nat} (m : Nat → Nat → Nat × Nat) (pre : List (MtX k h)) : List (Nat × Nat) := pre.map fun x => m x.1.1 x.1.2
theorem preM_all {n k h : Nat} (m : Nat → Nat → Nat × Nat) (pre : List (MtX k h)) (hk : n - 1 = k) (hh : n / 2 = h) (hp : pre.map (·.1) = allQ k h) : preM m pre = msL n m := by
  subst hk; subst hh
  have : preM m pre = (pre.map (·.1)).map fun q => m q.1 q.2 := by unfold preM; rw [List.map_map]; rfl
  rw [this, hp]
  unfold allQ msL
  rw [List.map_flatMap]
  simp only [List.map_map]
  rfl
theorem hOld (w : World) (o : Obj) {i : Nat} (h : i < w.heap.size) : (w.alloc o).heap[i]? = w.heap[i]? := by first | exact heap_alloc_old w o h | exact heap_alloc_old w o i h
/-- as strings -/
def strL (f : Nat → List UInt8) (n : Nat) : List Value := (List.range n).map fun i => Value.string ⟨(f i).toArray⟩
theorem strL_succ (f : Nat → List UInt8) (n : Nat) : strL f (n + 1) = strL f n ++ [.string ⟨(f n).toArray⟩] := by unfold strL; rw [List.range_succ, List.map_append]; rfl
theorem infoStr : (Try.prog.info? 9).map (fun i => (i.zero, i.size, i.bytes)) = some (some (.string .empty), 1, 16) := by kernel_rfl
theorem underStr : Try.prog.underlying 49 = some (.slice 9) := by kernel_rfl
/-- between two rounds -/
structure PtS (w W : World) (s n k h : Nat) (m : Nat → Nat → Nat × Nat) (pre : List (MtX k h)) : Prop where
  bl : Below w.heap.size w W
  xs : Boxed W (s + 1) 90 (.slice (some ⟨s, 0, none⟩) n n)
  bd : ∃ g vs, BldR W (s + 1 + 1 + 1) s n (patU (preM m pre)) g vs
  sz : s + 3 ≤ W.heap.size
theorem BldR.congr {W : World} {S Bl n : Nat} {f f' : Nat → List UInt8} {g : Nat → Value} {vs : Array Value} (h : BldR W S Bl n f g vs) (e : ∀ j, f j = f' j) : BldR W S Bl n f' g vs := by
  rw [← funext e]; exact h
theorem BldR.made (w : World) (n : Nat) : ∀ W, BoxN W w.heap.size 96 (madeCells #[Value.pointer none, Value.slice none 0 0] (n * 2)) → BldR W (w.heap.size + 1 + 1 + 1) w.heap.size n (fun _ => []) (fun _ => .slice none 0 0) (madeCells #[Value.pointer none, Value.slice none 0 0] (n * 2)) := fun W hb =>
  ⟨hb, by rw [size_madeCells], by omega, fun i hi => .inl (by
    have h1 : i * 2 < n * 2 := by omega
    simp [madeCells, h1]), fun i hi => by
    have h1 : i * 2 + 1 < n * 2 := by omega
    have h2 : (i * 2 + 1) % 2 = 1 := by omega
    simp [madeCells, h1, h2], fun i _ => World.ownsRow_nil _ _ _ _, fun i j k _ _ e => by cases e⟩
theorem infoB : (Try.prog.info? 96).map (fun i => (i.zero, i.size, i.bytes)) = some (some (.agg #[.pointer none, .slice none 0 0]), 2, 32) := by kernel_rfl
theorem underB : Try.prog.underlying 90 = some (.slice 96) := by kernel_rfl
set_option maxRecDepth 100000 in
set_option maxHeartbeats 8000000 in
theorem patterns_in (p : Option Addr) (n k h c K : Nat) (m : Nat → Nat → Nat × Nat) (w : World) (hn : n ≤ 16) (hn2 : 2 ≤ n) (hk : n - 1 = k) (hh : n / 2 = h) (hP : SchP n m) (hPN : ∀ i, i < n → patU (msL n m) i ≠ []) (hS : SchK w K p k h m) :
    CallsIn Fence.wide 26 Try.prog 51 #[.int .i64 (n : Int), .slice p k c] w fun e w' => ∃ v, e = .returned v ∧ QRow w' w.heap.size 9 1 v n (strL (patU (msL n m)) n) ∧ Below w.heap.size w w' := by
  have HPN := Lib.hid hPN
  clear hPN
  have HS := Lib.hid hS
  have HP := Lib.hid hP
  have hk15 : k ≤ 15 := by omega
  have hh8 : h ≤ 8 := by omega
  have HK := Lib.hid hk
  have HH := Lib.hid hh
  clear hS hP hk hh
  obtain ⟨i1, hi1, hy0, hy1, hy2⟩ := info_parts infoB
  have hmk := fun W => run_make (P := Try.prog) W 90 96 i1 _ underB hi1 hy0 .i64 .i64 (n : Int) (n : Int) (by omega) (Int.le_refl _) (by rw [hy2]; omega) (by omega)
  have HMF := Lib.hid (fun W => matchesf_any p k c W)
  refine callsIn_of_wp_marks Try.func51 rfl trivial ?_ rfl
  simp only [Try.ntmps51, List.size_toArray, List.length_cons, List.length_nil, Nat.reduceAdd, Nat.reduceSub, Array.replicate_succ, Array.replicate_zero, List.push_toArray, List.append_toArray, List.nil_append, List.cons_append]
  refine wpIn_wide.2 ?_
  go_upto_region 3 with (go_at_call 49; refine (HMF.out _).mono ?_; rintro e w5 ⟨rfl, hw5⟩; subst hw5)
  have hbs : Hid (Boxed (((w.alloc (.cells (madeCells #[.pointer none, .slice none 0 0] (n * 2)) 96)).alloc (.cells #[.slice (some ⟨w.heap.size, 0, none⟩) n n] 90)).alloc (.cells #[.slice p k c] 22)) (w.heap.size + 1) 90 (.slice (some ⟨w.heap.size, 0, none⟩) n n)) := Boxed.alloc (boxed_at (by simp)) _
  have hbg : Hid (Boxed (((w.alloc (.cells (madeCells #[.pointer none, .slice none 0 0] (n * 2)) 96)).alloc (.cells #[.slice (some ⟨w.heap.size, 0, none⟩) n n] 90)).alloc (.cells #[.slice p k c] 22)) (w.heap.size + 1 + 1) 22 (.slice p k c)) := boxed_at (by simp)
  have hbd : Hid (BldR (((w.alloc (.cells (madeCells #[.pointer none, .slice none 0 0] (n * 2)) 96)).alloc (.cells #[.slice (some ⟨w.heap.size, 0, none⟩) n n] 90)).alloc (.cells #[.slice p k c] 22)) (w.heap.size + 1 + 1 + 1) w.heap.size n (fun _ => []) (fun _ => .slice none 0 0) (madeCells #[Value.pointer none, Value.slice none 0 0] (n * 2))) :=
    BldR.made w n _ (((BoxN.new rfl).alloc _).alloc _)
  have hBU : Hid (Below w.heap.size w (((w.alloc (.cells (madeCells #[.pointer none, .slice none 0 0] (n * 2)) 96)).alloc (.cells #[.slice (some ⟨w.heap.size, 0, none⟩) n n] 90)).alloc (.cells #[.slice p k c] 22))) := (((Below.refl _ w).alloc (Nat.le_refl _) _).alloc (by simp) _).alloc (by simp; omega) _
  have hSU : Hid ((((w.alloc (.cells (madeCells #[.pointer none, .slice none 0 0] (n * 2)) 96)).alloc (.cells #[.slice (some ⟨w.heap.size, 0, none⟩) n n] 90)).alloc (.cells #[.slice p k c] 22)).heap.size = w.heap.size + 3) := by unfold Hid; simp
  generalize (((w.alloc (.cells (madeCells #[.pointer none, .slice none 0 0] (n * 2)) 96)).alloc (.cells #[.slice (some ⟨w.heap.size, 0, none⟩) n n] 90)).alloc (.cells #[.slice p k c] 22)) = U at *
  obtain ⟨s, hs⟩ : ∃ s, Hid (s = w.heap.size) := ⟨_, rfl⟩
  rw [← hs.out] at hbs hbg hbd hSU ⊢
  have HMI : Hid (MtIn (s + 1 + 1) K p c k h m U) := ⟨HS.out.keep (KeepsM.of_below hBU.out HS.out.1), hbg.out.cell, by have := hSU.out; omega⟩
  have HKU : Hid (K ≤ U.heap.size) := HMI.out.sch.1
  have HKW : Hid (K ≤ s) := by rw [hs.out]; exact HS.out.1
  refine (wpIn_wide (n := 26)).1 ?_
  refine rf_box1 (m := m) (k := k) (h := h) (K := K) (by decide) (gf := 63) (lb := #[.pointer (some ⟨s + 1 + 1, 0, none⟩)]) rfl (enters_of Try.func63 (by kernel_rfl) rfl)
    (mt_stops 25 (by decide) (s + 1 + 1) K c k h p m hk15 hh8 U HMI.out) HKU.out HMI.out.lt (by simp) (by simp) (by simp) (by decide) (by decide)
    (fun pre W => PtS w W s n k h m pre) (fun cd pre _ => False) ?hI ?hIx ?hIs ?h0 ?body ?done ?stop
  case hI =>
    intro pre A C row hq hg hr
    have hne : ∀ {j}, j < s + 3 → some j ≠ row := fun hj e => by have := (hr _ e.symm).1; have := hSU.out; omega
    obtain ⟨g, vs, hbd⟩ := hq.bd
    refine ⟨hq.bl.trans ⟨hg.os, hg.tape, hg.output, hg.size, fun kk hk => hg.block kk (Nat.lt_of_lt_of_le hk hq.bl.size) (hne (by have := hs.out; omega))⟩, hq.xs.kept hg (hne (by omega)), ⟨g, vs, hbd.box.kept hg (hne (by omega)), hbd.sz, hbd.lt, hbd.adr, hbd.buf, fun i hi => (hbd.row i hi).kept hg ?_, hbd.own⟩, Nat.le_trans hq.sz hg.size⟩
    cases e : (g i).ownBlock with
    | none => exact .inl rfl
    | some kk =>
      right
      intro e2
      obtain ⟨_, o, ho, hc⟩ := hr kk e2.symm
      rcases (hbd.row i hi).2 with ⟨e3, _⟩ | ⟨gg, cap, cur, e3, _, e4, _⟩
      · rw [e3] at e; cases e
      · rw [e3] at e; cases e
        rw [e4] at ho; cases ho; cases hc
  case hIx => intro cd pre A C row hq hg hr; exact hq
  case hIs => intro pre W hq; exact (by have := hSU.out; have := hq.sz; omega)
  case h0 => exact ⟨hBU.out, hbs.out, ⟨_, _, hbd.out⟩, by have := hSU.out; omega⟩
  case body =>
    rintro lf pre x W B8 hq hB8 hbx8 hlen
    simp only [List.setIfInBounds_toArray, List.set_cons_zero, List.set_cons_succ]
    obtain ⟨u, hu⟩ : ∃ u, (m x.1.1 x.1.2).1 = u := ⟨_, rfl⟩
    obtain ⟨v, hv⟩ : ∃ v, (m x.1.1 x.1.2).2 = v := ⟨_, rfl⟩
    have hrng := HP.out.rng x.1.1 x.1.2 (by rw [HK.out]; exact x.2.1) (by rw [HH.out]; exact x.2.2)
    rw [hu, hv] at hbx8 ⊢
    rw [hu, hv] at hrng
    have HPM : Hid (preM m (pre ++ [x]) = preM m pre ++ [(u, v)]) := by
      unfold Hid preM
      rw [List.map_append]
      congr 1
      simp only [List.map_cons, List.map_nil]
      rw [show m x.1.1 x.1.2 = (u, v) from Prod.ext hu hv]
    have HPL : Hid ((preM m pre).length < 200) := by unfold Hid preM; rw [List.length_map]; exact hlen
    obtain ⟨g, vs, hbd⟩ := hq.bd
    have HUN : Hid (u < n) := hrng.1
    have HVN : Hid (v < n) := hrng.2.1
    have HNE : Hid (u ≠ v) := hrng.2.2
    have b80 := hbx8.cell 0
    have b81 := hbx8.cell 1
    have c5 := hq.xs.cell
    have hui : (u : Int) < (n : Int) := by have := HUN.out; omega
    have hvi : (v : Int) < (n : Int) := by have := HVN.out; omega
    have HSW : Hid (s + 1 + 1 + 1 ≤ W.heap.size) := hq.sz
    have HW1 := Lib.hid (WriteByte_any (s + 1 + 1 + 1) s n u 72 (patU (preM m pre)) g vs W hn HUN.out hbd HSW.out (Nat.lt_of_le_of_lt (patU_len _ _) HPL.out))
    have HB8 := Lib.hid hbx8
    have HQ := Lib.hid hq
    have HS3 : Hid (s + 3 ≤ B8) := by have := hSU.out; unfold Hid; omega
    clear hu hv hrng hq hbx8 hbd hB8
    gi_upto_region 5 with (gi_at_call 64; refine (CallsIn.inRound lf (callsIn_wide.2 HW1.out)).mono ?_; rintro e w4 ⟨rfl, hB4, hA4⟩; have HB4 := Lib.hid hB4; have HA4 := Lib.hid hA4; clear hB4 hA4)
    obtain ⟨g4, vs4, hbd4⟩ := HB4.out
    have hkeep8 : ∀ {S s : Nat} {W W' : World} {B8 : Nat} {vs : Array Value}, BoxN W B8 58 vs → B8 ≠ s → Ag (bytesFrom S s W) W W' → BoxN W' B8 58 vs := fun hb hne ha => ha.boxN hb (fun e => by
      rcases e with e | ⟨_, cur, e⟩
      · exact hne e
      · rw [show _ = _ from hb] at e; cases e)
    have hkeepx : ∀ {S s j : Nat} {t : TypeId} {W W' : World} {v : Value}, Boxed W j t v → j ≠ s → j < S → Ag (bytesFrom S s W) W W' → Boxed W' j t v := fun hb hne hlt ha => ha.boxed hb (fun e => by
      rcases e with e | ⟨h1, _⟩
      · exact hne e
      · omega)
    have h8 := hkeep8 HB8.out (by have := HS3.out; omega) HA4.out
    have hx4 := hkeepx HQ.out.xs (by omega) (by omega) HA4.out
    have b840 := h8.cell 0
    have b841 := h8.cell 1
    have c54 := hx4.cell
    have HX4 := Lib.hid hx4
    have HW2 := Lib.hid (WriteByte_any (s + 1 + 1 + 1) s n v 65 _ g4 vs4 w4 hn HVN.out hbd4 (Nat.le_trans HSW.out HA4.out.size) (by
      rw [updF_ne _ _ (Ne.symm HNE.out)]
      exact Nat.lt_of_le_of_lt (patU_len _ _) HPL.out))
    have HKP := Lib.hid (fun W' (h : Ag (bytesFrom (s + 1 + 1 + 1) s w4) w4 W') => hkeepx (W' := W') hx4 (by omega) (show s + 1 < s + 1 + 1 + 1 by omega) h)
    clear hbd4 h8 hx4 b80 b81 c5 hkeep8 hkeepx
    gi_wp2_with (gi_at_call 64; refine (CallsIn.inRound lf (callsIn_wide.2 HW2.out)).mono ?_; rintro e w6 ⟨rfl, hB6, hA6⟩; have HB6 := Lib.hid hB6; have HA6 := Lib.hid hA6; clear hB6 hA6)
    obtain ⟨g6, vs6, hbd6⟩ := HB6.out
    have hfb : ∀ {W W' : World}, Ag (bytesFrom (s + 1 + 1 + 1) s W) W W' → ∀ (j : Nat) (o : Obj), W.heap[j]? = some o → o.isCells = false → j ≠ s → W'.heap[j]? = some o := fun ha j o hj ho hne => ha.obj hj (fun e => by
      rcases e with e | ⟨_, cur, e⟩
      · exact hne e
      · rw [hj] at e; cases e; cases ho)
    have hlow : ∀ {W W' : World}, Ag (bytesFrom (s + 1 + 1 + 1) s W) W W' → ∀ j, j < W.heap.size → j ≠ s → j < s + 3 → W'.heap[j]? = W.heap[j]? := fun ha j hj hne h3 => ha.block j hj (fun e => by
      rcases e with e | ⟨h1, _⟩
      · exact hne e
      · omega)
    have hsw := HSW.out
    have hsz4 := HA4.out.size
    have hsz6 := HA6.out.size
    have hss := hs.out
    have hkw := HKW.out
    have hus := hSU.out
    refine ⟨⟨by omega, fun kk o hk ho hc => hfb HA6.out kk o (hfb HA4.out kk o ho hc (by omega)) hc (by omega)⟩, ⟨⟨by omega, fun j hj => (hlow HA6.out j (by omega) (by omega) (by omega)).trans (hlow HA4.out j (by omega) (by omega) (by omega))⟩, (hlow HA6.out _ (by omega) (by omega) (by omega)).trans (hlow HA4.out _ (by omega) (by omega) (by omega))⟩, ?_⟩
    refine ⟨HQ.out.bl.trans ((Below.mono (B := s) (Below.trans (B := s) ⟨HA4.out.os, HA4.out.tape, HA4.out.output, HA4.out.size, fun j hj => hlow HA4.out j (by omega) (by omega) (by omega)⟩ ⟨HA6.out.os, HA6.out.tape, HA6.out.output, HA6.out.size, fun j hj => hlow HA6.out j (by omega) (by omega) (by omega)⟩) (by omega) : Below w.heap.size W w6)), HKP.out _ HA6.out, ⟨g6, vs6, ?_⟩, by omega⟩
    rw [HPM.out]
    exact hbd6.congr (fun j => patU_snoc (preM m pre) u v HNE.out j)
  case done =>
    rintro D xs W2 hD hall hq hK
    obtain ⟨j1, hj1, hw0, hw1, hw2⟩ := info_parts infoStr
    obtain ⟨g, vs, hbd⟩ := hq.bd
    rw [preM_all m xs HK.out HH.out hall] at hbd
    generalize hff : patU (msL n m) = ff at *
    have HBX := Lib.hid hbd.box
    have HBF := Lib.hid hbd.buf
    have HOW := Lib.hid hbd.own
    have HRW := Lib.hid hbd.row
    have c5 := hq.xs.cell
    have HXS := Lib.hid hq.xs
    have HBLW := Lib.hid hq.bl
    have HSZ : Hid (s + 1 + 1 + 1 ≤ W2.heap.size) := hq.sz
    have HKD := Lib.hid hK
    have HDD : Hid (s + 3 ≤ D) := by have := hSU.out; unfold Hid; omega
    have HFF := Lib.hid hff
    clear hbd hq hall hK hff hD
    go_wp2
    go_loopw [28, 8] (fun s28 s8 wr => ∃ (i : Nat) (v : Value), i ≤ n ∧ s28 = .int .i64 (i : Int) ∧ s8 = v ∧ Hid (QRow wr W2.heap.size 9 1 v i (strL ff i)) ∧ Hid (BoxN wr s 96 vs) ∧ Hid (∀ j, i ≤ j → j < n → wr.ownsRow (s + 1 + 1 + 1) 5 1 (g j) (ff j).length (u8s (ff j))) ∧ Hid (Boxed wr (s + 1) 90 (.slice (some ⟨s, 0, none⟩) n n)) ∧ Hid (Below s W2 wr) ∧ Hid (wr.heap[D]? = some (.deferred (some [])))) (fun s28 _ _ => n - (intOf s28).toNat)
    case atStart => exact ⟨0, _, by omega, rfl, rfl, QRow.nil _ _ _ _, HBX, fun j _ hj => HRW.out j hj, HXS, Below.refl _ _, HKD⟩
    case round =>
      clear c5 HXS HBX HKD
      obtain ⟨i, v, hi, rfl, rfl, hQ, hBX, hRW, hXS, hBL, hKD⟩ := hrel
      by_cases hin : i < n
      · have g1 : (i : Int) < (n : Int) := by omega
        have c5 := hXS.out.cell
        have HST := Lib.hid (String_at (s + 1 + 1 + 1) s i (ff i) (g i) vs wr hBX.out (HBF.out i hin) (hRW.out i (Nat.le_refl _) hin) (HPN.out i hin))
        obtain ⟨wo, hwo⟩ : ∃ wo, Hid (wo = wr) := ⟨_, rfl⟩
        rw [← hwo.out] at hQ hBX hRW hXS hBL hKD c5 HST ⊢
        clear hwo
        go_upto_region 10 with (fail)
        have HQ := Lib.hid hQ.out
        have hOWN : Hid (∀ j, i ≤ j → j < n → ∀ kk, (g j).ownBlock = some kk → s + 3 ≤ kk ∧ kk < W2.heap.size) := fun j _ hj kk e => (HRW.out j hj).lt kk e
        have HSZW : Hid (W2.heap.size ≤ wo.heap.size) := hBL.out.size
        clear hQ
        have hstep : Hid (∀ w4, wo.grownBy w4 (g i).ownBlock → QRow w4 W2.heap.size 9 1 u8 i (strL ff i) ∧ BoxN w4 s 96 vs ∧ (∀ j, i + 1 ≤ j → j < n → w4.ownsRow (s + 1 + 1 + 1) 5 1 (g j) (ff j).length (u8s (ff j))) ∧ Boxed w4 (s + 1) 90 (.slice (some ⟨s, 0, none⟩) n n) ∧ Below s W2 w4 ∧ w4.heap[D]? = some (.deferred (some [])) ∧ wo.heap.size ≤ w4.heap.size) := fun w4 hg => by
          have hown := hOWN.out i (Nat.le_refl _) hin
          have hlow : ∀ j, j < s + 3 → j < wo.heap.size → w4.heap[j]? = wo.heap[j]? := fun j hj hjo => hg.block j hjo (fun e => by have := (hown j e.symm).1; omega)
          have hsz := hXS.out.lt
          refine ⟨HQ.out.kept hg ?_, hBX.out.kept hg (fun e => by have := (hown s e.symm).1; omega), fun j hj hjn => (hRW.out j (by omega) hjn).kept hg ?_, hXS.out.kept hg (fun e => by have := (hown _ e.symm).1; omega), hBL.out.trans ⟨hg.os, hg.tape, hg.output, hg.size, fun j hj => hlow j (by omega) (by omega)⟩, ?_, hg.size⟩
          · cases e : u8.ownBlock with
            | none => exact .inl rfl
            | some kk => right; intro e2; have h1 := (HQ.out.lt kk e).1; have h2 := (hown kk e2.symm).2; omega
          · cases e : (g j).ownBlock with
            | none => exact .inl rfl
            | some kk => right; intro e2; have := HOW.out j i kk hjn hin e e2.symm; omega
          · rw [hg.block D (Array.getElem?_eq_some_iff.1 hKD.out).1 (fun e => ?_)]
            · exact hKD.out
            · rcases (hRW.out i (Nat.le_refl _) hin).2 with ⟨e3, _⟩ | ⟨gg, cap, cur, e3, _, e4, _⟩
              · rw [e3] at e; cases e
              · rw [e3] at e; cases e; have := hKD.out; rw [e4] at this; cases this
        go_wp2_with (first
          | (go_at_call 65; refine HST.out.mono ?_; rintro e w4 ⟨rfl, hg4⟩; obtain ⟨hq4, hb4, hr4, hx4, hl4, hd4, hs4⟩ := hstep.out w4 hg4; have HQ4 := Lib.hid hq4; have HB4 := Lib.hid hb4; have HR4 := Lib.hid hr4; have HX4 := Lib.hid hx4; have HL4 := Lib.hid hl4; have HD4 := Lib.hid hd4; have HS4 : Hid (W2.heap.size ≤ w4.heap.size) := Nat.le_trans HSZW.out hs4; have HQA := Lib.hid (hq4.alloc (.cells #[.string ⟨(ff i).toArray⟩] 9)); clear hq4 hb4 hr4 hx4 hl4 hd4 hs4 hg4)
          | (at_builtin; go_must (refine wpList_append_q _ rfl (.tmp 31) (.tmp 36) 49 rfl W2.heap.size 9 j1 (.string .empty) 1 16 underStr hj1 hw0 hw1 hw2 rfl (by decide) _ i (strL ff i) rfl HQA.out ⟨_, 0, none⟩ 1 1 [.string ⟨(ff i).toArray⟩] rfl rfl (cells_new1 _ _ _) (by simp [Value.oneCell']) (by unfold maxLen; omega) (by omega) (by have := HS4.out; simp; omega) ?_); intro v7 w7 hq7 hg7 ho7; have HQ8 := Lib.hid hq7; have HG7 := Lib.hid hg7; clear hq7 hg7 ho7))
        have hg7 := HG7.out
        have hss := HSZ.out
        have hs4 := HS4.out
        have HQ7 : Hid (QRow w7 W2.heap.size 9 1 v7 (i + 1) (strL ff (i + 1))) := by rw [strL_succ]; exact HQ8.out
        have hne7 : ∀ j, j < W2.heap.size → some j ≠ u8.ownBlock := fun j hj e => by have := (HQA.out.lt j e.symm).1; omega
        have HB7 : Hid (BoxN w7 s 96 vs) := (HB4.out.alloc _).kept hg7 (hne7 _ (by omega))
        have HR7 : Hid (∀ j, i + 1 ≤ j → j < n → w7.ownsRow (s + 1 + 1 + 1) 5 1 (g j) (ff j).length (u8s (ff j))) := fun j hj hjn => ((HR4.out j hj hjn).alloc _).kept hg7 (by
          cases e : (g j).ownBlock with
          | none => exact .inl rfl
          | some kk => right; intro e2; exact hne7 kk (hOWN.out j (by omega) hjn kk e).2 e2)
        have HX7 : Hid (Boxed w7 (s + 1) 90 (.slice (some ⟨s, 0, none⟩) n n)) := (HX4.out.alloc _).kept hg7 (hne7 _ (by omega))
        have HL7 : Hid (Below s W2 w7) := HL4.out.trans ⟨hg7.os, hg7.tape, hg7.output, Nat.le_trans (by simp) hg7.size, fun j hj => (hg7.block j (by simp; omega) (hne7 _ (by omega))).trans (hOld _ _ (by omega))⟩
        have HD7 : Hid (w7.heap[D]? = some (.deferred (some []))) := by
          have hd4 := HD4.out
          have hlt := (Array.getElem?_eq_some_iff.1 hd4).1
          refine (hg7.block D (by simp; omega) (fun e => ?_)).trans ((hOld _ _ hlt).trans hd4)
          rcases HQA.out.2 with ⟨e3, _⟩ | ⟨gg, o, cap, cur, e3, _, e4, _⟩
          · rw [e3] at e; cases e
          · rw [e3] at e; cases e
            rw [hOld _ _ hlt, hd4] at e4; cases e4
        exact ⟨⟨i + 1, v7, by omega, int_eq (by omega), rfl, HQ7, HB7, HR7, HX7, HL7, HD7⟩, by simp [intOf]; omega⟩
      · have g1 : ¬ (i : Int) < (n : Int) := by omega
        obtain rfl : n = i := by omega
        go_wp2
        have hKY := hKD.out
        have HFQ : Hid (QRow wr w.heap.size 9 1 u8 n (strL (patU (msL n m)) n)) := (by rw [HFF.out]; exact hQ.out.mono HBLW.out.size)
        refine ⟨by simp, .inl ⟨_, _, rfl, run_takeDeferred hKY, ?_⟩⟩
        have hDu : u8.ownBlock = none ∨ u8.ownBlock ≠ some D := by
          right
          intro e
          rcases hQ.out.2 with ⟨e3, _⟩ | ⟨gg, o, cap, cur, e3, _, e4, _⟩
          · rw [e3] at e; cases e
          · rw [e3] at e; cases e
            have := hKD.out
            rw [e4] at this; cases this
        have hsw := hs.out
        have hB2 : Below w.heap.size w wr := HBLW.out.trans (hBL.out.mono (by omega))
        refine ⟨u8, by simp [results, Try.f51, go_sem], u8, rfl, HFQ.out.kept (grownBy_putObj' _ D (.deferred none)) hDu, hB2.trans (belowK_b (w := w) (Nat.le_refl _) _ D _ _ (by have := HDD.out; omega) hKY rfl rfl)⟩
  case stop =>
    rintro D cd pre W2 hD hvp hx hK
    exact absurd hx (fun h => h)
set_option maxRecDepth 100000 in
theorem Patterns_any (p : Option Addr) (n k h c K : Nat) (m : Nat → Nat → Nat × Nat) (w : World) (hn : n ≤ 16) (hn2 : 2 ≤ n) (hev : n % 2 = 0) (hk : n - 1 = k) (hh : n / 2 = h) (hP : SchP n m) (hPN : ∀ i, i < n → patU (msL n m) i ≠ []) (hS : SchK w K p k h m) :
    Calls Try.prog 28 #[.int .i64 (n : Int), .slice p k c] w fun e w' => ∃ v, e = .returned (.tuple #[v, .int .i64 0]) ∧ QRow w' w.heap.size 9 1 v n (strL (patU (msL n m)) n) ∧ Below w.heap.size w w' := by
  have HC := Lib.hid (callsIn_wide.1 (Check_in p n k h c K m w hn hn2 hev hk hh hP hS))
  have HPA := Lib.hid (fun w' hw => callsIn_wide.1 (patterns_in p n k h c K m w' hn hn2 hk hh hP hPN (hS.keep (W' := w') hw)))
  have HKK := Lib.hid hS.1
  clear hP hPN hS hev hk hh
  go_enter Try.func28, Try.ntmps28
  go_wp2_with (first
    | (go_at_call 26; refine HC.out.mono ?_; rintro e w4 ⟨rfl, hB4⟩; have HB4 := Lib.hid hB4; have HP4 := Lib.hid (HPA.out w4 (KeepsM.of_below hB4 HKK.out)); clear hB4)
    | (go_at_call 51; refine HP4.out.mono ?_; rintro e w5 ⟨v5, rfl, hq5, hB5⟩; obtain ⟨pq, cq, hv5⟩ := hq5.isSlice; subst hv5; have HQ5 := Lib.hid hq5; have HB5 := Lib.hid hB5; clear hq5 hB5))
  refine bodyPost_ret (v := .tuple #[.slice pq n cq, .int .i64 0]) (by simp [results, Try.f28, go_sem]) rfl ?_
  exact ⟨_, rfl, HQ5.out.mono HB4.out.size, HB4.out.trans (HB5.out.mono HB4.out.size)⟩
end Go.Proofs.Ytocnhikohfkcaaa
