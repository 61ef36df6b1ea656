/- strings.Builder in a slice: walks. The patterns of a schedule: walk. Rows of rows that the call has made, each row its own block: reading and writing. What a program must do whatever the input is, at stage 10: walk. The regatta of any pairs. TopChains: the law's walk. For every input the law TopChains returns true and leaves its arguments as they were. No condition. -/
import Derived.Test.YtbioondlmgolkaaG527
import Derived.Lib.Builder
import Derived.Lib.UnsafeStr
import Derived.Maps.AppendAt
import Derived.Lib.BufferWrite
import Derived.Test.YtbioondlmgolkaaHm
import Derived.Test.YtbioondlmgolkaaG524
import Derived.Test.YtbioondlmgolkaaG513
import Derived.Test.YtbioondlmgolkaaG525
import Derived.Test.YtbioondlmgolkaaRows
import Derived.Test.YtbioondlmgolkaaLo
set_option linter.unusedVariables false
set_option linter.unusedSimpArgs false
namespace Go.Proofs.Ytbioondlmgolkaa
open Go.RowKit Go.Shelf
attribute [local go_sem] Oper.semAt_some

def u8s (l : List UInt8) : List Value := l.map fun b => Value.int .u8 (b.toNat : Int)
/-- builders in a row: what each has got -/
structure BldR (W : World) (S Bl n : Nat) (f : Nat → List UInt8) (g : Nat → Value) (vs : Array Value) : Prop where
  box : BoxN W Bl 126 vs
  sz : vs.size = n * 2
  lt : Bl < S
  adr : ∀ i, i < n → vs[i * 2]? = some (.pointer none) ∨ vs[i * 2]? = some (.pointer (some ⟨Bl, i * 2, none⟩))
  buf : ∀ i, i < n → vs[i * 2 + 1]? = some (g i)
  row : ∀ i, i < n → W.ownsRow S 5 1 (g i) (f i).length (u8s (f i))
  own : ∀ i j k, i < n → j < n → (g i).ownBlock = some k → (g j).ownBlock = some k → i = j
theorem lies16_ok : ((List.range 17).all fun n => (List.range n).all fun i => liesAt Try.prog Try.prog.depth 126 (n * 2 / Try.prog.cellsOf 126) (i * 2) 126 1) = true := by decide +kernel
theorem lies_at {n i : Nat} (hn : n ≤ 16) (hi : i < n) : liesAt Try.prog Try.prog.depth 126 (n * 2 / Try.prog.cellsOf 126) (i * 2) 126 1 = true :=
  List.all_eq_true.1 (List.all_eq_true.1 lies16_ok n (List.mem_range.2 (by omega))) i (List.mem_range.2 hi)
theorem sizeBld : (Try.prog.info? 126).map (·.size) = some 2 := by kernel_rfl
set_option maxRecDepth 100000 in
theorem copyCheck_some (B o : Nat) (W : World) (hc : W.cell? ⟨B, o, none⟩ = some (.pointer (some ⟨B, o, none⟩))) :
    Calls Try.prog 88 #[.pointer (some ⟨B, o, none⟩)] W fun e W' => e = .returned (.tuple #[]) ∧ W' = W := by
  obtain ⟨j, hj, _⟩ := Option.map_eq_some_iff.1 sizeBld
  go_enter Try.func88, Try.ntmps88
  go_wp2
  rw [Lib.run_neq_ptr_same W _ Try.underlying123 hj]
  go_wp2
  go_end0
  exact ⟨rfl, rfl⟩
set_option maxRecDepth 100000 in
theorem copyCheck_none (B n i : Nat) (vs : Array Value) (W : World) (hn : n ≤ 16) (hi : i < n) (hb : BoxN W B 126 vs) (hs : vs.size = n * 2) (hc : vs[i * 2]? = some (.pointer none)) :
    Calls Try.prog 88 #[.pointer (some ⟨B, i * 2, none⟩)] W fun e W' => e = .returned (.tuple #[]) ∧ W' = W.setCell ⟨B, i * 2, none⟩ (.pointer (some ⟨B, i * 2, none⟩)) := by
  obtain ⟨j, hj, hjs⟩ := Option.map_eq_some_iff.1 sizeBld
  have hsh : W.shape? B = some (126, n * 2) := by
    have : W.heap[B]? = _ := hb
    simp [World.shape?, this, hs]
  have c0 : W.cell? ⟨B, i * 2, none⟩ = some (.pointer none) := by rw [hb.cell]; exact hc
  have f0 := hb.frozen (i * 2)
  have c2 : (W.setCell ⟨B, i * 2, none⟩ (.pointer (some ⟨B, i * 2, none⟩))).cell? ⟨B, i * 2, none⟩ = some (.pointer (some ⟨B, i * 2, none⟩)) := by
    rw [(hb.set (i * 2) _).cell, Array.getElem?_setIfInBounds_self_of_lt (by omega)]
  have HL := Lib.hid (lies_at hn hi)
  have HB := Lib.hid hb
  clear hb hs hc
  go_enter Try.func88, Try.ntmps88
  go_wp2
  rw [Lib.run_to_unsafe W ⟨B, i * 2, none⟩ Try.underlying123 Try.underlying186 hj (by rw [hjs]; decide) hsh (show i * 2 < n * 2 by omega)]
  simp only [Result.andThen]
  rw [Oper.upon_value]
  go_wp2
  rw [run_callFunc_extern Try.func104 (by kernel_rfl) (by kernel_rfl) (by kernel_rfl) (e := Extern.AbiNoEscape.same) (by kernel_rfl)]
  rw [Lib.run_noEscape]
  simp only [Result.andThen]
  rw [Oper.upon_value]
  go_wp2
  rw [Lib.run_from_unsafe W ⟨B, i * 2, none⟩ Try.underlying186 Try.underlying123 hj hsh HL.out]
  simp only [Result.andThen]
  rw [Oper.upon_value]
  go_wp2
  go_end0
  exact ⟨rfl, rfl⟩
/-- one entry changed -/
def updF {α : Type} (f : Nat → α) (i : Nat) (x : α) (j : Nat) : α := if j = i then x else f j
theorem updF_self {α : Type} (f : Nat → α) (i : Nat) (x : α) : updF f i x i = x := by unfold updF; rw [if_pos rfl]
theorem updF_ne {α : Type} (f : Nat → α) {i j : Nat} (x : α) (h : j ≠ i) : updF f i x j = f j := by unfold updF; rw [if_neg h]
section
variable {W W3 : World} {S Bl n i : Nat} {f : Nat → List UInt8} {g : Nat → Value} {vs : Array Value}
theorem BldR.keep {W' : World} (h : BldR W S Bl n f g vs) (hg : W.grownBy W' none) : BldR W' S Bl n f g vs :=
  ⟨h.box.kept hg (by simp), h.sz, h.lt, h.adr, h.buf, fun i hi => (h.row i hi).kept hg (by cases (g i).ownBlock <;> simp), h.own⟩
theorem BldR.mark (h : BldR W S Bl n f g vs) (hi : i < n) : BldR (W.setCell ⟨Bl, i * 2, none⟩ (.pointer (some ⟨Bl, i * 2, none⟩))) S Bl n f g (vs.setIfInBounds (i * 2) (.pointer (some ⟨Bl, i * 2, none⟩))) := by
  refine ⟨h.box.set _ _, by simpa using h.sz, h.lt, fun j hj => ?_, fun j hj => ?_, fun j hj => ?_, h.own⟩
  · by_cases e : j = i
    · subst e
      right
      rw [Array.getElem?_setIfInBounds_self_of_lt (by rw [h.sz]; omega)]
    · rw [Array.getElem?_setIfInBounds_ne (by omega)]; exact h.adr j hj
  · rw [Array.getElem?_setIfInBounds_ne (by omega)]; exact h.buf j hj
  · refine (h.row j hj).kept (Lib.grownBy_setCell W Bl _ _) ?_
    cases e : (g j).ownBlock with
    | none => exact .inl rfl
    | some k => right; intro e2; injection e2 with e2; have := ((h.row j hj).lt k e).1; have := h.lt; omega
theorem BldR.push {v' : Value} {K0 : Nat} {c : UInt8} (h : BldR W S Bl n f g vs) (hi : i < n) (hg : W.grownBy W3 (g i).ownBlock) (hr : W3.ownsRow S 5 1 v' ((f i).length + 1) (u8s (f i) ++ [.int .u8 (c.toNat : Int)]))
    (hv : v'.ownBlock = (g i).ownBlock ∨ v'.ownBlock = some K0) (hK0 : W.heap.size ≤ K0) :
    BldR (W3.setCell ⟨Bl, i * 2 + 1, none⟩ v') S Bl n (updF f i (f i ++ [c])) (updF g i v') (vs.setIfInBounds (i * 2 + 1) v') := by
  have hBl : ∀ v xs l, W3.ownsRow S 5 1 v l xs → (W3.setCell ⟨Bl, i * 2 + 1, none⟩ v').ownsRow S 5 1 v l xs := fun v xs l h1 => by
    refine h1.kept (Lib.grownBy_setCell W3 Bl _ _) ?_
    cases e : v.ownBlock with
    | none => exact .inl rfl
    | some k => right; intro e2; injection e2 with e2; have := (h1.lt k e).1; have := h.lt; omega
  have hrow : ∀ j, j < n → j ≠ i → W3.ownsRow S 5 1 (g j) (f j).length (u8s (f j)) := fun j hj hne => by
    refine (h.row j hj).kept hg ?_
    cases e : (g j).ownBlock with
    | none => exact .inl rfl
    | some k => right; intro e2; exact hne (h.own j i k hj hi e e2.symm)
  have hbx : BoxN W3 Bl 126 vs := h.box.kept hg (fun e => by have := ((h.row i hi).lt Bl e.symm).1; have := h.lt; omega)
  refine ⟨hbx.set _ _, by simpa using h.sz, h.lt, fun j hj => ?_, fun j hj => ?_, fun j hj => ?_, fun a b k ha hb ea eb => ?_⟩
  · rw [Array.getElem?_setIfInBounds_ne (by omega)]; exact h.adr j hj
  · by_cases e : j = i
    · subst e
      rw [updF_self, Array.getElem?_setIfInBounds_self_of_lt (by rw [h.sz]; omega)]
    · rw [updF_ne _ _ e, Array.getElem?_setIfInBounds_ne (by omega)]; exact h.buf j hj
  · by_cases e : j = i
    · subst e
      rw [updF_self, updF_self]
      have := hBl _ _ _ hr
      simpa [u8s] using this
    · rw [updF_ne _ _ e, updF_ne _ _ e]; exact hBl _ _ _ (hrow j hj e)
  · have key : ∀ a, a < n → a ≠ i → (g a).ownBlock = some k → v'.ownBlock = some k → False := fun a ha hne e1 e2 => by
      rcases hv with hv | hv
      · exact hne (h.own a i k ha hi e1 (hv.symm.trans e2))
      · rw [hv] at e2
        cases e2
        have := ((h.row a ha).lt _ e1).2
        omega
    by_cases e1 : a = i
    · by_cases e2 : b = i
      · rw [e1, e2]
      · subst e1
        rw [updF_self] at ea
        rw [updF_ne _ _ e2] at eb
        exact absurd (key b hb e2 eb ea) (fun h => h)
    · rw [updF_ne _ _ e1] at ea
      by_cases e2 : b = i
      · subst e2
        rw [updF_self] at eb
        exact absurd (key a ha e1 ea eb) (fun h => h)
      · rw [updF_ne _ _ e2] at eb
        exact h.own a b k ha hb ea eb
end
/-- blocks that a builder's writing may turn -/
def bytesFrom (S Bl : Nat) (W : World) (j : Nat) : Prop := j = Bl ∨ (S ≤ j ∧ ∃ cur, W.heap[j]? = some (.cells cur 5 (0, 0)))
theorem infoByte : (Try.prog.info? 5).map (fun i => (i.zero, i.size, i.bytes)) = some (some (.int .u8 0), 1, 1) := by kernel_rfl
set_option maxRecDepth 100000 in
theorem WriteByte_any (S Bl n i : Nat) (c : UInt8) (f : Nat → List UInt8) (g : Nat → Value) (vs : Array Value) (W : World) (hn : n ≤ 16) (hi : i < n) (hB : BldR W S Bl n f g vs) (hS : S ≤ W.heap.size) (hlen : (f i).length < 200) :
    Calls Try.prog 58 #[.pointer (some ⟨Bl, i * 2, none⟩), .int .u8 (c.toNat : Int)] W fun e W' => e = .returned .nilIface ∧ (∃ g' vs', BldR W' S Bl n (updF f i (f i ++ [c])) g' vs') ∧ Ag (bytesFrom S Bl W) W W' := by
  obtain ⟨i0, hi0, hz0, hz1, hz2⟩ := info_parts infoByte
  obtain ⟨cc, hcc⟩ : ∃ cc, (c.toNat : Int) = cc := ⟨_, rfl⟩
  rw [hcc]
  have hcopy : ∃ W1 vs1, Calls Try.prog 88 #[.pointer (some ⟨Bl, i * 2, none⟩)] W (fun e W' => e = .returned (.tuple #[]) ∧ W' = W1) ∧ BldR W1 S Bl n f g vs1 ∧ Ag (· = Bl) W W1 ∧ W1.heap.size = W.heap.size := by
    rcases hB.adr i hi with h0 | h0
    · exact ⟨_, _, copyCheck_none Bl n i vs W hn hi hB.box hB.sz h0, hB.mark hi, (Ag.refl _ W).set ⟨Bl, i * 2, none⟩ _ (.inr rfl), by simp⟩
    · exact ⟨W, vs, copyCheck_some Bl (i * 2) W (by rw [hB.box.cell]; exact h0), hB, Ag.refl _ W, rfl⟩
  obtain ⟨W1, vs1, hc, hB1, hA1, hs1⟩ := hcopy
  have HB1 := Lib.hid hB1
  have HA1 := Lib.hid hA1
  have HC := Lib.hid hc
  have c1 : W1.cell? ⟨Bl, i * 2 + 1, none⟩ = some (g i) := by rw [hB1.box.cell]; exact hB1.buf i hi
  have HS1 := Lib.hid hs1
  have hS1 : S ≤ W1.heap.size := by omega
  clear hB1 hA1 hc hs1 hB
  go_enter Try.func58, Try.ntmps58
  go_upto_region 2 with (go_at_call 88; refine HC.out.mono ?_; rintro e w4 ⟨rfl, hw4⟩; replace hw4 := hw4.symm; subst hw4; try dsimp only)
  have HBA := Lib.hid (HB1.out.keep (World.grownBy_alloc W1 (.cells #[.int .u8 cc] 5) none))
  have HSA : Hid (S ≤ (W1.alloc (.cells #[.int .u8 cc] 5)).heap.size) := by unfold Hid; simp; omega
  have HAA : Hid (Ag (· = Bl) W (W1.alloc (.cells #[.int .u8 cc] 5))) := HA1.out.alloc _
  go_wp2_with (at_builtin; go_must (refine wpList_append_own_at _ rfl (.tmp 11) (.tmp 13) 124 rfl S 5 i0 (.int .u8 0) 1 1 Try.underlying124 hi0 hz0 hz1 hz2 rfl (by decide) (g i) (f i).length (u8s (f i)) rfl (HBA.out.row i hi) ⟨_, 0, none⟩ 1 1 [.int .u8 cc] rfl rfl (cells_new1 _ _ _) (by simp [Value.oneCell']) (by unfold maxLen; omega) (by omega) HSA.out ?_); intro v7 w7 hq7 hg7 _ ho7; obtain ⟨pq, cq, hv7⟩ := (QRow.of_own hq7).isSlice; subst hv7; have HP7 := Lib.hid (HBA.out.push (c := c) hi hg7 (by rw [hcc]; exact hq7) ho7 (Nat.le_refl _)); have HX7 : Hid (BoxN w7 Bl 126 vs1) := HBA.out.box.kept hg7 (fun e => by have := ((HBA.out.row i hi).lt Bl e.symm).1; have := HB1.out.lt; omega); have f7 := HX7.out.frozen (i * 2 + 1); have c7 : w7.cell? ⟨Bl, i * 2 + 1, none⟩ = some (g i) := (by rw [HX7.out.cell]; exact HB1.out.buf i hi); have HG7 := Lib.hid hg7; clear hq7 hg7 ho7)
  go_ret
  refine ⟨rfl, ⟨_, _, HP7.out⟩, ?_⟩
  refine ((HAA.out.mono fun j hj => .inl hj).grown HG7.out fun k hk => ?_).set ⟨Bl, i * 2 + 1, none⟩ _ (.inr (.inl rfl))
  rcases Nat.lt_or_ge k W.heap.size with hlt | hge
  · right; right
    have h1 := (HB1.out.row i hi)
    refine ⟨(h1.lt k hk).1, ?_⟩
    rcases h1.2 with ⟨e, _⟩ | ⟨gg, cap, cur, e, _, e3, _⟩
    · rw [e] at hk; cases hk
    · rw [e] at hk
      cases hk
      exact ⟨cur, by rw [← e3]; exact (HA1.out.block _ hlt (fun e4 => by have e5 : gg = Bl := e4; have := (h1.lt gg (by rw [e]; rfl)).1; have := HB1.out.lt; omega)).symm⟩
  · exact .inl hge
theorem grown_freeze (W : World) (k m : Nat) : W.grownBy (W.freeze ⟨k, 0, none⟩ m) (some k) := by
  unfold World.freeze
  split
  · exact World.grownBy.refl W _
  · exact ⟨rfl, rfl, rfl, by simp, fun j hj hne => by
      have h : k ≠ j := fun e => hne (by rw [e])
      simp only [Array.getElem?_modify]
      rw [if_neg h]⟩
set_option maxRecDepth 100000 in
theorem String_at (S Bl i : Nat) (ll : List UInt8) (gi : Value) (vs : Array Value) (W : World) (hbx : BoxN W Bl 126 vs) (hbuf : vs[i * 2 + 1]? = some gi) (hrow : W.ownsRow S 5 1 gi ll.length (u8s ll)) (h0 : ll ≠ []) :
    Calls Try.prog 59 #[.pointer (some ⟨Bl, i * 2, none⟩)] W fun e W' => e = .returned (.string ⟨ll.toArray⟩) ∧ W.grownBy W' gi.ownBlock := by
  have hl0 : ll.length ≠ 0 := by simpa using h0
  obtain ⟨gg, cap, cur, hv, hbg, hg, hnc, hcm, hcs, htake⟩ : ∃ gg cap cur, gi = .slice (some ⟨gg, 0, none⟩) ll.length cap ∧ S ≤ gg ∧ W.heap[gg]? = some (.cells cur 5 (0, 0)) ∧ ll.length ≤ cap ∧ cap ≤ maxLen ∧ cur.size = cap * 1 ∧ cur.toList.take (ll.length * 1) = u8s ll := by
    rcases hrow.2 with ⟨_, hz⟩ | ⟨g, cap, cur, hv, r⟩
    · exact absurd hz hl0
    · exact ⟨g, cap, cur, hv, r⟩
  have c1 : W.drew.cell? ⟨Bl, i * 2 + 1, none⟩ = some (.slice (some ⟨gg, 0, none⟩) ll.length cap) := by
    have : W.cell? ⟨Bl, i * 2 + 1, none⟩ = _ := hbx.cell _
    show W.cell? _ = _
    rw [this, hbuf, hv]
  have hSD : (Builtin.unsafeSliceData_ #[124] 162 #[.slice (some ⟨gg, 0, none⟩) ll.length cap]).run Try.prog W.drew = .ok (.pointer (some ⟨gg, 0, none⟩)) W.drew :=
    Lib.run_unsafeSliceData_row _ _ _ _ _ _ (by omega)
  have hUS : (Builtin.unsafeString_ #[162, 3] 9 #[.pointer (some ⟨gg, 0, none⟩), .int .i64 ll.length]).run Try.prog W.drew = .ok (.string ⟨ll.toArray⟩) (W.drew.freeze ⟨gg, 0, none⟩ ll.length) := by
    refine Lib.run_unsafeString_row W.drew 162 3 9 5 Try.underlying162 (by kernel_rfl) gg cur.size (by have hg' : W.drew.heap[gg]? = some (.cells cur 5 (0, 0)) := hg; simp [World.shape?, hg']) ll h0 (by omega) (by unfold maxLen at hcm; omega) ?_
    intro j x hx
    have := hrow.cells (g := gg) (by rw [hv]; rfl) j (.int .u8 x.toNat) (by simp [u8s, hx])
    exact this
  have HO : Hid (gi.ownBlock = some gg) := by unfold Hid; rw [hv]; rfl
  clear hbx hbuf hrow hv hg htake
  go_enter Try.func59, Try.ntmps59
  go_wp2
  go_region
  all_goals (go_wp2; go_ret; exact ⟨rfl, by rw [HO.out]; exact (let h := grown_freeze W.drew gg ll.length; ⟨h.os, h.tape, h.output, h.size, h.block⟩)⟩)
end Go.Proofs.Ytbioondlmgolkaa
namespace Go.Proofs.Ytbioondlmgolkaa
open Go.RowKit Go.Shelf
attribute [local go_sem] Oper.semAt_some
/-- the same where the round is not wanted -/
theorem rf_box1 {k h : Nat} {m : Nat → Nat → Nat × Nat} {n : Nat} {g : Operand} {t1 t2 d2 : Nat} {i2 : Nat} {ty2 ty3 : TypeId} {p2 p3 : String} {e1 e2 : Edge} {body : Code} {Q : Exit → Act → World → Prop} {a : Act} {w : World}
    (h1 : 1 ≤ n) {gf : Nat} {lb : Array Value} (hg : a.eval g = .func (.func gf) #[] lb) (eg : ∀ args w, (callFunc gf args).run Try.prog w = .ok (.enter gf args) w)
    {K Bg : Nat} {S Sp : List (MtX k h) → Prop} {N : Nat} (hseq : SeqStopsK Fence.wide (n - 1) Try.prog gf lb (mtE m (k := k) (h := h)) (KeepsG K Bg) S Sp N w) (hKw : K ≤ w.heap.size) (hBw : Bg < w.heap.size)
    (ht1 : t1 < a.tmps.size) (ht2 : t2 < a.tmps.size) (hd2 : d2 < a.tmps.size) (ht12 : t1 ≠ t2) (htd2 : t2 ≠ d2) (I : List (MtX k h) → World → Prop) (Ix : Code → List (MtX k h) → World → Prop) (hI : OwnFrom w.heap.size I) (hIx : ∀ c, OwnFrom w.heap.size (Ix c)) (hIs : ∀ pre W, I pre W → w.heap.size ≤ W.heap.size) (h0 : I [] w)
    (hbody : ∀ (l : Nat) (pre : List (MtX k h)) (x : MtX k h) (W : World) (B8 : Nat), I pre W → w.heap.size ≤ B8 → BoxN W B8 28 #[.int .i64 ((m x.1.1 x.1.2).1 : Int), .int .i64 ((m x.1.1 x.1.2).2 : Int)] → pre.length < N →
      body.wpIn (Fence.wide.inRound l) (n - 1 - 1) Try.prog (ownPostG w.heap.size (KeepsG K Bg) I Ix (pre ++ [x]) W) { tmps := ((a.tmps.setIfInBounds t1 (.int .i64 (x.1.1 : Int))).setIfInBounds t2 (.agg #[.int .i64 ((m x.1.1 x.1.2).1 : Int), .int .i64 ((m x.1.1 x.1.2).2 : Int)])).setIfInBounds d2 (.pointer (some ⟨B8, 0, none⟩)), defers := [] } W)
    (hdone : ∀ (D : Nat) (xs : List (MtX k h)) (W : World), w.heap.size ≤ D → S xs → I xs W → W.heap[D]? = some (.deferred (some [])) → Q .normal { a with defers := { target := .collected D, args := #[] } :: a.defers } W)
    (hstop : ∀ (D : Nat) (c : Code) (pre : List (MtX k h)) (W : World), w.heap.size ≤ D → Sp pre → Ix c pre W → W.heap[D]? = some (.deferred (some [])) → c.wpIn Fence.wide n Try.prog Q { a with defers := { target := .collected D, args := #[] } :: a.defers } W) :
    (Code.rangeFunc g #[t1, t2] (Code.region i2 #[{ dst := some d2, op := Op.alloc 28, type := ty2, pos := p2, after := #[], guard := none }, { dst := none, op := Op.store 28 (Operand.tmp d2) (Operand.tmp t2), type := ty3, pos := p3, after := #[e1, e2], guard := none }] false) body).wpIn Fence.wide n Try.prog Q a w := by
  refine wpIn_rangeFunc_ownH rfl h1 hg trivial eg hseq (fun h k => keepsG_t h k) (keepsG_b hKw hBw) (Below.refl _ _) (fun _ => rfl) I Ix hI hIx h0
    (fun x a' W => ∃ B8, a' = { tmps := ((a.tmps.setIfInBounds t1 (.int .i64 (x.1.1 : Int))).setIfInBounds t2 (.agg #[.int .i64 ((m x.1.1 x.1.2).1 : Int), .int .i64 ((m x.1.1 x.1.2).2 : Int)])).setIfInBounds d2 (.pointer (some ⟨B8, 0, none⟩)), defers := [] } ∧ w.heap.size ≤ B8 ∧ BoxN W B8 28 #[.int .i64 ((m x.1.1 x.1.2).1 : Int), .int .i64 ((m x.1.1 x.1.2).2 : Int)])
    (fun x a' _ A C row hs hg hr => ?_) ?_ (fun l pre x a' W _ _ hi ha hl => ?_) hdone hstop
  · obtain ⟨B8, e, hb, hx⟩ := hs
    refine ⟨B8, e, hb, hx.kept hg (fun e2 => ?_)⟩
    obtain ⟨_, o, ho, hc⟩ := hr B8 e2.symm
    rw [show A.heap[B8]? = _ from hx] at ho
    cases ho
    cases hc
  · intro l pre x W KK hi hK
    have hsz := hIs pre W hi
    obtain ⟨u, hu⟩ : ∃ u, (m x.1.1 x.1.2).1 = u := ⟨_, rfl⟩
    obtain ⟨v, hv⟩ : ∃ v, (m x.1.1 x.1.2).2 = v := ⟨_, rfl⟩
    have e : (Array.zip #[t1, t2] (mtE m x)).foldl (fun t (p, v) => t.setIfInBounds p v) a.tmps = (a.tmps.setIfInBounds t1 (.int .i64 (x.1.1 : Int))).setIfInBounds t2 (.agg #[.int .i64 (u : Int), .int .i64 (v : Int)]) := by unfold mtE; rw [hu, hv]; simp
    rw [e]
    rw [hu, hv] at hK
    have hv2 : ∀ q : Value, (((a.tmps.setIfInBounds t1 (Value.int .i64 (x.1.1 : Int))).setIfInBounds t2 (.agg #[.int .i64 (u : Int), .int .i64 (v : Int)])).setIfInBounds d2 q).getD t2 undef = .agg #[.int .i64 (u : Int), .int .i64 (v : Int)] := fun q => by
      rw [Array.getD_eq_getD_getElem?, Array.getElem?_setIfInBounds_ne htd2.symm, Array.getElem?_setIfInBounds_self_of_lt (by simpa using ht2)]; rfl
    have hv3 : ∀ q : Value, (((a.tmps.setIfInBounds t1 (Value.int .i64 (x.1.1 : Int))).setIfInBounds t2 (.agg #[.int .i64 (u : Int), .int .i64 (v : Int)])).setIfInBounds d2 q).getD d2 undef = q := fun q => by
      rw [Array.getD_eq_getD_getElem?, Array.getElem?_setIfInBounds_self_of_lt (by simpa using hd2)]; rfl
    have hKA := Lib.hid (hK _ (W.alloc (.cells #[.int .i64 (u : Int), .int .i64 (v : Int)] 28)) ⟨by simp, fun kk o _ ho _ => (World.grownBy_alloc W _ none).block kk (Array.getElem?_eq_some_iff.1 ho).1 (by simp) |>.trans ho⟩ (KeepsG.of_below ((Below.refl W.heap.size W).alloc (Nat.le_refl _) _) (by omega) (by omega)) (hI.alloc _ hi) ⟨W.heap.size, rfl, by omega, BoxN.new rfl⟩)
    clear hK
    gi_wp2
    exact hKA.out
  · obtain ⟨B8, rfl, hb, hx⟩ := ha
    exact hbody l pre x W B8 hi hb hx hl
/-- a boat's pattern -/
def patU (ms : List (Nat × Nat)) (i : Nat) : List UInt8 := (patB ms i).map UInt8.ofNat
theorem patU_snoc (ms : List (Nat × Nat)) (u v : Nat) (hne : u ≠ v) (j : Nat) : updF (updF (patU ms) u (patU ms u ++ [72])) v (updF (patU ms) u (patU ms u ++ [72]) v ++ [65]) j = patU (ms ++ [(u, v)]) j := by
  unfold patU
  rw [patB_snoc, List.map_append]
  by_cases h1 : j = v
  · subst h1
    rw [updF_self, updF_ne _ _ (Ne.symm hne), if_neg hne, if_pos rfl]; rfl
  · rw [updF_ne _ _ h1]
    by_cases h2 : j = u
    · subst h2
      rw [updF_self, if_pos rfl]; rfl
    · rw [updF_ne _ _ h2, if_neg (Ne.symm h2), if_neg (Ne.symm h1)]; simp
theorem patU_len (ms : List (Nat × Nat)) (i : Nat) : (patU ms i).length ≤ ms.length := by unfold patU; rw [List.length_map]; exact patB_len ms i
def preM {k h : Nat} (m : Nat → Nat → Nat × Nat) (pre : List (MtX k h)) : List (Nat × Nat) := pre.map fun x => m x.1.1 x.1.2
theorem preM_all {n k h : Nat} (m : Nat → Nat → Nat × Nat) (pre : List (MtX k h)) (hk : n - 1 = k) (hh : n / 2 = h) (hp : pre.map (·.1) = allQ k h) : preM m pre = msL n m := by
  subst hk; subst hh
  have : preM m pre = (pre.map (·.1)).map fun q => m q.1 q.2 := by unfold preM; rw [List.map_map]; rfl
  rw [this, hp]
  unfold allQ msL
  rw [List.map_flatMap]
  simp only [List.map_map]
  rfl
theorem hOld (w : World) (o : Obj) {i : Nat} (h : i < w.heap.size) : (w.alloc o).heap[i]? = w.heap[i]? := by first | exact heap_alloc_old w o h | exact heap_alloc_old w o i h
/-- as strings -/
def strL (f : Nat → List UInt8) (n : Nat) : List Value := (List.range n).map fun i => Value.string ⟨(f i).toArray⟩
theorem strL_succ (f : Nat → List UInt8) (n : Nat) : strL f (n + 1) = strL f n ++ [.string ⟨(f n).toArray⟩] := by unfold strL; rw [List.range_succ, List.map_append]; rfl
theorem infoStr : (Try.prog.info? 9).map (fun i => (i.zero, i.size, i.bytes)) = some (some (.string .empty), 1, 16) := by kernel_rfl
theorem underStr : Try.prog.underlying 29 = some (.slice 9) := by kernel_rfl
/-- between two rounds -/
structure PtS (w W : World) (s n k h : Nat) (m : Nat → Nat → Nat × Nat) (pre : List (MtX k h)) : Prop where
  bl : Below w.heap.size w W
  xs : Boxed W (s + 1) 120 (.slice (some ⟨s, 0, none⟩) n n)
  bd : ∃ g vs, BldR W (s + 1 + 1 + 1) s n (patU (preM m pre)) g vs
  sz : s + 3 ≤ W.heap.size
theorem BldR.congr {W : World} {S Bl n : Nat} {f f' : Nat → List UInt8} {g : Nat → Value} {vs : Array Value} (h : BldR W S Bl n f g vs) (e : ∀ j, f j = f' j) : BldR W S Bl n f' g vs := by
  rw [← funext e]; exact h
theorem BldR.made (w : World) (n : Nat) : ∀ W, BoxN W w.heap.size 126 (madeCells #[Value.pointer none, Value.slice none 0 0] (n * 2)) → BldR W (w.heap.size + 1 + 1 + 1) w.heap.size n (fun _ => []) (fun _ => .slice none 0 0) (madeCells #[Value.pointer none, Value.slice none 0 0] (n * 2)) := fun W hb =>
  ⟨hb, by rw [size_madeCells], by omega, fun i hi => .inl (by
    have h1 : i * 2 < n * 2 := by omega
    simp [madeCells, h1]), fun i hi => by
    have h1 : i * 2 + 1 < n * 2 := by omega
    have h2 : (i * 2 + 1) % 2 = 1 := by omega
    simp [madeCells, h1, h2], fun i _ => World.ownsRow_nil _ _ _ _, fun i j k _ _ e => by cases e⟩
theorem infoB : (Try.prog.info? 126).map (fun i => (i.zero, i.size, i.bytes)) = some (some (.agg #[.pointer none, .slice none 0 0]), 2, 32) := by kernel_rfl
theorem underB : Try.prog.underlying 120 = some (.slice 126) := by kernel_rfl
set_option maxRecDepth 100000 in
set_option maxHeartbeats 8000000 in
theorem patterns_in (p : Option Addr) (n k h c K : Nat) (m : Nat → Nat → Nat × Nat) (w : World) (hn : n ≤ 16) (hn2 : 2 ≤ n) (hk : n - 1 = k) (hh : n / 2 = h) (hP : SchP n m) (hPN : ∀ i, i < n → patU (msL n m) i ≠ []) (hS : SchK w K p k h m) :
    CallsIn Fence.wide 26 Try.prog 27 #[.int .i64 (n : Int), .slice p k c] w fun e w' => ∃ v, e = .returned v ∧ QRow w' w.heap.size 9 1 v n (strL (patU (msL n m)) n) ∧ Below w.heap.size w w' := by
  have HPN := Lib.hid hPN
  clear hPN
  have HS := Lib.hid hS
  have HP := Lib.hid hP
  have hk15 : k ≤ 15 := by omega
  have hh8 : h ≤ 8 := by omega
  have HK := Lib.hid hk
  have HH := Lib.hid hh
  clear hS hP hk hh
  obtain ⟨i1, hi1, hy0, hy1, hy2⟩ := info_parts infoB
  have hmk := fun W => run_make (P := Try.prog) W 120 126 i1 _ underB hi1 hy0 .i64 .i64 (n : Int) (n : Int) (by omega) (Int.le_refl _) (by rw [hy2]; omega) (by omega)
  have HMF := Lib.hid (fun W => matchesf_any p k c W)
  refine callsIn_of_wp_marks Try.func27 rfl trivial ?_ rfl
  simp only [Try.ntmps27, List.size_toArray, List.length_cons, List.length_nil, Nat.reduceAdd, Nat.reduceSub, Array.replicate_succ, Array.replicate_zero, List.push_toArray, List.append_toArray, List.nil_append, List.cons_append]
  refine wpIn_wide.2 ?_
  go_upto_region 3 with (go_at_call 56; refine (HMF.out _).mono ?_; rintro e w5 ⟨rfl, hw5⟩; subst hw5)
  have hbs : Hid (Boxed (((w.alloc (.cells (madeCells #[.pointer none, .slice none 0 0] (n * 2)) 126)).alloc (.cells #[.slice (some ⟨w.heap.size, 0, none⟩) n n] 120)).alloc (.cells #[.slice p k c] 24)) (w.heap.size + 1) 120 (.slice (some ⟨w.heap.size, 0, none⟩) n n)) := Boxed.alloc (boxed_at (by simp)) _
  have hbg : Hid (Boxed (((w.alloc (.cells (madeCells #[.pointer none, .slice none 0 0] (n * 2)) 126)).alloc (.cells #[.slice (some ⟨w.heap.size, 0, none⟩) n n] 120)).alloc (.cells #[.slice p k c] 24)) (w.heap.size + 1 + 1) 24 (.slice p k c)) := boxed_at (by simp)
  have hbd : Hid (BldR (((w.alloc (.cells (madeCells #[.pointer none, .slice none 0 0] (n * 2)) 126)).alloc (.cells #[.slice (some ⟨w.heap.size, 0, none⟩) n n] 120)).alloc (.cells #[.slice p k c] 24)) (w.heap.size + 1 + 1 + 1) w.heap.size n (fun _ => []) (fun _ => .slice none 0 0) (madeCells #[Value.pointer none, Value.slice none 0 0] (n * 2))) :=
    BldR.made w n _ (((BoxN.new rfl).alloc _).alloc _)
  have hBU : Hid (Below w.heap.size w (((w.alloc (.cells (madeCells #[.pointer none, .slice none 0 0] (n * 2)) 126)).alloc (.cells #[.slice (some ⟨w.heap.size, 0, none⟩) n n] 120)).alloc (.cells #[.slice p k c] 24))) := (((Below.refl _ w).alloc (Nat.le_refl _) _).alloc (by simp) _).alloc (by simp; omega) _
  have hSU : Hid ((((w.alloc (.cells (madeCells #[.pointer none, .slice none 0 0] (n * 2)) 126)).alloc (.cells #[.slice (some ⟨w.heap.size, 0, none⟩) n n] 120)).alloc (.cells #[.slice p k c] 24)).heap.size = w.heap.size + 3) := by unfold Hid; simp
  generalize (((w.alloc (.cells (madeCells #[.pointer none, .slice none 0 0] (n * 2)) 126)).alloc (.cells #[.slice (some ⟨w.heap.size, 0, none⟩) n n] 120)).alloc (.cells #[.slice p k c] 24)) = U at *
  obtain ⟨s, hs⟩ : ∃ s, Hid (s = w.heap.size) := ⟨_, rfl⟩
  rw [← hs.out] at hbs hbg hbd hSU ⊢
  have HMI : Hid (MtIn (s + 1 + 1) K p c k h m U) := ⟨HS.out.keep (KeepsM.of_below hBU.out HS.out.1), hbg.out.cell, by have := hSU.out; omega⟩
  have HKU : Hid (K ≤ U.heap.size) := HMI.out.sch.1
  have HKW : Hid (K ≤ s) := by rw [hs.out]; exact HS.out.1
  refine (wpIn_wide (n := 26)).1 ?_
  refine rf_box1 (m := m) (k := k) (h := h) (K := K) (by decide) (gf := 87) (lb := #[.pointer (some ⟨s + 1 + 1, 0, none⟩)]) rfl (enters_of Try.func87 (by kernel_rfl) rfl)
    (mt_stops 25 (by decide) (s + 1 + 1) K c k h p m hk15 hh8 U HMI.out) HKU.out HMI.out.lt (by simp) (by simp) (by simp) (by decide) (by decide)
    (fun pre W => PtS w W s n k h m pre) (fun cd pre _ => False) ?hI ?hIx ?hIs ?h0 ?body ?done ?stop
  case hI =>
    intro pre A C row hq hg hr
    have hne : ∀ {j}, j < s + 3 → some j ≠ row := fun hj e => by have := (hr _ e.symm).1; have := hSU.out; omega
    obtain ⟨g, vs, hbd⟩ := hq.bd
    refine ⟨hq.bl.trans ⟨hg.os, hg.tape, hg.output, hg.size, fun kk hk => hg.block kk (Nat.lt_of_lt_of_le hk hq.bl.size) (hne (by have := hs.out; omega))⟩, hq.xs.kept hg (hne (by omega)), ⟨g, vs, hbd.box.kept hg (hne (by omega)), hbd.sz, hbd.lt, hbd.adr, hbd.buf, fun i hi => (hbd.row i hi).kept hg ?_, hbd.own⟩, Nat.le_trans hq.sz hg.size⟩
    cases e : (g i).ownBlock with
    | none => exact .inl rfl
    | some kk =>
      right
      intro e2
      obtain ⟨_, o, ho, hc⟩ := hr kk e2.symm
      rcases (hbd.row i hi).2 with ⟨e3, _⟩ | ⟨gg, cap, cur, e3, _, e4, _⟩
      · rw [e3] at e; cases e
      · rw [e3] at e; cases e
        rw [e4] at ho; cases ho; cases hc
  case hIx => intro cd pre A C row hq hg hr; exact hq
  case hIs => intro pre W hq; exact (by have := hSU.out; have := hq.sz; omega)
  case h0 => exact ⟨hBU.out, hbs.out, ⟨_, _, hbd.out⟩, by have := hSU.out; omega⟩
  case body =>
    rintro lf pre x W B8 hq hB8 hbx8 hlen
    simp only [List.setIfInBounds_toArray, List.set_cons_zero, List.set_cons_succ]
    obtain ⟨u, hu⟩ : ∃ u, (m x.1.1 x.1.2).1 = u := ⟨_, rfl⟩
    obtain ⟨v, hv⟩ : ∃ v, (m x.1.1 x.1.2).2 = v := ⟨_, rfl⟩
    have hrng := HP.out.rng x.1.1 x.1.2 (by rw [HK.out]; exact x.2.1) (by rw [HH.out]; exact x.2.2)
    rw [hu, hv] at hbx8 ⊢
    rw [hu, hv] at hrng
    have HPM : Hid (preM m (pre ++ [x]) = preM m pre ++ [(u, v)]) := by
      unfold Hid preM
      rw [List.map_append]
      congr 1
      simp only [List.map_cons, List.map_nil]
      rw [show m x.1.1 x.1.2 = (u, v) from Prod.ext hu hv]
    have HPL : Hid ((preM m pre).length < 200) := by unfold Hid preM; rw [List.length_map]; exact hlen
    obtain ⟨g, vs, hbd⟩ := hq.bd
    have HUN : Hid (u < n) := hrng.1
    have HVN : Hid (v < n) := hrng.2.1
    have HNE : Hid (u ≠ v) := hrng.2.2
    have b80 := hbx8.cell 0
    have b81 := hbx8.cell 1
    have c5 := hq.xs.cell
    have hui : (u : Int) < (n : Int) := by have := HUN.out; omega
    have hvi : (v : Int) < (n : Int) := by have := HVN.out; omega
    have HSW : Hid (s + 1 + 1 + 1 ≤ W.heap.size) := hq.sz
    have HW1 := Lib.hid (WriteByte_any (s + 1 + 1 + 1) s n u 72 (patU (preM m pre)) g vs W hn HUN.out hbd HSW.out (Nat.lt_of_le_of_lt (patU_len _ _) HPL.out))
    have HB8 := Lib.hid hbx8
    have HQ := Lib.hid hq
    have HS3 : Hid (s + 3 ≤ B8) := by have := hSU.out; unfold Hid; omega
    clear hu hv hrng hq hbx8 hbd hB8
    gi_upto_region 5 with (gi_at_call 58; refine (CallsIn.inRound lf (callsIn_wide.2 HW1.out)).mono ?_; rintro e w4 ⟨rfl, hB4, hA4⟩; have HB4 := Lib.hid hB4; have HA4 := Lib.hid hA4; clear hB4 hA4)
    obtain ⟨g4, vs4, hbd4⟩ := HB4.out
    have hkeep8 : ∀ {S s : Nat} {W W' : World} {B8 : Nat} {vs : Array Value}, BoxN W B8 28 vs → B8 ≠ s → Ag (bytesFrom S s W) W W' → BoxN W' B8 28 vs := fun hb hne ha => ha.boxN hb (fun e => by
      rcases e with e | ⟨_, cur, e⟩
      · exact hne e
      · rw [show _ = _ from hb] at e; cases e)
    have hkeepx : ∀ {S s j : Nat} {t : TypeId} {W W' : World} {v : Value}, Boxed W j t v → j ≠ s → j < S → Ag (bytesFrom S s W) W W' → Boxed W' j t v := fun hb hne hlt ha => ha.boxed hb (fun e => by
      rcases e with e | ⟨h1, _⟩
      · exact hne e
      · omega)
    have h8 := hkeep8 HB8.out (by have := HS3.out; omega) HA4.out
    have hx4 := hkeepx HQ.out.xs (by omega) (by omega) HA4.out
    have b840 := h8.cell 0
    have b841 := h8.cell 1
    have c54 := hx4.cell
    have HX4 := Lib.hid hx4
    have HW2 := Lib.hid (WriteByte_any (s + 1 + 1 + 1) s n v 65 _ g4 vs4 w4 hn HVN.out hbd4 (Nat.le_trans HSW.out HA4.out.size) (by
      rw [updF_ne _ _ (Ne.symm HNE.out)]
      exact Nat.lt_of_le_of_lt (patU_len _ _) HPL.out))
    have HKP := Lib.hid (fun W' (h : Ag (bytesFrom (s + 1 + 1 + 1) s w4) w4 W') => hkeepx (W' := W') hx4 (by omega) (show s + 1 < s + 1 + 1 + 1 by omega) h)
    clear hbd4 h8 hx4 b80 b81 c5 hkeep8 hkeepx
    gi_wp2_with (gi_at_call 58; refine (CallsIn.inRound lf (callsIn_wide.2 HW2.out)).mono ?_; rintro e w6 ⟨rfl, hB6, hA6⟩; have HB6 := Lib.hid hB6; have HA6 := Lib.hid hA6; clear hB6 hA6)
    obtain ⟨g6, vs6, hbd6⟩ := HB6.out
    have hfb : ∀ {W W' : World}, Ag (bytesFrom (s + 1 + 1 + 1) s W) W W' → ∀ (j : Nat) (o : Obj), W.heap[j]? = some o → o.isCells = false → j ≠ s → W'.heap[j]? = some o := fun ha j o hj ho hne => ha.obj hj (fun e => by
      rcases e with e | ⟨_, cur, e⟩
      · exact hne e
      · rw [hj] at e; cases e; cases ho)
    have hlow : ∀ {W W' : World}, Ag (bytesFrom (s + 1 + 1 + 1) s W) W W' → ∀ j, j < W.heap.size → j ≠ s → j < s + 3 → W'.heap[j]? = W.heap[j]? := fun ha j hj hne h3 => ha.block j hj (fun e => by
      rcases e with e | ⟨h1, _⟩
      · exact hne e
      · omega)
    have hsw := HSW.out
    have hsz4 := HA4.out.size
    have hsz6 := HA6.out.size
    have hss := hs.out
    have hkw := HKW.out
    have hus := hSU.out
    refine ⟨⟨by omega, fun kk o hk ho hc => hfb HA6.out kk o (hfb HA4.out kk o ho hc (by omega)) hc (by omega)⟩, ⟨⟨by omega, fun j hj => (hlow HA6.out j (by omega) (by omega) (by omega)).trans (hlow HA4.out j (by omega) (by omega) (by omega))⟩, (hlow HA6.out _ (by omega) (by omega) (by omega)).trans (hlow HA4.out _ (by omega) (by omega) (by omega))⟩, ?_⟩
    refine ⟨HQ.out.bl.trans ((Below.mono (B := s) (Below.trans (B := s) ⟨HA4.out.os, HA4.out.tape, HA4.out.output, HA4.out.size, fun j hj => hlow HA4.out j (by omega) (by omega) (by omega)⟩ ⟨HA6.out.os, HA6.out.tape, HA6.out.output, HA6.out.size, fun j hj => hlow HA6.out j (by omega) (by omega) (by omega)⟩) (by omega) : Below w.heap.size W w6)), HKP.out _ HA6.out, ⟨g6, vs6, ?_⟩, by omega⟩
    rw [HPM.out]
    exact hbd6.congr (fun j => patU_snoc (preM m pre) u v HNE.out j)
  case done =>
    rintro D xs W2 hD hall hq hK
    obtain ⟨j1, hj1, hw0, hw1, hw2⟩ := info_parts infoStr
    obtain ⟨g, vs, hbd⟩ := hq.bd
    rw [preM_all m xs HK.out HH.out hall] at hbd
    generalize hff : patU (msL n m) = ff at *
    have HBX := Lib.hid hbd.box
    have HBF := Lib.hid hbd.buf
    have HOW := Lib.hid hbd.own
    have HRW := Lib.hid hbd.row
    have c5 := hq.xs.cell
    have HXS := Lib.hid hq.xs
    have HBLW := Lib.hid hq.bl
    have HSZ : Hid (s + 1 + 1 + 1 ≤ W2.heap.size) := hq.sz
    have HKD := Lib.hid hK
    have HDD : Hid (s + 3 ≤ D) := by have := hSU.out; unfold Hid; omega
    have HFF := Lib.hid hff
    clear hbd hq hall hK hff hD
    go_wp2
    go_loopw [28, 8] (fun s28 s8 wr => ∃ (i : Nat) (v : Value), i ≤ n ∧ s28 = .int .i64 (i : Int) ∧ s8 = v ∧ Hid (QRow wr W2.heap.size 9 1 v i (strL ff i)) ∧ Hid (BoxN wr s 126 vs) ∧ Hid (∀ j, i ≤ j → j < n → wr.ownsRow (s + 1 + 1 + 1) 5 1 (g j) (ff j).length (u8s (ff j))) ∧ Hid (Boxed wr (s + 1) 120 (.slice (some ⟨s, 0, none⟩) n n)) ∧ Hid (Below s W2 wr) ∧ Hid (wr.heap[D]? = some (.deferred (some [])))) (fun s28 _ _ => n - (intOf s28).toNat)
    case atStart => exact ⟨0, _, by omega, rfl, rfl, QRow.nil _ _ _ _, HBX, fun j _ hj => HRW.out j hj, HXS, Below.refl _ _, HKD⟩
    case round =>
      clear c5 HXS HBX HKD
      obtain ⟨i, v, hi, rfl, rfl, hQ, hBX, hRW, hXS, hBL, hKD⟩ := hrel
      by_cases hin : i < n
      · have g1 : (i : Int) < (n : Int) := by omega
        have c5 := hXS.out.cell
        have HST := Lib.hid (String_at (s + 1 + 1 + 1) s i (ff i) (g i) vs wr hBX.out (HBF.out i hin) (hRW.out i (Nat.le_refl _) hin) (HPN.out i hin))
        obtain ⟨wo, hwo⟩ : ∃ wo, Hid (wo = wr) := ⟨_, rfl⟩
        rw [← hwo.out] at hQ hBX hRW hXS hBL hKD c5 HST ⊢
        clear hwo
        go_upto_region 10 with (fail)
        have HQ := Lib.hid hQ.out
        have hOWN : Hid (∀ j, i ≤ j → j < n → ∀ kk, (g j).ownBlock = some kk → s + 3 ≤ kk ∧ kk < W2.heap.size) := fun j _ hj kk e => (HRW.out j hj).lt kk e
        have HSZW : Hid (W2.heap.size ≤ wo.heap.size) := hBL.out.size
        clear hQ
        have hstep : Hid (∀ w4, wo.grownBy w4 (g i).ownBlock → QRow w4 W2.heap.size 9 1 u8 i (strL ff i) ∧ BoxN w4 s 126 vs ∧ (∀ j, i + 1 ≤ j → j < n → w4.ownsRow (s + 1 + 1 + 1) 5 1 (g j) (ff j).length (u8s (ff j))) ∧ Boxed w4 (s + 1) 120 (.slice (some ⟨s, 0, none⟩) n n) ∧ Below s W2 w4 ∧ w4.heap[D]? = some (.deferred (some [])) ∧ wo.heap.size ≤ w4.heap.size) := fun w4 hg => by
          have hown := hOWN.out i (Nat.le_refl _) hin
          have hlow : ∀ j, j < s + 3 → j < wo.heap.size → w4.heap[j]? = wo.heap[j]? := fun j hj hjo => hg.block j hjo (fun e => by have := (hown j e.symm).1; omega)
          have hsz := hXS.out.lt
          refine ⟨HQ.out.kept hg ?_, hBX.out.kept hg (fun e => by have := (hown s e.symm).1; omega), fun j hj hjn => (hRW.out j (by omega) hjn).kept hg ?_, hXS.out.kept hg (fun e => by have := (hown _ e.symm).1; omega), hBL.out.trans ⟨hg.os, hg.tape, hg.output, hg.size, fun j hj => hlow j (by omega) (by omega)⟩, ?_, hg.size⟩
          · cases e : u8.ownBlock with
            | none => exact .inl rfl
            | some kk => right; intro e2; have h1 := (HQ.out.lt kk e).1; have h2 := (hown kk e2.symm).2; omega
          · cases e : (g j).ownBlock with
            | none => exact .inl rfl
            | some kk => right; intro e2; have := HOW.out j i kk hjn hin e e2.symm; omega
          · rw [hg.block D (Array.getElem?_eq_some_iff.1 hKD.out).1 (fun e => ?_)]
            · exact hKD.out
            · rcases (hRW.out i (Nat.le_refl _) hin).2 with ⟨e3, _⟩ | ⟨gg, cap, cur, e3, _, e4, _⟩
              · rw [e3] at e; cases e
              · rw [e3] at e; cases e; have := hKD.out; rw [e4] at this; cases this
        go_wp2_with (first
          | (go_at_call 59; refine HST.out.mono ?_; rintro e w4 ⟨rfl, hg4⟩; obtain ⟨hq4, hb4, hr4, hx4, hl4, hd4, hs4⟩ := hstep.out w4 hg4; have HQ4 := Lib.hid hq4; have HB4 := Lib.hid hb4; have HR4 := Lib.hid hr4; have HX4 := Lib.hid hx4; have HL4 := Lib.hid hl4; have HD4 := Lib.hid hd4; have HS4 : Hid (W2.heap.size ≤ w4.heap.size) := Nat.le_trans HSZW.out hs4; have HQA := Lib.hid (hq4.alloc (.cells #[.string ⟨(ff i).toArray⟩] 9)); clear hq4 hb4 hr4 hx4 hl4 hd4 hs4 hg4)
          | (at_builtin; go_must (refine wpList_append_q _ rfl (.tmp 31) (.tmp 36) 29 rfl W2.heap.size 9 j1 (.string .empty) 1 16 underStr hj1 hw0 hw1 hw2 rfl (by decide) _ i (strL ff i) rfl HQA.out ⟨_, 0, none⟩ 1 1 [.string ⟨(ff i).toArray⟩] rfl rfl (cells_new1 _ _ _) (by simp [Value.oneCell']) (by unfold maxLen; omega) (by omega) (by have := HS4.out; simp; omega) ?_); intro v7 w7 hq7 hg7 ho7; have HQ8 := Lib.hid hq7; have HG7 := Lib.hid hg7; clear hq7 hg7 ho7))
        have hg7 := HG7.out
        have hss := HSZ.out
        have hs4 := HS4.out
        have HQ7 : Hid (QRow w7 W2.heap.size 9 1 v7 (i + 1) (strL ff (i + 1))) := by rw [strL_succ]; exact HQ8.out
        have hne7 : ∀ j, j < W2.heap.size → some j ≠ u8.ownBlock := fun j hj e => by have := (HQA.out.lt j e.symm).1; omega
        have HB7 : Hid (BoxN w7 s 126 vs) := (HB4.out.alloc _).kept hg7 (hne7 _ (by omega))
        have HR7 : Hid (∀ j, i + 1 ≤ j → j < n → w7.ownsRow (s + 1 + 1 + 1) 5 1 (g j) (ff j).length (u8s (ff j))) := fun j hj hjn => ((HR4.out j hj hjn).alloc _).kept hg7 (by
          cases e : (g j).ownBlock with
          | none => exact .inl rfl
          | some kk => right; intro e2; exact hne7 kk (hOWN.out j (by omega) hjn kk e).2 e2)
        have HX7 : Hid (Boxed w7 (s + 1) 120 (.slice (some ⟨s, 0, none⟩) n n)) := (HX4.out.alloc _).kept hg7 (hne7 _ (by omega))
        have HL7 : Hid (Below s W2 w7) := HL4.out.trans ⟨hg7.os, hg7.tape, hg7.output, Nat.le_trans (by simp) hg7.size, fun j hj => (hg7.block j (by simp; omega) (hne7 _ (by omega))).trans (hOld _ _ (by omega))⟩
        have HD7 : Hid (w7.heap[D]? = some (.deferred (some []))) := by
          have hd4 := HD4.out
          have hlt := (Array.getElem?_eq_some_iff.1 hd4).1
          refine (hg7.block D (by simp; omega) (fun e => ?_)).trans ((hOld _ _ hlt).trans hd4)
          rcases HQA.out.2 with ⟨e3, _⟩ | ⟨gg, o, cap, cur, e3, _, e4, _⟩
          · rw [e3] at e; cases e
          · rw [e3] at e; cases e
            rw [hOld _ _ hlt, hd4] at e4; cases e4
        exact ⟨⟨i + 1, v7, by omega, int_eq (by omega), rfl, HQ7, HB7, HR7, HX7, HL7, HD7⟩, by simp [intOf]; omega⟩
      · have g1 : ¬ (i : Int) < (n : Int) := by omega
        obtain rfl : n = i := by omega
        go_wp2
        have hKY := hKD.out
        have HFQ : Hid (QRow wr w.heap.size 9 1 u8 n (strL (patU (msL n m)) n)) := (by rw [HFF.out]; exact hQ.out.mono HBLW.out.size)
        refine ⟨by simp, .inl ⟨_, _, rfl, run_takeDeferred hKY, ?_⟩⟩
        have hDu : u8.ownBlock = none ∨ u8.ownBlock ≠ some D := by
          right
          intro e
          rcases hQ.out.2 with ⟨e3, _⟩ | ⟨gg, o, cap, cur, e3, _, e4, _⟩
          · rw [e3] at e; cases e
          · rw [e3] at e; cases e
            have := hKD.out
            rw [e4] at this; cases this
        have hsw := hs.out
        have hB2 : Below w.heap.size w wr := HBLW.out.trans (hBL.out.mono (by omega))
        refine ⟨u8, by simp [results, Try.f27, go_sem], u8, rfl, HFQ.out.kept (grownBy_putObj' _ D (.deferred none)) hDu, hB2.trans (belowK_b (w := w) (Nat.le_refl _) _ D _ _ (by have := HDD.out; omega) hKY rfl rfl)⟩
  case stop =>
    rintro D cd pre W2 hD hvp hx hK
    exact absurd hx (fun h => h)
set_option maxRecDepth 100000 in
theorem Patterns_any (p : Option Addr) (n k h c K : Nat) (m : Nat → Nat → Nat × Nat) (w : World) (hn : n ≤ 16) (hn2 : 2 ≤ n) (hev : n % 2 = 0) (hk : n - 1 = k) (hh : n / 2 = h) (hP : SchP n m) (hPN : ∀ i, i < n → patU (msL n m) i ≠ []) (hS : SchK w K p k h m) :
    Calls Try.prog 8 #[.int .i64 (n : Int), .slice p k c] w fun e w' => ∃ v, e = .returned (.tuple #[v, .int .i64 0]) ∧ QRow w' w.heap.size 9 1 v n (strL (patU (msL n m)) n) ∧ Below w.heap.size w w' := by
  have HC := Lib.hid (callsIn_wide.1 (Check_in p n k h c K m w hn hn2 hev hk hh hP hS))
  have HPA := Lib.hid (fun w' hw => callsIn_wide.1 (patterns_in p n k h c K m w' hn hn2 hk hh hP hPN (hS.keep (W' := w') hw)))
  have HKK := Lib.hid hS.1
  clear hP hPN hS hev hk hh
  go_enter Try.func8, Try.ntmps8
  go_wp2_with (first
    | (go_at_call 26; refine HC.out.mono ?_; rintro e w4 ⟨rfl, hB4⟩; have HB4 := Lib.hid hB4; have HP4 := Lib.hid (HPA.out w4 (KeepsM.of_below hB4 HKK.out)); clear hB4)
    | (go_at_call 27; refine HP4.out.mono ?_; rintro e w5 ⟨v5, rfl, hq5, hB5⟩; obtain ⟨pq, cq, hv5⟩ := hq5.isSlice; subst hv5; have HQ5 := Lib.hid hq5; have HB5 := Lib.hid hB5; clear hq5 hB5))
  refine bodyPost_ret (v := .tuple #[.slice pq n cq, .int .i64 0]) (by simp [results, Try.f8, go_sem]) rfl ?_
  exact ⟨_, rfl, HQ5.out.mono HB4.out.size, HB4.out.trans (HB5.out.mono HB4.out.size)⟩
end Go.Proofs.Ytbioondlmgolkaa
namespace Go.Proofs.Ytbioondlmgolkaa
open Go.RowKit Go.Shelf

/-- k rows of h entries, each row in its own block -/
def RowsR (W : World) (base : Nat) (te ti : TypeId) (sz : Nat) (v : Value) (k h : Nat) (cs : Nat → List Value) : Prop := ∃ xs, QRow W base te 1 v k xs ∧ (∀ r, r < k → ∃ p c, xs[r]? = some (.slice p h c) ∧ QRow W base ti sz (.slice p h c) h (cs r)) ∧
  ∀ r r' x x' b, r < k → r' < k → xs[r]? = some x → xs[r']? = some x' → x.ownBlock = some b → x'.ownBlock = some b → r = r'
theorem SchR.rows {W : World} {base : Nat} {v : Value} {k h : Nat} {m : Nat → Nat → Nat × Nat} (H : SchR W base v k h m) : RowsR W base 22 28 2 v k h (fun r => pairCells (rowL m r h)) := H
theorem RowsR.sch {W : World} {base : Nat} {v : Value} {k h : Nat} {m : Nat → Nat → Nat × Nat} (H : RowsR W base 22 28 2 v k h (fun r => pairCells (rowL m r h))) : SchR W base v k h m := H
section
variable {W W' : World} {base : Nat} {te ti : TypeId} {sz : Nat} {v : Value} {k h : Nat} {cs : Nat → List Value}
theorem RowsR.nil (W : World) (base : Nat) (te ti : TypeId) (sz h : Nat) (cs : Nat → List Value) : RowsR W base te ti sz (.slice none 0 0) 0 h cs := ⟨[], QRow.nil _ _ _ _, fun r hr => by omega, fun r _ _ _ _ hr => by omega⟩
theorem RowsR.isSlice (H : RowsR W base te ti sz v k h cs) : ∃ p c, v = .slice p k c := H.elim fun _ h => h.1.isSlice
theorem RowsR.below {n : Nat} (H : RowsR W base te ti sz v k h cs) (hB : Below n W W') (hn : W.heap.size ≤ n) : RowsR W' base te ti sz v k h cs := by
  obtain ⟨xs, h1, h2, h5⟩ := H
  refine ⟨xs, h1.below hB fun k' hk' => Nat.lt_of_lt_of_le (h1.lt k' hk').2 hn, fun r hr => ?_, h5⟩
  obtain ⟨p, c, h3, h4⟩ := h2 r hr
  exact ⟨p, c, h3, h4.below hB fun k' hk' => Nat.lt_of_lt_of_le (h4.lt k' hk').2 hn⟩
theorem RowsR.congr {cs' : Nat → List Value} (H : RowsR W base te ti sz v k h cs) (e : ∀ r, r < k → cs r = cs' r) : RowsR W base te ti sz v k h cs' := by
  obtain ⟨xs, h1, h2, h5⟩ := H
  refine ⟨xs, h1, fun r hr => ?_, h5⟩
  rw [← e r hr]; exact h2 r hr
theorem RowsR.push {v' : Value} {p : Option Addr} {c : Nat} {xs : List Value} (hne : ti ≠ te)
    (h2 : ∀ r, r < k → ∃ p c, xs[r]? = some (.slice p h c) ∧ QRow W base ti sz (.slice p h c) h (cs r)) (h1 : QRow W base te 1 v k xs)
    (hq : QRow W base ti sz (.slice p h c) h (cs k)) (hg : W.grownBy W' v.ownBlock) (h3 : QRow W' base te 1 v' (k + 1) (xs ++ [.slice p h c]))
    (hD : ∀ r r' x x' b, r < k → r' < k → xs[r]? = some x → xs[r']? = some x' → x.ownBlock = some b → x'.ownBlock = some b → r = r') (hN : ∀ r x b, r < k → xs[r]? = some x → x.ownBlock = some b → (Value.slice p h c).ownBlock ≠ some b) : RowsR W' base te ti sz v' (k + 1) h cs := by
  have hxl := h1.1
  have hat : ∀ r x, r < k + 1 → (xs ++ [Value.slice p h c])[r]? = some x → (r < k ∧ xs[r]? = some x) ∨ (r = k ∧ x = .slice p h c) := fun r x hr hx => by
    by_cases e : r = k
    · subst e
      rw [List.getElem?_append_right (by omega)] at hx
      rw [show r - xs.length = 0 by omega] at hx
      exact .inr ⟨rfl, by simpa using hx.symm⟩
    · rw [List.getElem?_append_left (by omega)] at hx
      exact .inl ⟨by omega, hx⟩
  refine ⟨_, h3, fun r hr => ?_, fun r r' x x' b hr hr' hx hx' hb hb' => ?_⟩
  rotate_left
  · rcases hat r x hr hx with ⟨h4, h5⟩ | ⟨rfl, rfl⟩
    · rcases hat r' x' hr' hx' with ⟨h6, h7⟩ | ⟨rfl, rfl⟩
      · exact hD r r' x x' b h4 h6 h5 h7 hb hb'
      · exact absurd hb' (hN r x b h4 h5 hb)
    · rcases hat r' x' hr' hx' with ⟨h6, h7⟩ | ⟨rfl, rfl⟩
      · exact absurd hb (hN r' x' b h6 h7 hb')
      · rfl
  by_cases e : r = k
  · subst e
    refine ⟨p, c, ?_, hq.kept hg (ne_or (hq.ne h1 hne))⟩
    rw [List.getElem?_append_right (by omega)]; simp [hxl]
  · obtain ⟨p', c', h4, h5⟩ := h2 r (by omega)
    refine ⟨p', c', ?_, h5.kept hg (ne_or (h5.ne h1 hne))⟩
    rw [List.getElem?_append_left (by omega)]; exact h4
/-- one row: what is read, and what a change of it alone leaves -/
theorem RowsR.at (H : RowsR W base te ti sz v k h cs) (hne : ti ≠ te) {r : Nat} (hr : r < k) : ∃ b o cap p c, v = .slice (some ⟨b, o, none⟩) k cap ∧ b < W.heap.size ∧ W.cell? ⟨b, o + r, none⟩ = some (.slice p h c) ∧ QRow W base ti sz (.slice p h c) h (cs r) ∧
    ∀ W' ys, Ag (fun j => (Value.slice p h c).ownBlock = some j) W W' → QRow W' base ti sz (.slice p h c) h ys → RowsR W' base te ti sz v k h (updF cs r ys) := by
  obtain ⟨xs, h1, h2, h5⟩ := H
  obtain ⟨b, o, cap, e, _, hb, _, _, hc, _⟩ := h1.at (by omega)
  subst e
  obtain ⟨p, c, h3, h4⟩ := h2 r hr
  refine ⟨b, o, cap, p, c, rfl, hb, (hc r (by omega)).trans h3, h4, fun W' ys hA hq => ⟨xs, hA.qrow h1 (fun j hj e => h4.ne h1 hne j e hj), fun r' hr' => ?_, h5⟩⟩
  by_cases e : r' = r
  · subst e
    exact ⟨p, c, h3, by rw [updF_self]; exact hq⟩
  · obtain ⟨p', c', h6, h7⟩ := h2 r' hr'
    refine ⟨p', c', h6, ?_⟩
    rw [updF_ne _ _ e]
    exact hA.qrow h7 (fun j hj e2 => e (h5 r' r _ _ j hr' hr h6 h3 hj e2))
end
theorem rowL_get (m : Nat → Nat → Nat × Nat) {r h i : Nat} (hi : i < h) : (rowL m r h)[i]? = some (((m r i).1 : Int), ((m r i).2 : Int)) := by unfold rowL; rw [List.getElem?_map, List.getElem?_range hi]; rfl
theorem cells_get (m : Nat → Nat → Nat × Nat) {r h i : Nat} (hi : i < h) : (pairCells (rowL m r h))[i * 2]? = some (.int .i64 ((m r i).1 : Int)) ∧ (pairCells (rowL m r h))[i * 2 + 1]? = some (.int .i64 ((m r i).2 : Int)) := by
  have := pairCells_get (rowL m r h) i (by rw [rowL_len]; exact hi)
  rw [rowL_get m hi] at this
  exact this
/-- a match turned -/
def turnAt (m : Nat → Nat → Nat × Nat) (r i : Nat) (r' i' : Nat) : Nat × Nat := if r' = r ∧ i' = i then ((m r i).2, (m r i).1) else m r' i'
theorem turnAt_turn {m0 m : Nat → Nat → Nat × Nat} (h : TurnP m0 m) (r i : Nat) : TurnP m0 (turnAt m r i) := fun r' i' => by
  unfold turnAt
  by_cases e : r' = r ∧ i' = i
  · rw [if_pos e, e.1, e.2]
    rcases h r i with h1 | h1
    · exact .inr (by rw [h1])
    · exact .inl (by rw [h1])
  · rw [if_neg e]; exact h r' i'
theorem cells_turn (m : Nat → Nat → Nat × Nat) {r h i : Nat} (hi : i < h) : ((pairCells (rowL m r h)).set (i * 2) (.int .i64 ((m r i).2 : Int))).set (i * 2 + 1) (.int .i64 ((m r i).1 : Int)) = pairCells (rowL (turnAt m r i) r h) := by
  have hl := fun m => (pairCells_length (rowL m r h)).trans (by rw [rowL_len])
  refine List.ext_getElem? fun j => ?_
  by_cases hj : j < h * 2
  · obtain ⟨q, hq⟩ : ∃ q, q = j / 2 := ⟨_, rfl⟩
    have hqh : q < h := by omega
    have h1 := cells_get m (r := r) hqh
    have h2 := cells_get (turnAt m r i) (r := r) hqh
    rcases (show j = q * 2 ∨ j = q * 2 + 1 by omega) with e | e
    · rw [e, h2.1]
      rw [List.getElem?_set_ne (by omega)]
      by_cases e2 : q = i
      · subst e2
        rw [List.getElem?_set_self (by rw [hl]; omega)]
        unfold turnAt; rw [if_pos ⟨rfl, rfl⟩]
      · rw [List.getElem?_set_ne (by omega), h1.1]
        unfold turnAt; rw [if_neg (fun h => e2 h.2)]
    · rw [e, h2.2]
      by_cases e2 : q = i
      · subst e2
        rw [List.getElem?_set_self (by rw [List.length_set, hl]; omega)]
        unfold turnAt; rw [if_pos ⟨rfl, rfl⟩]
      · rw [List.getElem?_set_ne (by omega), List.getElem?_set_ne (by omega), h1.2]
        unfold turnAt; rw [if_neg (fun h => e2 h.2)]
  · rw [List.getElem?_eq_none (by rw [List.length_set, List.length_set, hl]; omega), List.getElem?_eq_none (by rw [hl]; omega)]
theorem SchR.schK {W : World} {base : Nat} {p : Option Addr} {k h c : Nat} {m : Nat → Nat → Nat × Nat} (H : SchR W base (.slice p k c) k h m) : SchK W W.heap.size p k h m := by
  refine ⟨Nat.le_refl _, fun hk => ?_⟩
  obtain ⟨xs, h1, h2, _⟩ := H
  obtain ⟨b, o, cap, e, _, hb, _, _, hc, _⟩ := h1.at (by omega)
  cases e
  refine ⟨b, o, rfl, hb, fun r hr => ?_⟩
  obtain ⟨q, cq, h3, h4⟩ := h2 r hr
  refine ⟨q, cq, (hc r (by omega)).trans h3, fun hh => ?_⟩
  obtain ⟨b', o', cap', e', _, hb', _, _, hc', _⟩ := h4.at (by omega)
  cases e'
  exact ⟨b', o', rfl, hb', fun i hi => ⟨(hc' (i * 2) (by omega)).trans (cells_get m hi).1, by
    have := (hc' (i * 2 + 1) (by omega)).trans (cells_get m hi).2
    rw [show o' + (i * 2 + 1) = o' + i * 2 + 1 by omega] at this
    exact this⟩⟩
/-- one mark more -/
def markT (t : Nat → Nat → Bool) (a b : Nat) (i j : Nat) : Bool := t i j || (decide (i = a) && decide (j = b))
theorem bv_set (t : Nat → Nat → Bool) (a b n : Nat) (hb : b < n) : (bv (t a) n).set b (.bool true) = bv (markT t a b a) n := by
  refine List.ext_getElem? fun j => ?_
  by_cases hj : j < n
  · rw [bv_get _ _ j hj]
    by_cases e : j = b
    · subst e
      rw [List.getElem?_set_self (by rw [bv_len]; exact hj)]
      unfold markT; simp
    · rw [List.getElem?_set_ne (Ne.symm e), bv_get _ _ j hj]
      unfold markT; simp [e]
  · rw [List.getElem?_eq_none (by rw [List.length_set, bv_len]; omega), List.getElem?_eq_none (by rw [bv_len]; omega)]
theorem markT_row (t : Nat → Nat → Bool) (a b n : Nat) (r : Nat) (hr : r ≠ a) : bv (t r) n = bv (markT t a b r) n := by
  unfold bv markT
  simp [hr]
theorem patU_ne {n : Nat} {m : Nat → Nat → Nat × Nat} (hA : AllP n m) (h2 : 2 ≤ n) {i : Nat} (hi : i < n) : patU (msL n m) i ≠ [] := by
  have key : ∀ a b, a < b → b < n → (i = a ∨ i = b) → patU (msL n m) i ≠ [] := fun a b hab hb hi' => by
    obtain ⟨r, q, hr, hq, e⟩ := hA a b hab hb
    have hm : m r q ∈ msL n m := mem_ms.2 ⟨r, q, hr, hq, rfl⟩
    have h3 : ∃ x, x ∈ patB (msL n m) i := by
      unfold patB
      by_cases h1 : (m r q).1 = i
      · exact ⟨72, List.mem_filterMap.2 ⟨_, hm, by rw [if_pos h1]⟩⟩
      · refine ⟨65, List.mem_filterMap.2 ⟨_, hm, by
          rw [if_neg h1]
          rcases unord_cases e with e2 | e2
          · rw [e2] at h1 ⊢
            rcases hi' with rfl | rfl
            · exact absurd rfl h1
            · rw [if_pos rfl]
          · rw [e2] at h1 ⊢
            rcases hi' with rfl | rfl
            · rw [if_pos rfl]
            · exact absurd rfl h1⟩⟩
    obtain ⟨x, hx⟩ := h3
    intro e2
    unfold patU at e2
    rw [List.map_eq_nil_iff] at e2
    rw [e2] at hx
    cases hx
  by_cases h0 : i = 0
  · exact key 0 1 (by omega) (by omega) (.inl h0)
  · exact key 0 i (by omega) hi (.inr rfl)
theorem infoBool : (Try.prog.info? 4).map (fun i => (i.zero, i.size, i.bytes)) = some (some (.bool false), 1, 1) := by kernel_rfl
theorem infoBools : (Try.prog.info? 33).map (fun i => (i.zero, i.size, i.bytes)) = some (some (.slice none 0 0), 1, 24) := by kernel_rfl
theorem underBools : Try.prog.underlying 33 = some (.slice 4) := by kernel_rfl
theorem underTable : Try.prog.underlying 32 = some (.slice 33) := by kernel_rfl
theorem makeBools (n : Nat) (hn : n ≤ 20) : ∃ vs : Array Value, vs.size = n ∧ (∀ j, j < n → vs[j]? = some (.bool false)) ∧
    ∀ W, Sem.run Try.prog (Instr.makeSlice 33 (.int .i64 (n : Int)) (.int .i64 (n : Int))) W = .ok (.slice (some ⟨W.heap.size, 0, none⟩) n n) (W.alloc (.cells vs 4)) := by
  obtain ⟨i0, hi, hz0, hz1, hz2⟩ := info_parts infoBool
  refine ⟨madeCells #[.bool false] n, size_madeCells _ _, fun j hj => ?_, fun W => ?_⟩
  · rw [← Array.getElem?_toList, toList_madeCells_one, List.getElem?_replicate, if_pos hj]
  · have := run_make (P := Try.prog) W 33 4 i0 _ underBools hi hz0 .i64 .i64 (n : Int) (n : Int) (by omega) (Int.le_refl _) (by rw [hz2]; omega) (by omega)
    rw [hz1, show (Value.bool false).cells = #[.bool false] from rfl] at this
    simpa using this
theorem qrow_bools (W : World) (n : Nat) (vs : Array Value) (f : Nat → Bool) {base : Nat} (hb : base ≤ W.heap.size) (hn : n ≤ maxLen) (hs : vs.size = n) (hv : ∀ j, j < n → vs[j]? = some (.bool (f j))) : QRow (W.alloc (.cells vs 4)) base 4 1 (.slice (some ⟨W.heap.size, 0, none⟩) n n) n (bv f n) :=
  ⟨by rw [bv_len]; omega, .inr ⟨W.heap.size, 0, n, vs, rfl, hb, World.alloc_heap_new W _, Nat.le_refl _, hn, by omega, fun j hj => by
    rw [Nat.zero_add, hv j (by omega), bv_get f n j (by omega)]⟩⟩
theorem RowsR.lts {W : World} {base : Nat} {te ti : TypeId} {sz : Nat} {v : Value} {k h : Nat} {cs : Nat → List Value} (H : RowsR W base te ti sz v k h cs) : ∃ xs, QRow W base te 1 v k xs ∧ (∀ r, r < k → ∃ p c, xs[r]? = some (.slice p h c) ∧ QRow W base ti sz (.slice p h c) h (cs r)) ∧
    (∀ r r' x x' b, r < k → r' < k → xs[r]? = some x → xs[r']? = some x' → x.ownBlock = some b → x'.ownBlock = some b → r = r') ∧ ∀ r x b, r < k → xs[r]? = some x → x.ownBlock = some b → b < W.heap.size := by
  obtain ⟨xs, h1, h2, h3⟩ := H
  refine ⟨xs, h1, h2, h3, fun r x b hr hx hb => ?_⟩
  obtain ⟨p, c, e1, e2⟩ := h2 r hr
  rw [hx] at e1
  cases e1
  exact (e2.lt b hb).2
theorem RowsR.tbl {W : World} {base : Nat} {p : Option Addr} {c n : Nat} {t : Nat → Nat → Bool} (H : RowsR W base 33 4 1 (.slice p n c) n n (fun a => bv (t a) n)) : TblI W p n (fun _ => n) t := by
  obtain ⟨xs, h1, h2, _⟩ := H
  exact TRow.tbl (base := base) (c := c) (ln := fun _ => n) ⟨xs, h1, h2⟩
theorem tabM_all {n k h : Nat} {m : Nat → Nat → Nat × Nat} (hk : n - 1 = k) (hh : n / 2 = h) (a b : Nat) : tabM n m a b = true ↔ ∃ q ∈ allQ k h, m q.1 q.2 = (a, b) := by
  subst hk; subst hh
  rw [tabM_iff, mem_ms]
  constructor
  · rintro ⟨r, i, hr, hi, e⟩
    exact ⟨(r, i), List.mem_flatMap.2 ⟨r, List.mem_range.2 hr, List.mem_map.2 ⟨i, List.mem_range.2 hi, rfl⟩⟩, e⟩
  · rintro ⟨q, hq, e⟩
    obtain ⟨r, hr, h2⟩ := List.mem_flatMap.1 hq
    obtain ⟨i, hi, e2⟩ := List.mem_map.1 h2
    rw [← e2] at e
    exact ⟨r, i, List.mem_range.1 hr, List.mem_range.1 hi, e⟩
/-- how often a byte is H -/
def cntH (l : List UInt8) : Nat := (l.filter fun b => decide (b = 72)).length
theorem cntH_snoc (l : List UInt8) (b : UInt8) : cntH (l ++ [b]) = cntH l + if b = 72 then 1 else 0 := by
  unfold cntH
  rw [List.filter_append, List.length_append]
  by_cases h : b = 72
  · simp [h]
  · simp [h]
theorem cntH_pat (ms : List (Nat × Nat)) (i : Nat) : cntH (patU ms i) = (ms.filter fun p => decide (p.1 = i)).length := by
  unfold cntH patU patB
  induction ms with
  | nil => rfl
  | cons p ms ih =>
    rw [List.filterMap_cons, List.filter_cons]
    by_cases h1 : p.1 = i
    · simp only [h1, if_true, List.map_cons, List.filter_cons, decide_true, List.length_cons]
      rw [← ih]
      rfl
    · by_cases h2 : p.2 = i
      · simp only [h1, h2, if_true, if_false, List.map_cons, List.filter_cons, decide_false]
        rw [if_neg (by decide)]
        exact ih
      · simp only [h1, h2, if_false, decide_false]
        exact ih
theorem strL_get (f : Nat → List UInt8) {n i : Nat} (hi : i < n) : (strL f n)[i]? = some (.string ⟨(f i).toArray⟩) := by unfold strL; rw [List.getElem?_map, List.getElem?_range hi]; rfl
end Go.Proofs.Ytbioondlmgolkaa
namespace Go.Proofs.Ytbioondlmgolkaa
open Go.RowKit Go.Shelf

/-- three boats in a ring -/
def ringT (i j : Nat) : Bool := (decide (i = 0) && decide (j = 1)) || (decide (i = 1) && decide (j = 2)) || (decide (i = 2) && decide (j = 0))
theorem ringT_tour : TourP 3 ringT where
  irr := fun i hi => by rcases (show i = 0 ∨ i = 1 ∨ i = 2 by omega) with rfl | rfl | rfl <;> rfl
  tot := fun i j hi hj => by
    rcases (show i = 0 ∨ i = 1 ∨ i = 2 by omega) with rfl | rfl | rfl <;> rcases (show j = 0 ∨ j = 1 ∨ j = 2 by omega) with rfl | rfl | rfl <;> intro h <;> first | rfl | exact absurd rfl h
theorem ring1 : tc1 3 ringT 3 = 1 := by decide
theorem asc3 : (ascE 2).length = 5 := by decide
theorem tn_asc (w : World) : Calls Try.prog 32 #[.int .i64 3] w fun e w' => e = .returned (.tuple #[.int .i64 5, .int .i64 0]) ∧ Below w.heap.size w w' := by
  refine (Ascents_any 3 w).mono ?_
  rintro e w' ⟨⟨_, h⟩ | ⟨k, hk, _, rfl⟩, hB⟩
  · omega
  · obtain rfl : k = 2 := by omega
    rw [asc3]
    exact ⟨rfl, hB⟩
theorem tbl_ofT {W : World} {B n : Nat} {ln : Nat → Nat} {r : Nat → Nat → Bool} (hB : B < W.heap.size) (h : ∀ i, i < n → ∃ p c, W.cell? ⟨B, i, none⟩ = some (.slice p (ln i) c) ∧ SrcBl W p (ln i) (r i)) : TblI W (some ⟨B, 0, none⟩) n ln r :=
  fun _ => ⟨B, 0, rfl, hB, fun i hi => by rw [Nat.zero_add]; exact h i hi⟩
theorem srcBl_ofT {W : World} {B m : Nat} {f : Nat → Bool} {vs : Array Value} (h : BoxN W B 4 vs) (hv : ∀ j, j < m → vs[j]? = some (.bool (f j))) : SrcBl W (some ⟨B, 0, none⟩) m f :=
  fun _ => ⟨B, 0, rfl, h.lt, fun j hj => by rw [Nat.zero_add, h.cell]; exact hv j hj⟩
set_option maxRecDepth 100000 in
set_option maxHeartbeats 4000000 in
theorem ten_any (w : World) : Calls Try.prog 11 #[] w fun e w' => e = .returned (.bool true) ∧ Below w.heap.size w w' := by
  go_enter Try.func11, Try.ntmps11
  have HC : Hid (Calls Try.prog 7 #[.int .i64 2] w fun e w' => ∃ p c, e = .returned (.tuple #[.slice p 1 c, .int .i64 0]) ∧ Below w.heap.size w w') := by
    refine (Circle_ok 2 w (by decide) (by decide) (by decide)).mono ?_
    rintro e w' ⟨v, rfl, hS, hB⟩
    obtain ⟨p, c, rfl⟩ := hS.isSlice
    exact ⟨p, c, rfl, hB⟩
  go_upto_region 2 with (go_at_call 7; refine HC.out.mono ?_; rintro e w1 ⟨p1, c1, rfl, hB1⟩; have HB1 := Lib.hid hB1; clear hB1)
  go_upto_region 3 with (go_at_call 32; refine (tn_asc _).mono ?_; rintro e w6 ⟨rfl, hB6⟩; have HB6 := Lib.hid (HB1.out.trans (hB6.mono HB1.out.size)); clear hB6)
  have hw6 : w.heap.size ≤ w6.heap.size := HB6.out.size
  have hb0 : BoxN (w6.alloc (.cells #[.bool false, .bool true, .bool false] 4)) w6.heap.size 4 #[.bool false, .bool true, .bool false] := BoxN.new rfl
  have hb0 := ((hb0.alloc (.cells #[.bool false, .bool false, .bool true] 4)).alloc (.cells #[.bool true, .bool false, .bool false] 4)).alloc (.cells #[.slice (some ⟨w6.heap.size, 0, none⟩) 3 3, .slice (some ⟨w6.heap.size + 1, 0, none⟩) 3 3, .slice (some ⟨w6.heap.size + 1 + 1, 0, none⟩) 3 3] 33)
  have hb1 : BoxN ((w6.alloc (.cells #[.bool false, .bool true, .bool false] 4)).alloc (.cells #[.bool false, .bool false, .bool true] 4)) (w6.heap.size + 1) 4 #[.bool false, .bool false, .bool true] := BoxN.new (by simp)
  have hb1 := (hb1.alloc (.cells #[.bool true, .bool false, .bool false] 4)).alloc (.cells #[.slice (some ⟨w6.heap.size, 0, none⟩) 3 3, .slice (some ⟨w6.heap.size + 1, 0, none⟩) 3 3, .slice (some ⟨w6.heap.size + 1 + 1, 0, none⟩) 3 3] 33)
  have hb2 : BoxN (((w6.alloc (.cells #[.bool false, .bool true, .bool false] 4)).alloc (.cells #[.bool false, .bool false, .bool true] 4)).alloc (.cells #[.bool true, .bool false, .bool false] 4)) (w6.heap.size + 1 + 1) 4 #[.bool true, .bool false, .bool false] := BoxN.new (by simp)
  have hb2 := hb2.alloc (.cells #[.slice (some ⟨w6.heap.size, 0, none⟩) 3 3, .slice (some ⟨w6.heap.size + 1, 0, none⟩) 3 3, .slice (some ⟨w6.heap.size + 1 + 1, 0, none⟩) 3 3] 33)
  have hb3 : BoxN ((((w6.alloc (.cells #[.bool false, .bool true, .bool false] 4)).alloc (.cells #[.bool false, .bool false, .bool true] 4)).alloc (.cells #[.bool true, .bool false, .bool false] 4)).alloc (.cells #[.slice (some ⟨w6.heap.size, 0, none⟩) 3 3, .slice (some ⟨w6.heap.size + 1, 0, none⟩) 3 3, .slice (some ⟨w6.heap.size + 1 + 1, 0, none⟩) 3 3] 33)) (w6.heap.size + 1 + 1 + 1) 33 #[.slice (some ⟨w6.heap.size, 0, none⟩) 3 3, .slice (some ⟨w6.heap.size + 1, 0, none⟩) 3 3, .slice (some ⟨w6.heap.size + 1 + 1, 0, none⟩) 3 3] := BoxN.new (by simp)
  have hBU : Below w6.heap.size w6 ((((w6.alloc (.cells #[.bool false, .bool true, .bool false] 4)).alloc (.cells #[.bool false, .bool false, .bool true] 4)).alloc (.cells #[.bool true, .bool false, .bool false] 4)).alloc (.cells #[.slice (some ⟨w6.heap.size, 0, none⟩) 3 3, .slice (some ⟨w6.heap.size + 1, 0, none⟩) 3 3, .slice (some ⟨w6.heap.size + 1 + 1, 0, none⟩) 3 3] 33)) := (((((Below.refl _ w6).alloc (Nat.le_refl _) _).alloc (by simp) _).alloc (by simp; omega) _).alloc (by simp; omega) _)
  have HMG : Hid (Calls Try.prog 20 #[.slice (some ⟨w6.heap.size + 1 + 1 + 1, 0, none⟩) 3 3] ((((w6.alloc (.cells #[.bool false, .bool true, .bool false] 4)).alloc (.cells #[.bool false, .bool false, .bool true] 4)).alloc (.cells #[.bool true, .bool false, .bool false] 4)).alloc (.cells #[.slice (some ⟨w6.heap.size, 0, none⟩) 3 3, .slice (some ⟨w6.heap.size + 1, 0, none⟩) 3 3, .slice (some ⟨w6.heap.size + 1 + 1, 0, none⟩) 3 3] 33)) fun e w' => e = .returned (.tuple #[.int .i64 1, .int .i64 0]) ∧ Below ((((w6.alloc (.cells #[.bool false, .bool true, .bool false] 4)).alloc (.cells #[.bool false, .bool false, .bool true] 4)).alloc (.cells #[.bool true, .bool false, .bool false] 4)).alloc (.cells #[.slice (some ⟨w6.heap.size, 0, none⟩) 3 3, .slice (some ⟨w6.heap.size + 1, 0, none⟩) 3 3, .slice (some ⟨w6.heap.size + 1 + 1, 0, none⟩) 3 3] 33)).heap.size ((((w6.alloc (.cells #[.bool false, .bool true, .bool false] 4)).alloc (.cells #[.bool false, .bool false, .bool true] 4)).alloc (.cells #[.bool true, .bool false, .bool false] 4)).alloc (.cells #[.slice (some ⟨w6.heap.size, 0, none⟩) 3 3, .slice (some ⟨w6.heap.size + 1, 0, none⟩) 3 3, .slice (some ⟨w6.heap.size + 1 + 1, 0, none⟩) 3 3] 33)) w') := by
    have hTU : TblI ((((w6.alloc (.cells #[.bool false, .bool true, .bool false] 4)).alloc (.cells #[.bool false, .bool false, .bool true] 4)).alloc (.cells #[.bool true, .bool false, .bool false] 4)).alloc (.cells #[.slice (some ⟨w6.heap.size, 0, none⟩) 3 3, .slice (some ⟨w6.heap.size + 1, 0, none⟩) 3 3, .slice (some ⟨w6.heap.size + 1 + 1, 0, none⟩) 3 3] 33)) (some ⟨w6.heap.size + 1 + 1 + 1, 0, none⟩) 3 (fun _ => 3) ringT := tbl_ofT hb3.lt fun i hi => by
      rcases (show i = 0 ∨ i = 1 ∨ i = 2 by omega) with rfl | rfl | rfl
      · exact ⟨_, _, hb3.cell 0, srcBl_ofT hb0 fun j hj => by rcases (show j = 0 ∨ j = 1 ∨ j = 2 by omega) with rfl | rfl | rfl <;> rfl⟩
      · exact ⟨_, _, hb3.cell 1, srcBl_ofT hb1 fun j hj => by rcases (show j = 0 ∨ j = 1 ∨ j = 2 by omega) with rfl | rfl | rfl <;> rfl⟩
      · exact ⟨_, _, hb3.cell 2, srcBl_ofT hb2 fun j hj => by rcases (show j = 0 ∨ j = 1 ∨ j = 2 by omega) with rfl | rfl | rfl <;> rfl⟩
    have := Triples_ok (some ⟨w6.heap.size + 1 + 1 + 1, 0, none⟩) 3 3 ringT _ (by decide) (by decide) ringT_tour hTU
    rw [ring1] at this
    exact this
  clear hb0 hb1 hb2 hb3
  have HBU := Lib.hid (HB6.out.trans (hBU.mono hw6))
  clear hBU
  go_upto_region 4 with (go_at_call 20; refine HMG.out.mono ?_; rintro e w8 ⟨rfl, hB8⟩; have HB8 := Lib.hid (HBU.out.trans (hB8.mono HBU.out.size)); clear hB8)
  go_wp2
  go_ret
  exact ⟨rfl, HB8.out⟩
end Go.Proofs.Ytbioondlmgolkaa
namespace Go.Proofs.Ytbioondlmgolkaa
open Go.RowKit Go.Shelf
attribute [local go_sem] Oper.semAt_some

theorem bv_setv (p : Nat → Bool) (b n : Nat) (v : Bool) (hb : b < n) : (bv p n).set b (.bool v) = bv (fun j => if j = b then v else p j) n := by
  refine List.ext_getElem? fun j => ?_
  by_cases hj : j < n
  · rw [bv_get _ _ j hj]
    by_cases e : j = b
    · subst e
      rw [List.getElem?_set_self (by rw [bv_len]; exact hj), if_pos rfl]
    · rw [List.getElem?_set_ne (Ne.symm e), bv_get _ _ j hj, if_neg e]
  · rw [List.getElem?_eq_none (by rw [List.length_set, bv_len]; omega), List.getElem?_eq_none (by rw [bv_len]; omega)]
theorem bv_congr {p q : Nat → Bool} {n : Nat} (h : ∀ j, j < n → p j = q j) : bv p n = bv q n := by
  refine List.ext_getElem? fun j => ?_
  by_cases hj : j < n
  · rw [bv_get _ _ j hj, bv_get _ _ j hj, h j hj]
  · rw [List.getElem?_eq_none (by rw [bv_len]; omega), List.getElem?_eq_none (by rw [bv_len]; omega)]
/-- a match turned -/
def flipT (t : Nat → Nat → Bool) (a b i j : Nat) : Bool := if (i = a ∧ j = b) ∨ (i = b ∧ j = a) then !t i j else t i j
theorem TourP.flip {n : Nat} {t : Nat → Nat → Bool} (H : TourP n t) {a b : Nat} (hne : a ≠ b) : TourP n (flipT t a b) where
  irr i hi := by
    unfold flipT
    rw [if_neg (by omega)]
    exact H.irr i hi
  tot i j hi hj hij := by
    have := H.tot i j hi hj hij
    unfold flipT
    by_cases e : (i = a ∧ j = b) ∨ (i = b ∧ j = a)
    · rw [if_pos e, if_pos (by omega), this]
    · rw [if_neg e, if_neg (by omega), this]
theorem flip_a {n : Nat} {t : Nat → Nat → Bool} {a b : Nat} (hne : a ≠ b) (hb : b < n) : (bv (t a) n).set b (.bool (!t a b)) = bv (flipT t a b a) n := by
  rw [bv_setv _ _ _ _ hb]
  refine bv_congr fun j hj => ?_
  unfold flipT
  by_cases e : j = b
  · subst e; rw [if_pos rfl, if_pos (.inl ⟨rfl, rfl⟩)]
  · rw [if_neg e, if_neg (by omega)]
theorem flip_b {n : Nat} {t : Nat → Nat → Bool} (H : TourP n t) {a b : Nat} (hne : a ≠ b) (ha : a < n) (hb : b < n) : (bv (t b) n).set a (.bool (t a b)) = bv (flipT t a b b) n := by
  rw [bv_setv _ _ _ _ ha]
  refine bv_congr fun j hj => ?_
  unfold flipT
  by_cases e : j = a
  · subst e; rw [if_pos rfl, if_pos (.inr ⟨rfl, rfl⟩), H.tot j b ha hb hne]
  · rw [if_neg e, if_neg (by omega)]
theorem flip_o {t : Nat → Nat → Bool} {a b r n : Nat} (h1 : r ≠ a) (h2 : r ≠ b) : bv (t r) n = bv (flipT t a b r) n := by
  refine bv_congr fun j hj => ?_
  unfold flipT
  rw [if_neg (by omega)]
theorem lowT {n : Nat} : TourP n fun a b => decide (a < b) where
  irr i hi := by simp
  tot i j hi hj hij := by
    by_cases h : i < j
    · simp [h, show ¬ j < i by omega]
    · simp [h, show j < i by omega]
/-- two rows: what is read, and what a change of both leaves -/
theorem RowsR.at2 {W : World} {base : Nat} {te ti : TypeId} {sz : Nat} {v : Value} {k h : Nat} {cs : Nat → List Value} (H : RowsR W base te ti sz v k h cs) (hne : ti ≠ te) {r s : Nat} (hr : r < k) (hs : s < k) (hrs : r ≠ s) :
    ∃ b o cap p c q d, v = .slice (some ⟨b, o, none⟩) k cap ∧ b < W.heap.size ∧ W.cell? ⟨b, o + r, none⟩ = some (.slice p h c) ∧ W.cell? ⟨b, o + s, none⟩ = some (.slice q h d) ∧ QRow W base ti sz (.slice p h c) h (cs r) ∧ QRow W base ti sz (.slice q h d) h (cs s) ∧
    (∀ j, (Value.slice p h c).ownBlock = some j → (Value.slice q h d).ownBlock ≠ some j) ∧
    ∀ W' ys zs, Ag (fun j => (Value.slice p h c).ownBlock = some j ∨ (Value.slice q h d).ownBlock = some j) W W' → QRow W' base ti sz (.slice p h c) h ys → QRow W' base ti sz (.slice q h d) h zs → RowsR W' base te ti sz v k h (updF (updF cs r ys) s zs) := by
  obtain ⟨xs, h1, h2, h5⟩ := H
  obtain ⟨b, o, cap, e, _, hb, _, _, hc, _⟩ := h1.at (by omega)
  subst e
  obtain ⟨p, c, h3, h4⟩ := h2 r hr
  obtain ⟨q, d, h6, h7⟩ := h2 s hs
  refine ⟨b, o, cap, p, c, q, d, rfl, hb, (hc r (by omega)).trans h3, (hc s (by omega)).trans h6, h4, h7, fun j hj e => hrs (h5 r s _ _ j hr hs h3 h6 hj e), fun W' ys zs hA hq hz => ⟨xs, hA.qrow h1 (fun j hj e => e.elim (fun e => h4.ne h1 hne j e hj) (fun e => h7.ne h1 hne j e hj)), fun r' hr' => ?_, h5⟩⟩
  by_cases e : r' = s
  · subst e
    exact ⟨q, d, h6, by rw [updF_self]; exact hz⟩
  · rw [updF_ne _ _ e]
    by_cases e2 : r' = r
    · subst e2
      exact ⟨p, c, h3, by rw [updF_self]; exact hq⟩
    · obtain ⟨p', c', h8, h9⟩ := h2 r' hr'
      refine ⟨p', c', h8, ?_⟩
      rw [updF_ne _ _ e2]
      exact hA.qrow h9 (fun j hj e3 => e3.elim (fun e3 => e2 (h5 r' r _ _ j hr' hr h8 h3 hj e3)) (fun e3 => e (h5 r' s _ _ j hr' hs h8 h6 hj e3)))
set_option maxRecDepth 100000 in
set_option maxHeartbeats 8000000 in
theorem regatta_any (n : Nat) (a : Option Addr) (cap : Nat) (ps : List (Int × Int)) (w : World) (hn1 : 1 ≤ n) (hn12 : n ≤ 12) (hP : PairsIn w a cap ps) :
    Calls Try.prog 19 #[.int .i64 (n : Int), .slice a ps.length cap] w fun e w' => (∃ p c t, e = .returned (.slice p n c) ∧ TourP n t ∧ RowsR w' w.heap.size 33 4 1 (.slice p n c) n n (fun r => bv (t r) n)) ∧ Below w.heap.size w w' := by
  have HP := Lib.hid hP.g
  have hfit := hP.fits
  have hcm := hP.capm
  unfold maxLen at hcm
  clear hP
  obtain ⟨len, HL⟩ : ∃ len, Hid (ps.length = len) := ⟨_, rfl⟩
  rw [HL.out] at hfit ⊢
  obtain ⟨vb, hvb1, hvb2, hmb⟩ := makeBools n (by omega)
  obtain ⟨y1, hy1, hya, hyb, hyc⟩ := info_parts infoBools
  have HVB1 := Lib.hid hvb1
  have HVB2 := Lib.hid hvb2
  clear hvb1 hvb2
  go_enter Try.func19, Try.ntmps19
  go_upto_region 3 with (fail)
  go_loopw [5, 6] (fun s5 s6 wr => ∃ i : Nat, i ≤ n ∧ s6 = .int .i64 (i : Int) ∧ Hid (RowsR wr w.heap.size 33 4 1 s5 i n (fun a => bv (fun b => decide (a < b)) n)) ∧ Hid (Below w.heap.size w wr)) (fun _ s6 _ => n - (intOf s6).toNat)
  case atStart => exact ⟨0, by omega, rfl, RowsR.nil _ _ _ _ _ _ _, Below.refl _ _⟩
  case round =>
    obtain ⟨i, hi, rfl, hR, hB⟩ := hrel
    obtain ⟨p5, c5, rfl⟩ := hR.out.isSlice
    obtain ⟨wo, hwo⟩ : ∃ wo, Hid (wo = wr) := ⟨_, rfl⟩
    rw [← hwo.out] at hR hB ⊢
    clear hwo
    have hwr : w.heap.size ≤ wo.heap.size := hB.out.size
    by_cases hin : i < n
    · have g1 : (i : Int) < (n : Int) := by omega
      have HQ0 : Hid (QRow (wo.alloc (.cells vb 4)) wo.heap.size 4 1 (.slice (some ⟨wo.heap.size, 0, none⟩) n n) n (bv (fun _ => false) n)) := qrow_bools wo n vb _ (Nat.le_refl _) (by unfold maxLen; omega) HVB1.out HVB2.out
      have HB0 : Hid (Below wo.heap.size wo (wo.alloc (.cells vb 4))) := (Below.refl _ _).alloc (Nat.le_refl _) _
      go_upto_region 7 with (fail)
      obtain ⟨R, hRR⟩ : ∃ R, Hid (R = wo.heap.size) := ⟨_, rfl⟩
      rw [← hRR.out] at HQ0 HB0
      simp only [← hRR.out]
      generalize (wo.alloc (.cells vb 4)) = X at *
      have HQ1 : Hid (QRow X R 4 1 (.slice (some ⟨R, 0, none⟩) n n) n (bv (fun j => decide (i < j) && decide (j < i + 1)) n)) := by
        unfold Hid
        rw [bv_congr (q := fun _ => false) fun j hj => by
          by_cases e : i < j
          · simp [e]; omega
          · simp [e]]
        exact HQ0.out
      clear HQ0
      go_loopw [8] (fun s8 wq => ∃ x : Nat, i < x ∧ x ≤ n ∧ s8 = .int .i64 (x : Int) ∧ Hid (QRow wq R 4 1 (.slice (some ⟨R, 0, none⟩) n n) n (bv (fun j => decide (i < j) && decide (j < x)) n)) ∧ Hid (Below R wo wq)) (fun s8 _ => n - (intOf s8).toNat)
      case atStart => exact ⟨i + 1, by omega, by omega, int_eq (by omega), HQ1, HB0⟩
      case round =>
        clear HQ1 HB0
        obtain ⟨x, hix, hx, rfl, hQ, hBq⟩ := hrel
        by_cases hxn : x < n
        · have g2 : (x : Int) < (n : Int) := by omega
          have HQV := Lib.hid (hQ.out.set x (by omega) (.bool true))
          rw [bv_setv _ _ _ _ hxn] at HQV
          have HQ2 : Hid (QRow (wr.setCell ⟨R, x, none⟩ (.bool true)) R 4 1 (.slice (some ⟨R, 0, none⟩) n n) n (bv (fun j => decide (i < j) && decide (j < x + 1)) n)) := by
            unfold Hid
            have := HQV.out
            rw [Nat.zero_add] at this
            rw [bv_congr fun j hj => show (decide (i < j) && decide (j < x + 1)) = if j = x then true else (decide (i < j) && decide (j < x)) by
              by_cases e : j = x
              · subst e; simp [hix]
              · rw [if_neg e]; congr 1; simp; omega]
            exact this
          have HB2 : Hid (Below R wo (wr.setCell ⟨R, x, none⟩ (.bool true))) := ((Ag.refl (fun j => j = R) wr).set ⟨R, x, none⟩ _ (.inr rfl)).below hBq.out (by rw [hRR.out]; exact hBq.out.size) (fun k hk e => by omega)
          obtain ⟨g, o, cap', e, _, _, _, _, hc, hfz⟩ := hQ.out.at (by omega)
          cases e
          have c1 : wr.cell? ⟨R, x, none⟩ = some (.bool (decide (i < x) && decide (x < x))) := by
            have := (hc x (by omega)).trans (bv_get _ _ x hxn)
            rw [Nat.zero_add] at this
            exact this
          have f1 : wr.frozen? ⟨R, x, none⟩ = false := hfz x
          clear hc hfz HQV hQ hBq
          go_wp2
          exact ⟨⟨x + 1, by omega, by omega, int_eq (by omega), HQ2, HB2⟩, by simp [intOf]; omega⟩
        · have g2 : ¬ (x : Int) < (n : Int) := by omega
          obtain rfl : n = x := by omega
          have hRw : R ≤ wr.heap.size := by rw [hRR.out]; exact hBq.out.size
          obtain ⟨xs, h1, h2, h3, h4⟩ := hR.out.lts
          have hlt : ∀ {b}, b < wo.heap.size → b < R := fun h => by rw [hRR.out]; exact h
          have HX0 : Hid (QRow wr w.heap.size 33 1 (.slice p5 i c5) i xs) := h1.below hBq.out (fun k hk => hlt (h1.lt k hk).2)
          have HX1 := Lib.hid (HX0.out.alloc (.cells #[.slice (some ⟨R, 0, none⟩) n n] 33))
          have HX2 : Hid (∀ r, r < i → ∃ p c, xs[r]? = some (.slice p n c) ∧ QRow (wr.alloc (.cells #[.slice (some ⟨R, 0, none⟩) n n] 33)) w.heap.size 4 1 (.slice p n c) n (bv (fun b => decide (r < b)) n)) := fun r hr => by
            obtain ⟨p, c, e1, e2⟩ := h2 r hr
            exact ⟨p, c, e1, (e2.below hBq.out (fun k hk => hlt (e2.lt k hk).2)).alloc _⟩
          have HX3 := Lib.hid h3
          have HX4 : Hid (∀ r x b, r < i → xs[r]? = some x → x.ownBlock = some b → (Value.slice (some ⟨R, 0, none⟩) n n).ownBlock ≠ some b) := fun r x b hr hx hb e => by
            have h5 := hlt (h4 r x b hr hx hb)
            have e2 : R = b := Option.some.inj e
            omega
          have HX5 : Hid (QRow (wr.alloc (.cells #[.slice (some ⟨R, 0, none⟩) n n] 33)) w.heap.size 4 1 (.slice (some ⟨R, 0, none⟩) n n) n (bv (fun b => decide (i < b)) n)) := by
            have := (hQ.out.mono (base' := w.heap.size) (by rw [hRR.out]; exact hwr)).alloc (.cells #[.slice (some ⟨R, 0, none⟩) n n] 33)
            rw [bv_congr (q := fun b => decide (i < b)) fun j hj => by simp [hj]] at this
            exact this
          have hRw : R ≤ wr.heap.size := by rw [hRR.out]; exact hBq.out.size
          have hwwr : w.heap.size ≤ wr.heap.size := by have := hRR.out; omega
          have HB6 : Hid (Below w.heap.size w (wr.alloc (.cells #[.slice (some ⟨R, 0, none⟩) n n] 33))) := (hB.out.trans (hBq.out.mono (by rw [hRR.out]; exact hwr))).alloc (by have := hRR.out; omega) _
          have HLT := Lib.hid (fun kk (e : _ = some kk) => (h1.lt kk e).1)
          have HCN := Lib.hid (cells_new1 wr 33 (.slice (some ⟨R, 0, none⟩) n n))
          clear h1 h2 h3 h4 hR hB hQ hBq HX0
          go_wp2_with (at_builtin; go_must (refine wpList_append_q _ rfl (.tmp 32) (.tmp 34) 32 rfl w.heap.size 33 y1 (.slice none 0 0) 1 24 underTable hy1 hya hyb hyc rfl (by decide) _ i xs rfl HX1.out ⟨_, 0, none⟩ 1 1 [.slice (some ⟨R, 0, none⟩) n n] rfl rfl HCN.out (by simp [Value.oneCell']) (by unfold maxLen; omega) (by omega) (by simp; omega) ?_); intro v5 w5 hq5 hg5 ho5; have HQ5 := Lib.hid hq5; have HG5 := Lib.hid hg5; clear hq5 hg5 ho5)
          have HR5 : Hid (RowsR w5 w.heap.size 33 4 1 v5 (i + 1) n (fun a => bv (fun b => decide (a < b)) n)) := RowsR.push (by decide) HX2.out HX1.out HX5.out HG5.out HQ5.out HX3.out HX4.out
          have HB5 : Hid (Below w.heap.size w w5) := Below.grown HB6.out HG5.out (by simp; omega) (fun kk e => HLT.out kk e)
          exact ⟨⟨i + 1, by omega, int_eq (by omega), HR5, HB5⟩, by simp [intOf]; omega⟩
    · have g1 : ¬ (i : Int) < (n : Int) := by omega
      obtain rfl : n = i := by omega
      have HR0 : Hid (RowsR wo w.heap.size 33 4 1 (.slice p5 n c5) n n (fun r => bv ((fun a b => decide (a < b)) r) n)) := hR
      have HB0 := Lib.hid hB.out
      clear hR hB g1 hi hin HVB1 HVB2 hmb
      go_upto_region 12 with (fail)
      go_loopw [9] (fun s9 wr => ∃ (i : Nat) (t : Nat → Nat → Bool), i ≤ len ∧ i ≤ 60 ∧ s9 = .int .i64 (i : Int) ∧ Hid (RowsR wr w.heap.size 33 4 1 (.slice p5 n c5) n n (fun r => bv (t r) n)) ∧ Hid (TourP n t) ∧ Hid (Below w.heap.size w wr)) (fun s9 _ => 70 - (intOf s9).toNat)
      case atStart => exact ⟨0, _, by omega, by omega, rfl, HR0, lowT, HB0⟩
      case round =>
        clear HR0 HB0
        obtain ⟨i, t, hi, hi60, rfl, hR, hT, hB⟩ := hrel
        have hwr' : w.heap.size ≤ wr.heap.size := hB.out.size
        by_cases hgo : i < len ∧ i < 60
        · have g1 : (i : Int) < (len : Int) := by omega
          have g2 : (i : Int) < 60 := by omega
          obtain ⟨b, o, rfl, hb, k1, k2⟩ := HP.out.at (k := i) (by rw [HL.out]; exact hgo.1)
          have hbr : b < wr.heap.size := Nat.lt_of_lt_of_le hb hwr'
          have r1 : wr.cell? ⟨b, o + i * 2, none⟩ = some (.int .i64 (la ps i)) := (hB.out.cell (p := ⟨b, o + i * 2, none⟩) hb).trans k1
          have r2 : wr.cell? ⟨b, o + i * 2 + 1, none⟩ = some (.int .i64 (ua ps i)) := (hB.out.cell (p := ⟨b, o + i * 2 + 1, none⟩) hb).trans k2
          have hl1 := um_lt (la ps i) (m := n) hn1
          have hl2 := um_lt (ua ps i) (m := n) hn1
          have HM1 := Lib.hid (fun W => small_any (la ps i) n W hn1 (by omega))
          have HM2 := Lib.hid (fun W => small_any (ua ps i) n W hn1 (by omega))
          generalize um (la ps i) n = x at *
          generalize um (ua ps i) n = y at *
          generalize la ps i = z1 at *
          generalize ua ps i = z2 at *
          clear k1 k2
          go_upto_region 14 with (fail)
          have m1 : ∀ d : BW wr.heap.size wr, d.w.cell? ⟨b, o + i * 2, none⟩ = some (.int .i64 z1) := fun d => d.cell hbr r1
          have m2 : ∀ d : BW wr.heap.size wr, d.w.cell? ⟨b, o + i * 2 + 1, none⟩ = some (.int .i64 z2) := fun d => d.cell hbr r2
          have HN1 : Hid (∀ d : BW wr.heap.size wr, Calls Try.prog 6 #[.int .i64 z1, .int .i64 ((n : Int) - 1)] d.w fun e w' => e = .returned (.int .i64 (x : Nat)) ∧ ∃ d' : BW wr.heap.size wr, w' = d'.w) := fun d => Calls.bw ((HM1.out d.w).mono fun e w' h => ⟨h.1, by rw [h.2]; exact d.b⟩)
          have HN2 : Hid (∀ d : BW wr.heap.size wr, Calls Try.prog 6 #[.int .i64 z2, .int .i64 ((n : Int) - 1)] d.w fun e w' => e = .returned (.int .i64 (y : Nat)) ∧ ∃ d' : BW wr.heap.size wr, w' = d'.w) := fun d => Calls.bw ((HM2.out d.w).mono fun e w' h => ⟨h.1, by rw [h.2]; exact d.b⟩)
          clear r1 r2
          refine wp_region_bw (by kernel_rfl) (by kernel_rfl) ?_
          repeat (go_big_quiet_step ((first
            | rfl
            | (go_at_call 6; with_reducible exact HN1.out _)
            | (go_at_call 6; with_reducible exact HN2.out _))))
          refine wpQuiet_nil ?_
          rintro _ ⟨d, rfl⟩
          have HRd : Hid (RowsR d.w w.heap.size 33 4 1 (.slice p5 n c5) n n (fun r => bv (t r) n)) := hR.out.below d.b (Nat.le_refl _)
          have HBd : Hid (Below w.heap.size w d.w) := hB.out.trans (d.b.mono hwr')
          clear hR hB m1 m2 HN1 HN2
          generalize d.w = Z at *
          have hwZ : w.heap.size ≤ Z.heap.size := HBd.out.size
          by_cases hxy : x = y
          · subst hxy
            have q1 : ((x : Int) == (x : Int)) = true := by simp
            go_wp2
            exact ⟨⟨i + 1, t, by omega, by omega, int_eq (by omega), HRd, hT, HBd⟩, by simp [intOf]; omega⟩
          · have q1 : ((x : Int) == (y : Int)) = false := by simp; omega
            have q2 : ¬ (x : Int) = (y : Int) := by omega
            have hxy' : x ≠ y := hxy
            obtain ⟨bt, ot, capt, px, cx, py, cy, e, hbt, kx, ky, hqx, hqy, hdis, hup⟩ := HRd.out.at2 (by decide) hl1 hl2 hxy'
            cases e
            obtain ⟨gx, ox, capx, e, hgx0, hgx, _, _, hcx, hfx⟩ := hqx.at (by omega)
            cases e
            obtain ⟨gy, oy, capy, e, hgy0, hgy, _, _, hcy, hfy⟩ := hqy.at (by omega)
            cases e
            have hgne : gx ≠ gy := fun e => hdis gx rfl (by rw [e]; rfl)
            have HUP := Lib.hid hup
            have HQX := Lib.hid hqx
            have HQY := Lib.hid hqy
            have HFX := Lib.hid (flip_a (t := t) hxy' hl2)
            have HFY := Lib.hid (flip_b hT.out hxy' hl1 hl2)
            have HFO : Hid (∀ r, r ≠ x → r ≠ y → bv (t r) n = bv (flipT t x y r) n) := fun r h1 h2 => flip_o h1 h2
            have HTN := Lib.hid (hT.out.flip hxy')
            clear hcx hcy hfx hfy hup hqx hqy hdis
            go_wp2
            go_quiet (fail)
            have HQX0 : Hid (QRow (Z.drewN nq) w.heap.size 4 1 (.slice (some ⟨gx, ox, none⟩) n cx) n (bv (t x) n)) := HQX.out
            have HQY0 : Hid (QRow (Z.drewN nq) w.heap.size 4 1 (.slice (some ⟨gy, oy, none⟩) n cy) n (bv (t y) n)) := HQY.out
            have HAZ : Hid (Ag (fun j => (Value.slice (some ⟨gx, ox, none⟩) n cx).ownBlock = some j ∨ (Value.slice (some ⟨gy, oy, none⟩) n cy).ownBlock = some j) Z (Z.drewN nq)) := (Ag.refl _ Z).drewN nq
            clear kx ky HQX HQY
            generalize Z.drewN nq = ZA at *
            obtain ⟨_, _, _, e, _, _, _, _, hcx, hfx⟩ := HQX0.out.at (by omega)
            cases e
            have c1 := (hcx y (by omega)).trans (bv_get _ _ y hl2)
            have f1 := hfx (ox + y)
            have HSX := HQX0.out.set y (by omega) (.bool (!t x y))
            rw [HFX.out] at HSX
            have HQX1 := Lib.hid HSX
            have HA1 : Hid (Ag (fun j => (Value.slice (some ⟨gx, ox, none⟩) n cx).ownBlock = some j) ZA (ZA.setCell ⟨gx, ox + y, none⟩ (.bool (!t x y)))) := (Ag.refl _ ZA).set ⟨gx, ox + y, none⟩ _ (.inr rfl)
            have HQY1 : Hid (QRow (ZA.setCell ⟨gx, ox + y, none⟩ (.bool (!t x y))) w.heap.size 4 1 (.slice (some ⟨gy, oy, none⟩) n cy) n (bv (t y) n)) := HA1.out.qrow HQY0.out (fun k hk e => hgne ((Option.some.inj e).trans (Option.some.inj hk).symm))
            obtain ⟨_, _, _, e, _, _, _, _, hcy, hfy⟩ := HQY1.out.at (by omega)
            cases e
            have c2 := (hcy x (by omega)).trans (bv_get _ _ x hl1)
            have f2 := hfy (oy + x)
            have HSY := HQY1.out.set x (by omega) (.bool (t x y))
            rw [HFY.out] at HSY
            have HQY2 := Lib.hid HSY
            have HA2 : Hid (Ag (fun j => (Value.slice (some ⟨gy, oy, none⟩) n cy).ownBlock = some j) (ZA.setCell ⟨gx, ox + y, none⟩ (.bool (!t x y))) ((ZA.setCell ⟨gx, ox + y, none⟩ (.bool (!t x y))).setCell ⟨gy, oy + x, none⟩ (.bool (t x y)))) := (Ag.refl _ _).set ⟨gy, oy + x, none⟩ _ (.inr rfl)
            have HQX2 := Lib.hid (HA2.out.qrow HQX1.out (fun k hk e => hgne ((Option.some.inj hk).trans (Option.some.inj e).symm)))
            have HA3 := Lib.hid ((HAZ.out.trans (HA1.out.mono fun k h => Or.inl h)).trans (HA2.out.mono fun k h => Or.inr h))
            have HR3 := Lib.hid (HUP.out _ _ _ HA3.out HQX2.out HQY2.out)
            have HB3 := Lib.hid (HA3.out.below HBd.out hwZ (fun k hk e => by
              rcases e with e | e
              · have e2 : gx = k := Option.some.inj e
                omega
              · have e2 : gy = k := Option.some.inj e
                omega))
            clear hcx hfx hcy hfy HSX HSY HUP HA1 HA2 HA3 HQX0 HQY0 HQX1 HQY1 HQX2 HQY2 HAZ HRd HBd hT
            go_wp2
            refine ⟨⟨i + 1, flipT t x y, by omega, by omega, int_eq (by omega), HR3.out.congr fun r hr => ?_, HTN, HB3⟩, by simp [intOf]; omega⟩
            by_cases e1 : r = y
            · subst e1; rw [updF_self]
            · rw [updF_ne _ _ e1]
              by_cases e2 : r = x
              · subst e2; rw [updF_self]
              · rw [updF_ne _ _ e2]; exact HFO.out r e2 e1
        · rcases (show (¬ i < len) ∨ (i < len ∧ ¬ i < 60) by omega) with hg | hg
          all_goals (first
            | (have g1 : ¬ (i : Int) < (len : Int) := by omega
               go_wp2
               go_ret
               exact ⟨⟨_, _, rfl, t, hT.out, hR.out⟩, hB.out⟩)
            | (have g1 : (i : Int) < (len : Int) := by omega
               have g2 : ¬ (i : Int) < 60 := by omega
               go_wp2
               go_ret
               exact ⟨⟨_, _, rfl, t, hT.out, hR.out⟩, hB.out⟩))
end Go.Proofs.Ytbioondlmgolkaa
namespace Go.Proofs.Ytbioondlmgolkaa
open Go.RowKit Go.Shelf
attribute [local go_sem] Oper.semAt_some

set_option maxRecDepth 100000 in
set_option maxHeartbeats 16000000 in
theorem lawC (z : Int) (a : Option Addr) (cap : Nat) (ps : List (Int × Int)) (w : World) (hPP : PairsIn w a cap ps) :
    Calls Try.prog 5 #[.int .i64 z, .slice a ps.length cap] w fun e w' => e = .returned (.bool true) ∧ Below w.heap.size w w' := by
  have hum := um_lt z (m := 10) (by decide)
  have HSM : Hid (∀ W, Calls Try.prog 6 #[.int .i64 z, .int .i64 9] W fun e w' => e = .returned (.int .i64 (um z 10 : Nat)) ∧ w' = W) := fun W => small_any z 10 W (by decide) (by decide)
  generalize um z 10 = q at *
  obtain ⟨n, hn⟩ : ∃ n : Nat, Hid (n = 1 + q) := ⟨_, rfl⟩
  have e1 : (1 : Int) + (q : Int) = (n : Int) := by have := hn.out; omega
  have hn1 : 1 ≤ n := by have := hn.out; omega
  have hn10 : n ≤ 10 := by have := hn.out; omega
  have HRE := Lib.hid (regatta_any n a cap ps w hn1 (by omega) hPP)
  clear hPP hum
  obtain ⟨len, HL⟩ : ∃ len, Hid (ps.length = len) := ⟨_, rfl⟩
  rw [HL.out] at HRE ⊢
  go_enter Try.func5, Try.ntmps5
  go_upto_region 3 with (first
    | (go_at_call 6; refine (HSM.out _).mono ?_; rintro e w4 ⟨rfl, hw4⟩; replace hw4 := hw4.symm; subst hw4; try dsimp only)
    | (go_at_call 19; refine HRE.out.mono ?_; rintro e w1 ⟨⟨p1, c1, t, rfl, hT1, hR1⟩, hB1⟩; have HT := Lib.hid hT1; have HR1 := Lib.hid hR1; have HB1 := Lib.hid hB1; clear hT1 hR1 hB1))
  have HTB : Hid (∀ W, Below w1.heap.size w1 W → TblI W p1 n (fun _ => n) t) := fun W hW => HR1.out.tbl.below hW (Nat.le_refl _)
  have HTR := Lib.hid (fun W (hW : Below w1.heap.size w1 W) => Triples_ok p1 n c1 t W hn1 (by omega) HT.out (HTB.out W hW))
  have HCK := Lib.hid (fun W (hW : Below w1.heap.size w1 W) => Check_any p1 n c1 (fun _ => n) t W (by omega) (HTB.out W hW))
  have HRK := Lib.hid (fun W (hW : Below w1.heap.size w1 W) => Rank_ok p1 n c1 t W hn1 hn10 HT.out (HTB.out W hW))
  have HOK := Lib.hid (chain_ok HT.out hn1 (by omega))
  have HT1 := Lib.hid (tc1_trans HT.out)
  have HF1 := Lib.hid (FW_full HT.out)
  have h0 : Hid (Below w1.heap.size w1 w1) := Below.refl _ _
  clear HR1 HRE
  generalize tc1 n t n = kk at *
  generalize FW n t (full n) = uu at *
  by_cases hT : TransP n t
  · have hk : kk = 0 := HT1.out.2 hT
    have hu : uu = 0 := HF1.out.2 hT
    subst hk
    subst hu
    have HTT := Lib.hid hT
    have HLV := Lib.hid (fun W (hW : Below w1.heap.size w1 W) => callsIn_wide.1 (Levels_in p1 n c1 (fun _ => n) t W (HOK.out.2 hT) (HTB.out W hW)))
    have HMG := Lib.hid (fun W (hW : Below w1.heap.size w1 W) => Magnitude_any p1 n c1 (fun _ => n) t W (by omega) (HTB.out W hW))
    have HSC := Lib.hid (fun W (hW : Below w1.heap.size w1 W) => Scores_ok p1 n c1 t W hn1 (by omega) HT.out (HTB.out W hW))
    have HNB : Hid (¬ ¬ TabOK n (fun _ => n) t) := fun h => h (HOK.out.2 hT)
    clear hT
    go_upto_region 6 with (first
      | (go_at_call 20; refine (HTR.out _ h0.out).mono ?_; rintro e w2 ⟨rfl, hB2⟩; have HB2 : Hid (Below w1.heap.size w1 w2) := hB2; clear hB2)
      | (go_at_call 21; refine (HCK.out _ HB2.out).mono ?_; rintro e w3 ⟨hck, hB3⟩; have HB3 : Hid (Below w1.heap.size w1 w3) := HB2.out.trans (hB3.mono HB2.out.size); clear hB3; obtain rfl := hck.elim (fun h => h.1) (fun h => absurd h.2 HNB.out); clear hck)
      | (go_at_call 22; refine (HRK.out _ HB3.out).mono ?_; rintro e w4 ⟨⟨pw, cw, l, rfl, hRL, hqw⟩, hB4⟩; have HRL := Lib.hid hRL; have HQW := Lib.hid hqw; have HB34 := Lib.hid hB4; have HB4 : Hid (Below w1.heap.size w1 w4) := HB3.out.trans (hB4.mono HB3.out.size); clear hB4 hRL hqw))
    have HWK := Lib.hid (chain_weak HT.out)
    have HOO := Lib.hid (HOK.out.2 HTT.out)
    have q0 : ((n : Int) != (n : Int)) = false := by simp
    go_upto_region 13 with (first
      | (go_at_call 23; refine (HLV.out _ HB4.out).mono ?_; rintro e w5 ⟨hlv, hB5⟩; have HB45 := Lib.hid hB5; have HB5 : Hid (Below w1.heap.size w1 w5) := HB4.out.trans (hB5.mono HB4.out.size); clear hB5; obtain ⟨v5, L, rfl, hSL, hq5⟩ := hlv.chain HOO.out HWK.out; obtain ⟨p5, c5, rfl⟩ := hq5.isSlice; have HV5 : Hid (SrcI w5 p5 n (fun x => ((lvl n t x : Nat) : Int))) := hq5.srcI (fun j hj => (ivI_get _ _ j hj).trans (by rw [chain_lvl HT.out HTT.out (by omega) HRL.out hSL hj])); clear hlv hSL hq5)
      | (go_at_call 24; refine (HMG.out _ HB5.out).mono ?_; rintro e w6 ⟨hmg, hB6⟩; have HB56 := Lib.hid hB6; have HB6 : Hid (Below w1.heap.size w1 w6) := HB5.out.trans (hB6.mono HB5.out.size); clear hB6; obtain rfl := hmg.chain HOO.out HT.out HTT.out (by omega) HRL.out; clear hmg)
      | (go_at_call 9; refine (HSC.out _ HB6.out).mono ?_; rintro e w7 ⟨⟨p7, c7, rfl, hq7⟩, hB7⟩; have HB67 := Lib.hid hB7; have HB7 : Hid (Below w1.heap.size w1 w7) := HB6.out.trans (hB7.mono HB6.out.size); have HQ7 := Lib.hid hq7; clear hB7 hq7))
    have HV7 : Hid (SrcI w7 p5 n (fun x => ((lvl n t x : Nat) : Int))) := (HV5.out.below HB56.out (Nat.le_refl _)).below HB67.out (Nat.le_refl _)
    have HS7 : Hid (SrcI w7 p7 n (fun x => ((cnt (t x) n : Nat) : Int))) := HQ7.out.srcI (fun j hj => ivI_get _ _ j hj)
    have HW4 : Hid (SrcI w4 pw n (fun x => ((nth l x : Nat) : Int))) := HQW.out.srcI (fun j hj => (RkL.nths HT.out HTT.out HRL.out hj).1)
    have HW7 : Hid (SrcI w7 pw n (fun x => ((nth l x : Nat) : Int))) := ((HW4.out.below HB45.out (Nat.le_refl _)).below HB56.out (Nat.le_refl _)).below HB67.out (Nat.le_refl _)
    have HNT := Lib.hid (fun x (hx : x < n) => (RkL.nths HT.out HTT.out HRL.out hx).2)
    have HWN := Lib.hid (fun x (hx : x < n) => wins HT.out hx)
    have hBW : Hid (Below w.heap.size w w7) := HB1.out.trans (HB7.out.mono HB1.out.size)
    clear HV5 HW4 HQW HQ7 HB2 HB3 HB4 HB5 HB6 HB7 HB34 HB45 HB56 HB67 HTR HCK HRK HLV HMG HSC HOK HOO HWK HTB HT1 HF1
    obtain ⟨bw, ow, rfl, hbw, kw⟩ := HW7.out (by omega)
    obtain ⟨bv, ov, rfl, hbv, kv⟩ := HV7.out (by omega)
    obtain ⟨bs, os, rfl, hbs, ks⟩ := HS7.out (by omega)
    have HKW := Lib.hid kw
    have HKV := Lib.hid kv
    have HKS := Lib.hid ks
    clear kw kv ks HW7 HV7 HS7
    go_upto_region 16 with (fail)
    go_loopw [18] (fun s18 wq => ∃ x : Nat, x ≤ n ∧ s18 = .int .i64 (x : Int) ∧ Hid (Below w7.heap.size w7 wq)) (fun s18 _ => n - (intOf s18).toNat)
    case atStart => exact ⟨0, by omega, rfl, Below.refl _ _⟩
    case round =>
      obtain ⟨x, hx, rfl, hB⟩ := hrel
      by_cases hxn : x < n
      · have g1 : (x : Int) < (n : Int) := by omega
        obtain ⟨hy, hyl⟩ := HNT.out x hxn
        have k1 := (hB.out.cell (p := ⟨bw, ow + x, none⟩) hbw).trans (HKW.out x hxn)
        have k2 := (hB.out.cell (p := ⟨bv, ov + nth l x, none⟩) hbv).trans (HKV.out _ hy)
        have k3 := (hB.out.cell (p := ⟨bs, os + x, none⟩) hbs).trans (HKS.out x hxn)
        have k4 := (hB.out.cell (p := ⟨bv, ov + x, none⟩) hbv).trans (HKV.out x hxn)
        have hcd := HWN.out x hxn
        simp only [hyl] at k2
        clear hyl
        generalize nth l x = y at *
        generalize cnt (t x) n = c at *
        generalize lvl n t x = d at *
        have k3' : wr.cell? ⟨bs, os + x, none⟩ = some (.int .i64 ((n : Int) - 1 - (d : Int))) := k3.trans (by rw [int_eq (k := .i64) (show (c : Int) = (n : Int) - 1 - (d : Int) by omega)])
        clear k3
        have hdn : (d : Int) < (n : Int) := by omega
        have f1 : ¬ (y : Int) < 0 := by omega
        have f2 : ¬ (n : Int) ≤ (y : Int) := by omega
        have f3 : (y : Int) < (n : Int) := by omega
        have q1 : ((x : Int) != (x : Int)) = false := by simp
        have q2 : (((n : Int) - 1 - (d : Int)) != (n : Int) - 1 - (d : Int)) = false := by simp
        have w1' : IntKind.i64.wrap ((n : Int) - 1) = (n : Int) - 1 := by rw [IntKind.wrap_i64]; omega
        have w2' : IntKind.i64.wrap ((n : Int) - 1 - (d : Int)) = (n : Int) - 1 - (d : Int) := by clear w1'; rw [IntKind.wrap_i64]; omega
        go_wp2
        go_quiet (fail)
        clear w1' w2'
        have HBq : Hid (Below w7.heap.size w7 (wr.drewN nq)) := below_dr hB.out nq
        clear k1 k2 k3' k4 hB
        generalize wr.drewN nq = wZ at *
        go_wp2
        exact ⟨⟨x + 1, by omega, int_eq (by omega), HBq⟩, by simp [intOf]; omega⟩
      · have g1 : ¬ (x : Int) < (n : Int) := by omega
        have hB9 : Hid (Below w.heap.size w wr) := hBW.out.trans (hB.out.mono hBW.out.size)
        have HTEN := Lib.hid (ten_any wr)
        go_wp2_with (go_at_call 11; refine HTEN.out.mono ?_; rintro e w10 ⟨rfl, hB10⟩; have HB10 := Lib.hid (hB9.out.trans (hB10.mono hB9.out.size)); clear hB10)
        try go_ret
        exact ⟨rfl, HB10.out⟩
  · have hk : kk ≠ 0 := fun e => hT (HT1.out.1 e)
    have hu : uu ≠ 0 := fun e => hT (HF1.out.1 e)
    have HNB : Hid (¬ TabOK n (fun _ => n) t) := fun h => hT (HOK.out.1 h)
    have hk1 : ((kk : Int) == 0) = false := by simp; omega
    have hk2 : (0 : Int) < (kk : Int) := by omega
    have hu1 : ((uu : Int) == 0) = false := by simp; omega
    have q0 : ((n : Int) != (n : Int)) = false := by simp
    clear hT
    go_upto_region 9 with (first
      | (go_at_call 20; refine (HTR.out _ h0.out).mono ?_; rintro e w2 ⟨rfl, hB2⟩; have HB2 : Hid (Below w1.heap.size w1 w2) := hB2; clear hB2)
      | (go_at_call 21; refine (HCK.out _ HB2.out).mono ?_; rintro e w3 ⟨hck, hB3⟩; have HB3 : Hid (Below w1.heap.size w1 w3) := HB2.out.trans (hB3.mono HB2.out.size); clear hB3; obtain rfl := hck.elim (fun h => absurd h.2 HNB.out) (fun h => h.1); clear hck)
      | (go_at_call 22; refine (HRK.out _ HB3.out).mono ?_; rintro e w4 ⟨⟨pw, cw, l, rfl, hRL, hqw⟩, hB4⟩; have HB4 : Hid (Below w1.heap.size w1 w4) := HB3.out.trans (hB4.mono HB3.out.size); clear hB4 hRL hqw))
    have HTEN := Lib.hid (ten_any w4)
    have hB9 : Hid (Below w.heap.size w w4) := HB1.out.trans (HB4.out.mono HB1.out.size)
    go_wp2_with (go_at_call 11; refine HTEN.out.mono ?_; rintro e w10 ⟨rfl, hB10⟩; have HB10 := Lib.hid (hB9.out.trans (hB10.mono hB9.out.size)); clear hB10)
    try go_ret
    exact ⟨rfl, HB10.out⟩
end Go.Proofs.Ytbioondlmgolkaa
namespace Go.Proofs.Ytbioondlmgolkaa.topChains
open Go.ChangeShapes Go.WideShapes Go.ChangeAt Go.RowKit
set_option linter.unusedVariables false
set_option maxRecDepth 100000 in
theorem lifted (os : Os) (started : os.Started) (H : Type) (enc : TypeId × Value → H) :
    ReturnsInHanded {} Try.checked os 5 .any (Rows.topChainsSpec.pre6 enc Try.prog Try.f5 Rows.topChainsRow.domain false) (Rows.topChainsSpec.post enc Try.prog Try.f5 false true false false) := by
  refine returnsInHanded_of_change (C := Try.checked) own_knob started (by kernel_rfl) Try.func5
    (ChangeSpec.witness6 (enc := enc) (C := Try.checked) false ⟨#[], #[.int .i64 0, .slice none 0 0], []⟩ 8 (by kernel_rfl) (by kernel_rfl) (by kernel_rfl) (by kernel_rfl)) ?_
  intro W base args ds gs before hval0 hW hcnd _
  have hval : ∀ (j : Nat) t v, Try.f5.params[j]? = some t → args[j]? = some v → Value.okWide Try.prog W .any base t v := hval0
  have hW' := hW
  obtain ⟨p, q, hA0, hV, rfl, hfz, hnd⟩ := hW
  have hA : DataW.TrodAll enc Try.prog W 0 (fun _ => true) true Try.f5.params.toList args.toList ds p := hA0
  rw [Try.params5] at hA hval
  obtain ⟨v0, vs0, d0, ds0, p0, q0, hargs, rfl, rfl, h0, r0⟩ := trodAll_cons hA
  obtain ⟨v1, vs1, d1, ds1, p1, q1, rfl, rfl, rfl, h1, r1⟩ := trodAll_cons r0
  obtain ⟨rfl, rfl, rfl⟩ := trodAll_nil r1
  obtain rfl : args = #[v0, v1] := by cases args; simp_all
  obtain ⟨rfl, rfl⟩ := trodVars_none hV
  obtain ⟨a0, rfl, rfl, rfl, w0⟩ := open_int Try.underlying3 (hval 0 3 v0 rfl rfl) h0
  obtain ⟨a1, len1, cap1, rfl⟩ := okWide_slice Try.underlying22 (hval 1 22 v1 rfl rfl)
  have k1 := h1
  have lt1 : ∀ x ∈ p1, x.block < W.heap.size := by obtain ⟨m, hm⟩ := k1; exact DataW.trod_lt m _ _ _ hm
  obtain ⟨ps, hps, rfl⟩ := open_pairs h1
  clear hA0 hval0
  refine (lawC a0 a1 cap1 ps W hps).mono fun e W' ⟨he, bel⟩ => ?_
  subst he
  exact ⟨_, rfl, _, _, _, [], _, [], hW', trodAll_mk1 (shut_bool Try.underlying4 _), (trodAll_cons_mk (shut_int Try.underlying3 w0) (trodAll_cons_mk (Below.trod laid_out (by kernel_rfl) (of_decide_eq_true (by kernel_rfl)) k1 bel lt1) trodAll_mk0)), rfl, bel.frame _, fun h => by cases h⟩
theorem over : Rows.topChainsRow.holds Try.pinned (OpenSpec.ofChange Rows.topChainsSpec) :=
  OpenClaim.holds_of_wide 5 Try.f5 rfl rfl rfl rfl rfl rfl rfl ⟨rfl, rfl, rfl, rfl, rfl⟩ rfl rfl rfl rfl rfl (by kernel_rfl) Try.func5 (by kernel_rfl)
    (of_decide_eq_true (by kernel_rfl)) (by unfold Func.isWrapper; first | (rw [if_pos (by decide +kernel)]; kernel_rfl) | (rw [if_neg (by decide +kernel)]; exact ⟨rfl, rfl⟩))
    (fun os started H enc _ => lifted os started H enc)
end Go.Proofs.Ytbioondlmgolkaa.topChains
namespace Go.Proofs.Ytbioondlmgolkaa
/-- THE STATEMENT -/
theorem topChains_holds : Rows.TopChainsSaid := topChains.over
#print axioms topChains_holds
end Go.Proofs.Ytbioondlmgolkaa
