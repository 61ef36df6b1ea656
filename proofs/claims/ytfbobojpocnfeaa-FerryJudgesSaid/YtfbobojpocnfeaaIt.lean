/- The program's iterator over the sets within a set: its contract; and the order of these sets. -/
import Derived.Test.YtfbobojpocnfeaaW2
import Derived.Test.YtfbobojpocnfeaaSubs
import Derived.RangeFuncNested
import Derived.RangeFuncBound
import Derived.RangeFuncCalls
import Derived.RangeFuncLeaves
import Derived.Shelf.Abstract
import Derived.Shelf.RegionOpen
import Derived.OwnWalkIn
import Derived.TacticsInMore
import Derived.LoopNIn
import Derived.LoopIn
namespace Go.Proofs.Ytfbobojpocnfeaa
open Go.RowKit Go.Shelf
attribute [local go_sem] Oper.semAt_some

theorem cell_al {W : World} {a : Addr} {v : Value} (o : Obj) (h : W.cell? a = some v) : (W.alloc o).cell? a = some v := cell_kept h (World.grownBy_alloc W o none) (fun r e => by cases e)
theorem boxed_at {W : World} {B : Nat} {t : TypeId} {v : Value} (h : B = W.heap.size) : Boxed (W.alloc (.cells #[v] t)) B t v := by rw [h]; exact Boxed.new W t v
abbrev S20 := Fin 1048576
/-- what a round must keep for an iterator that reads one box of its own -/
def KeepsBox (B : Nat) (W W' : World) : Prop := ∀ v, W.cell? ⟨B, 0, none⟩ = some v → W'.cell? ⟨B, 0, none⟩ = some v
theorem keepsBox_t {Bs : Nat} {A B C : World} (h : KeepsBox Bs A B) (k : KeepsBox Bs B C) : KeepsBox Bs A C := fun v hv => k v (h v hv)
theorem KeepsBox.refl (B : Nat) (W : World) : KeepsBox B W W := fun _ h => h
def toS (t : Nat) : S20 := ⟨t % 1048576, Nat.mod_lt _ (by decide)⟩
theorem toS_val {t : Nat} (h : Sm t) : (toS t).1 = t := Nat.mod_eq_of_lt h

theorem within1_in (n : Nat) (hn : 1 ≤ n) (l Bs : Nat) (set : Nat) (hset : Sm set) (J Jx : List S20 → World → Prop)
    (hY : ∀ pre x W, J pre W → pre.length < set + 1 → YieldAt Fence.wide (n - 1) Try.prog l #[.int .i64 ((x : S20).1 : Int)] W fun e W' =>
      (e = .returned (.bool true) ∧ J (pre ++ [x]) W' ∧ KeepsBox Bs W W') ∨ (e = .returned (.bool false) ∧ Jx (pre ++ [x]) W'))
    (W : World) (hB : W.cell? ⟨Bs, 0, none⟩ = some (.int .i64 (set : Int))) (h0 : J [] W) :
    CallsIn Fence.wide n Try.prog 52 #[.func (.yield l) #[] #[], .pointer (some ⟨Bs, 0, none⟩)] W fun e W' => (∃ v, e = .returned v) ∧
      ((∃ ys, ys = (subs set).map toS ∧ J ys W') ∨ (∃ pre, (∃ s, Within s set ∧ pre = (subsLt set (s + 1)).map toS) ∧ Jx pre W')) := by
  have hl := hset.lt
  refine callsIn_of_wp Try.func52 rfl trivial ?_ rfl
  simp only [Try.ntmps52, List.size_toArray, List.length_cons, List.length_nil, Nat.reduceAdd, Nat.reduceSub, Array.replicate_succ, Array.replicate_zero, List.push_toArray, List.append_toArray, List.nil_append, List.cons_append]
  gi_wp2
  gi_loopw [3] (fun s wr => ∃ k : Nat, Hid (Within k set) ∧ s = .int .i64 ((k : Nat) : Int) ∧ J ((subsLt set k).map toS) wr ∧ wr.cell? ⟨Bs, 0, none⟩ = some (.int .i64 (set : Int)))
    (fun s _ => set - (intOf s).toNat)
  case atStart => exact ⟨0, within_zero _, rfl, h0, hB⟩
  case round =>
    obtain ⟨k, hk, rfl, hJs, hc⟩ := hrel
    have hkl := hk.out.le
    have hks : Sm k := sm_of (by omega)
    obtain ⟨fn, tmps, assign, body, hy, hR⟩ := hY _ (toS k) wr hJs (by have := subsLt_length set k; simp; omega)
    rw [toS_val hks] at hy
    have hpre := subsLt_succ_in hk.out
    replace hpre : (subsLt set k).map toS ++ [toS k] = (subsLt set (k + 1)).map toS := by rw [hpre]; simp
    rw [hpre] at hR
    have HP := Lib.hid hpre
    clear hpre
    gi_wp2
    refine hR.mono ?_
    rintro e W3 (⟨rfl, hJ3, hk3⟩ | ⟨rfl, hJx3⟩)
    · have hc3 := hk3 _ hc
      gi_wp2
      · have hne : (((k : Nat) : Int) != (set : Int)) = true := by assumption
        have hne' : k ≠ set := by intro e; subst e; simp at hne
        have hb := nxt_bits set k hset hk.out hne'
        have hs := subsLt_nxt hset hk.out hne'
        have hlt := nxt_lt hset hk.out hne'
        have hnm := nxt_within set k
        go_roundw
        case rel => exact ⟨nxt set k, hnm, by rw [hb], by rw [hs, ← subsLt_succ_in hk.out]; exact hJ3, hc3⟩
        case measure => rw [hb]; simp [intOf]; omega
      · have hne : (((k : Nat) : Int) != (set : Int)) = false := by assumption
        have : k = set := by
          have : ((k : Nat) : Int) = (set : Int) := by simpa using hne
          omega
        subst this
        go_end0
        exact ⟨⟨_, rfl⟩, .inl ⟨_, rfl, hJ3⟩⟩
    · gi_wp2
      go_end0
      exact ⟨⟨_, rfl⟩, .inr ⟨_, ⟨k, hk.out, rfl⟩, hJx3⟩⟩

theorem within_in (s : Nat) (w : World) :
    Calls Try.prog 45 #[.int .i64 (s : Int)] w fun e w' => e = .returned (.func (.func 52) #[] #[.pointer (some ⟨w.heap.size, 0, none⟩)]) ∧ w' = w.alloc (.cells #[.int .i64 (s : Int)] 3) := by
  go_enter Try.func45, Try.ntmps45
  go_wp2
  go_ret
  exact ⟨rfl, rfl⟩

/-- THE ITERATOR's CONTRACT: all sets within the set, rising; or a beginning of them, not empty. -/
theorem within_stops (n : Nat) (hn : 1 ≤ n) (Bs set : Nat) (hset : Sm set) (w : World) (hBs : Bs < w.heap.size) (hc : w.cell? ⟨Bs, 0, none⟩ = some (.int .i64 (set : Int))) :
    SeqStopsK Fence.wide n Try.prog 52 #[.pointer (some ⟨Bs, 0, none⟩)] (fun x : S20 => #[Value.int .i64 (x.1 : Int)]) (KeepsBox Bs) (fun ys => ys = (subs set).map toS) (fun pre => ∃ s, Within s set ∧ pre = (subsLt set (s + 1)).map toS) (set + 1) w := fun l J Jx W hW _ _ hY h0 =>
  within1_in n hn l Bs set hset J Jx hY W ((hW.cell (p := ⟨Bs, 0, none⟩) hBs).trans hc) h0
theorem keepsBox_b {w : World} {Bs : Nat} (W : World) (l : Nat) (o o' : Obj) (_ : w.heap.size ≤ l) (h : W.heap[l]? = some o) (hc : o.isCells = false) (_ : o.isWalk = false) : KeepsBox Bs W (W.putObj l o') := fun v hv => by
  exact cell_kept hv (grownBy_putObj' W l o') (fun r e => by cases e; exact ⟨_, h, hc⟩)

theorem ko_drewN (W : World) (n : Nat) : KeepsOthers W (W.drewN n) := ⟨Nat.le_refl _, fun _ _ h _ => h⟩
theorem kb_drewN (Bs : Nat) (W : World) (n : Nat) : KeepsBox Bs W (W.drewN n) := fun _ h => h
theorem kb_set {Bs B' : Nat} (W : World) (v : Value) (hne : Bs ≠ B') : KeepsBox Bs W (W.setCell ⟨B', 0, none⟩ v) := fun u h =>
  (World.cell?_setCell_other W ⟨B', 0, none⟩ ⟨Bs, 0, none⟩ v (fun e => hne (congrArg Addr.block e).symm)).trans h
theorem below_dr {B : Nat} {a w : World} (h : Below B a w) (n : Nat) : Below B a (w.drewN n) := ⟨h.os, h.tape, h.output, h.size, h.block⟩
theorem ownFrom_block {β : Type} {B D : Nat} {o : Obj} (h : D < B) : OwnFrom B (fun (_ : β) (W : World) => W.heap[D]? = some o) := fun _ A C row hs hg hr =>
  (hg.block D (Array.getElem?_eq_some_iff.1 hs).1 (fun e => by have := (hr D e.symm).1; omega)).trans hs
theorem subsLt_prefix (set : Nat) : ∀ (b k : Nat), ∃ r, subsLt set (b + k) = subsLt set b ++ r
  | b, 0 => ⟨[], by simp⟩
  | b, k + 1 => by
    obtain ⟨r, hr⟩ := subsLt_prefix set b k
    by_cases h : Within (b + k) set
    · exact ⟨r ++ [b + k], by rw [show b + (k + 1) = b + k + 1 by omega, subsLt_succ_in h, hr, List.append_assoc]⟩
    · exact ⟨r, by rw [show b + (k + 1) = b + k + 1 by omega, subsLt_succ_out h, hr]⟩
theorem map_toS {set b : Nat} (h : Sm set) : ((subsLt set b).map toS).map (fun x => x.1) = subsLt set b := by
  rw [List.map_map]
  have : ∀ t ∈ subsLt set b, ((fun x : S20 => x.1) ∘ toS) t = id t := fun t ht => by
    have h2 := (mem_subsLt.1 ht).2.le
    exact toS_val (Nat.lt_of_le_of_lt h2 h)
  rw [List.map_congr_left this, List.map_id]
/-- what has come when a round left: a beginning, and its last set -/
theorem subs_stop {set : Nat} (hset : Sm set) {s : Nat} (hs : Within s set) {p : List S20} {x : S20} (e : p ++ [x] = (subsLt set (s + 1)).map toS) :
    ∃ r, subs set = p.map (fun y => y.1) ++ x.1 :: r := by
  have h1 := congrArg (List.map (fun y : S20 => y.1)) e
  rw [map_toS hset] at h1
  have hle := hs.le
  obtain ⟨r, hr⟩ := subsLt_prefix set (s + 1) (set - s)
  rw [show s + 1 + (set - s) = set + 1 by omega] at hr
  refine ⟨r, ?_⟩
  unfold subs
  rw [hr, ← h1]; simp
theorem mem_map_toS {set t : Nat} (hset : Sm set) (h : Within t set) : toS t ∈ (subs set).map toS := List.mem_map.2 ⟨t, mem_subs.2 h, rfl⟩
theorem kb_alloc {Bs : Nat} (W : World) (o : Obj) : KeepsBox Bs W (W.alloc o) := fun u h => cell_al o h

/-- THE LAW OF A LOOP OVER THE SETS WITHIN A SET, whose variable lies in a slot. -/
theorem rf_sets {P : Program} {n : Nat} {g : Operand} {t d : Nat} {id : Nat} {ty : TypeId} {pos : String} {aft : Array Edge} {body : Code} {Q : Exit → Act → World → Prop} {a : Act} {w : World}
    (h1 : 1 ≤ n) {gf : Nat} {lb : Array Value} (hg : a.eval g = .func (.func gf) #[] lb) (eg : ∀ args w, (callFunc gf args).run P w = .ok (.enter gf args) w)
    {Kp : World → World → Prop} {S Sp : List S20 → Prop} {N : Nat} (hseq : SeqStopsK Fence.wide (n - 1) P gf lb (fun x : S20 => #[Value.int .i64 (x.1 : Int)]) Kp S Sp N w)
    (hKt : ∀ {A B C : World}, Kp A B → Kp B C → Kp A C) (hKb : ∀ (W : World) (l : Nat) (o o' : Obj), w.heap.size ≤ l → W.heap[l]? = some o → o.isCells = false → o.isWalk = false → Kp W (W.putObj l o'))
    (ht : t < a.tmps.size) (I : List S20 → World → Prop) (Ix : Code → List S20 → World → Prop) (hI : OwnFrom w.heap.size I) (hIx : ∀ c, OwnFrom w.heap.size (Ix c)) (h0 : I [] w)
    (hbody : ∀ (l : Nat) (pre : List S20) (x : S20) (W : World), I pre W → pre.length < N → body.wpIn (Fence.wide.inRound l) (n - 1 - 1) P (ownPostK Kp I Ix (pre ++ [x]) W) { tmps := (a.tmps.setIfInBounds t (.int .i64 (x.1 : Int))).setIfInBounds d (.int .i64 (x.1 : Int)), defers := [] } W)
    (hdone : ∀ (D : Nat) (xs : List S20) (W : World), w.heap.size ≤ D → S xs → I xs W → W.heap[D]? = some (.deferred (some [])) → Q .normal { a with defers := { target := .collected D, args := #[] } :: a.defers } W)
    (hstop : ∀ (D : Nat) (c : Code) (pre : List S20) (W : World), w.heap.size ≤ D → Sp pre → Ix c pre W → W.heap[D]? = some (.deferred (some [])) → c.wpIn Fence.wide n P Q { a with defers := { target := .collected D, args := #[] } :: a.defers } W) :
    (Code.rangeFunc g #[t] (Code.region id #[{ dst := some d, op := Op.assign (Operand.tmp t), type := ty, pos := pos, after := aft, guard := none }] false) body).wpIn Fence.wide n P Q a w := by
  refine wpIn_rangeFunc_ownF rfl h1 hg trivial eg hseq hKt hKb (Below.refl _ _) (fun _ => rfl) I Ix hI hIx h0 (fun x => { tmps := (a.tmps.setIfInBounds t (.int .i64 (x.1 : Int))).setIfInBounds d (.int .i64 (x.1 : Int)), defers := [] }) ?_ hbody hdone hstop
  intro l x W K hK
  have e : (Array.zip #[t] #[Value.int .i64 (x.1 : Int)]).foldl (fun t (p, v) => t.setIfInBounds p v) a.tmps = a.tmps.setIfInBounds t (.int .i64 (x.1 : Int)) := by simp
  rw [e]
  have hv : (a.tmps.setIfInBounds t (.int .i64 (x.1 : Int))).getD t undef = .int .i64 (x.1 : Int) := by simp [Array.getD, ht]
  gi_wp2
  exact hK
end Go.Proofs.Ytfbobojpocnfeaa
