/- sets: walk. The program's check of intervals: walks. Rows of pairs that the call has made; taken over from chapter 7. Boats: walk. The order that intervals represent: the program's FromIntervals. -/
import Derived.BigQuiet
import Derived.Deep.LoopGhost
import Derived.Lib.TrailingZeros
import Derived.Laws.Bits64b
import Derived.BigRegion
import Derived.Test.YtbioondlmgolkaaProg
import Derived.Shelf.SlSortCmp.NoneTotal
import Derived.Ground.SlsfProg
import Derived.WalkKit
import Derived.Test.YtbioondlmgolkaaG308
set_option linter.unusedVariables false
set_option linter.unusedSimpArgs false
namespace Go.Proofs.Ytbioondlmgolkaa
open Go.RowKit Go.Shelf Go.Sort

theorem Ag.cell {ex : Nat → Prop} {A B : World} (h : Ag ex A B) {p : Addr} (hp : p.block < A.heap.size) (hn : ¬ ex p.block) : B.cell? p = A.cell? p := World.cell?_of_block (w := A) (h.block _ hp hn)
end Go.Proofs.Ytbioondlmgolkaa
namespace Go.Proofs.Ytbioondlmgolkaa
open Go.RowKit Go.Shelf

def la (ps : List (Int × Int)) (j : Nat) : Int := (ps[j]?.getD (0, 0)).1
def ua (ps : List (Int × Int)) (j : Nat) : Int := (ps[j]?.getD (0, 0)).2
theorem Pairs.at {w : World} {a : Option Addr} {ps : List (Int × Int)} (h : Pairs w a ps) {k : Nat} (hk : k < ps.length) : ∃ b o, a = some ⟨b, o, none⟩ ∧ b < w.heap.size ∧ w.cell? ⟨b, o + k * 2, none⟩ = some (.int .i64 (la ps k)) ∧ w.cell? ⟨b, o + k * 2 + 1, none⟩ = some (.int .i64 (ua ps k)) := by
  obtain ⟨b, o, e, hb, hc⟩ := h (fun e => by rw [e] at hk; simp at hk)
  exact ⟨b, o, e, hb, (hc k hk).1, (hc k hk).2⟩
end Go.Proofs.Ytbioondlmgolkaa
namespace Go.Proofs.Ytbioondlmgolkaa
open Go.RowKit Go.Shelf
theorem cells_newB (W : World) (t : TypeId) (u u' : Value) : ∀ (j : Nat) (x : Value), [u, u'][j]? = some x → (W.alloc (.cells #[u, u'] t)).cell? ((⟨W.heap.size, 0, none⟩ : Addr).add j) = some x := fun j x h => by
  rw [Addr.add_lit, Nat.zero_add, (BoxN.new (W := W) (t := t) (vs := #[u, u']) rfl).cell]
  simpa using h
theorem pairs_new (w : World) (ps : List (Int × Int)) (vs : Array Value) (h : vs = (pairCells ps).toArray) : Pairs (w.alloc (.cells vs 28)) (some ⟨w.heap.size, 0, none⟩) ps := fun _ => by
  subst h
  refine ⟨w.heap.size, 0, rfl, by simp, fun j hj => ?_⟩
  have hb : BoxN (w.alloc (.cells (pairCells ps).toArray 28)) w.heap.size 28 (pairCells ps).toArray := BoxN.new rfl
  have := pairCells_get ps j hj
  rw [hb.cell, hb.cell]
  simpa using this
theorem Pairs.src {w : World} {a : Option Addr} {ps : List (Int × Int)} (h : Pairs w a ps) (k : Nat) (hk : k ≤ ps.length) : Src w a k 2 (pairCells (ps.take k)) := by
  have hl : (ps.take k).length = k := by rw [List.length_take]; omega
  refine ⟨by rw [pairCells_length, hl], fun hm => ?_⟩
  obtain ⟨b, off, e, h1, h2⟩ := h fun e => by rw [e] at hk; simp at hk; omega
  refine ⟨_, e, fun j u hu => ?_⟩
  have hj := (List.getElem?_eq_some_iff.1 hu).1
  rw [pairCells_length, hl] at hj
  have hq := h2 (j / 2) (by omega)
  have hg := pairCells_get (ps.take k) (j / 2) (by omega)
  have ht : (ps.take k)[j / 2]?.getD (0, 0) = ps[j / 2]?.getD (0, 0) := by rw [List.getElem?_take, if_pos (by omega)]
  rw [ht] at hg
  rw [Addr.add_lit]
  rcases Nat.mod_two_eq_zero_or_one j with h0 | h0
  · have e2 : j / 2 * 2 = j := by omega
    rw [e2] at hq hg
    rw [hg.1] at hu
    cases hu
    exact hq.1
  · have e2 : j / 2 * 2 + 1 = j := by omega
    rw [e2] at hg
    rw [hg.2] at hu
    cases hu
    have := hq.2
    rw [Nat.add_assoc, e2] at this
    exact this
theorem QRow.pairs {w : World} {base : Nat} {p : Option Addr} {m c : Nat} {ps : List (Int × Int)} (h : QRow w base 28 2 (.slice p m c) m (pairCells ps)) (hm : m = ps.length) : Pairs w p ps := fun hne => by
  have h0 := List.length_pos_iff.2 hne
  obtain ⟨b, o, cap, e, _, hb, _, _, hc, _⟩ := h.at (by omega)
  cases e
  refine ⟨b, o, rfl, hb, fun j hj => ?_⟩
  have := pairCells_get ps j hj
  exact ⟨(hc (j * 2) (by omega)).trans this.1, by rw [Nat.add_assoc]; exact (hc (j * 2 + 1) (by omega)).trans this.2⟩
theorem pairCells_append : ∀ (ps qs : List (Int × Int)), pairCells (ps ++ qs) = pairCells ps ++ pairCells qs
  | [], _ => rfl
  | p :: ps, qs => by show Value.int .i64 p.1 :: Value.int .i64 p.2 :: pairCells (ps ++ qs) = _; rw [pairCells_append ps qs]; rfl
end Go.Proofs.Ytbioondlmgolkaa
namespace Go.Proofs.Ytbioondlmgolkaa
open Go.RowKit Go.Shelf Go.Sort

theorem RowB.q {W : World} {B n base : Nat} {f : Nat → Int} (h : RowB W B n f) (hb : base ≤ B) (hn : n ≤ maxLen) : QRow W base 3 1 (.slice (some ⟨B, 0, none⟩) n n) n (ivI f n) := by
  obtain ⟨vs, h1, h2, h3⟩ := h
  refine ⟨by rw [ivI_len]; omega, .inr ⟨B, 0, n, vs, rfl, hb, h1, Nat.le_refl _, hn, by omega, fun j hj => ?_⟩⟩
  rw [Nat.zero_add, h3 j (by omega), ivI_get _ _ _ (by omega)]
end Go.Proofs.Ytbioondlmgolkaa
namespace Go.Proofs.Ytbioondlmgolkaa
open Go.RowKit Go.Shelf

def relI (ps : List (Int × Int)) (x y : Nat) : Bool := decide (ua ps x < la ps y)
theorem info4 : (Try.prog.info? 4).map (fun i => (i.zero, i.size, i.bytes)) = some (some (.bool false), 1, 1) := by kernel_rfl
theorem info33 : (Try.prog.info? 33).map (fun i => (i.zero, i.size, i.bytes)) = some (some (.slice none 0 0), 1, 24) := by kernel_rfl
theorem under33 : Try.prog.underlying 33 = some (.slice 4) := by kernel_rfl
theorem under32 : Try.prog.underlying 32 = some (.slice 33) := by kernel_rfl
end Go.Proofs.Ytbioondlmgolkaa
