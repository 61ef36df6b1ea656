/- The program's Structure and IsStructure. -/
import Derived.Test.YtfbobojpocnfeaaSw
import Derived.Test.YtfbobojpocnfeaaIp
import Derived.Deep.QuietTactic
import Derived.BigQuiet
namespace Go.Proofs.Ytfbobojpocnfeaa
open Go.RowKit Go.Shelf

/-- are five sets a structure? -/
def structB (g : List Nat) (seats : Int) (x1 x2 x3 y1 y2 : Nat) : Bool :=
  (((x1 &&& x2) ||| (x1 &&& x3) ||| (x2 &&& x3)) == 0) && (quietB g (x1 ||| x2 ||| x3) && (decide (((size (ldiff (full g.length) (x1 ||| x2 ||| x3)) : Nat) : Int) ≤ seats) && ((y1 != 0) && ((y2 != 0) && ((ldiff (y1 ||| y2) (ldiff (full g.length) (x1 ||| x2 ||| x3)) == 0) && (quietB g (x1 ||| y1) && (quietB g (x2 ||| y2) && decide (size x3 ≤ size y1 + size y2))))))))

theorem res5 {W : World} {b : Nat} {t : TypeId} {a0 a1 a2 a3 a4 : Value} (h : BoxN W b t #[a0, a1, a2, a3, a4]) :
    W.cell? ⟨b, 0, none⟩ = some a0 ∧ W.cell? ⟨b, 1, none⟩ = some a1 ∧ W.cell? ⟨b, 2, none⟩ = some a2 ∧ W.cell? ⟨b, 3, none⟩ = some a3 ∧ W.cell? ⟨b, 4, none⟩ = some a4 ∧
    W.frozen? ⟨b, 0, none⟩ = false ∧ W.frozen? ⟨b, 1, none⟩ = false ∧ W.frozen? ⟨b, 2, none⟩ = false ∧ W.frozen? ⟨b, 3, none⟩ = false ∧ W.frozen? ⟨b, 4, none⟩ = false :=
  ⟨by rw [h.cell]; rfl, by rw [h.cell]; rfl, by rw [h.cell]; rfl, by rw [h.cell]; rfl, by rw [h.cell]; rfl, h.frozen 0, h.frozen 1, h.frozen 2, h.frozen 3, h.frozen 4⟩
theorem structure_ok (n : Nat) (ps : List (Int × Int)) (a : Option Addr) (cap : Nat) (w : World) (h : Good n ps a w) (seats : Int) (h1 : 1 ≤ seats) (h2 : seats ≤ 10) :
    Calls Try.prog 19 #[.int .i64 n, .slice a ps.length cap, .int .i64 seats] w fun e w' => ∃ l ok, e = .returned (.tuple #[.agg (ints5 l), .bool ok, .int .i64 0]) ∧ Below w.heap.size w w' ∧ StructR (ofE n ps) seats l ok := by
  have HO := Lib.hid (fun w' (hB : Below w.heap.size w w') => (show Good n ps a w' from ⟨h.hl, h.hg.below hB (Nat.le_refl _), h.n1, h.n2, h.ok⟩).open cap)
  have hl : (ofE n ps).length = n := ofE_length n ps
  have hsm := ofE_sm h.n2 h.ok
  have hn2 := h.n2
  clear h
  generalize ofE n ps = g at *
  go_enter Try.func19, Try.ntmps19
  go_wp2_with (first
    | (go_at_call 33; refine (HO.out _ ((Below.refl _ _).alloc (Nat.le_refl _) _)).mono ?_; rintro e w1 ⟨B, rfl, hBB, hcr, hB1⟩)
    | (go_at_call 39; refine (callsIn_wide.1 (structure_in B g seats w1 (by omega) hsm hcr)).mono ?_; rintro e w2 ⟨l, ok, rfl, hB2, hR⟩; obtain ⟨a0, a1, a2, a3, a4, rfl⟩ := ints5_eq hR.len; rw [show ints5 [a0, a1, a2, a3, a4] = #[.int .i64 (a0 : Int), .int .i64 (a1 : Int), .int .i64 (a2 : Int), .int .i64 (a3 : Int), .int .i64 (a4 : Int)] from rfl]; obtain ⟨l0, l1, l2, l3, l4, m0, m1, m2, m3, m4⟩ := res5 ((BoxN.new (W := w) (B := w.heap.size) (t := 40) (vs := #[.int .i64 0, .int .i64 0, .int .i64 0, .int .i64 0, .int .i64 0]) rfl).below (hB1.trans (hB2.mono hB1.size)) (by simp))))
  have hBW := hB1.trans (hB2.mono hB1.size)
  have z := ((((((((BoxN.new (W := w) (B := w.heap.size) (t := 40) (vs := #[.int .i64 0, .int .i64 0, .int .i64 0, .int .i64 0, .int .i64 0]) rfl).below hBW (by simp)).alloc (Obj.cells #[.int .i64 (a0 : Int), .int .i64 (a1 : Int), .int .i64 (a2 : Int), .int .i64 (a3 : Int), .int .i64 (a4 : Int)] 40)).set 0 (.int .i64 (a0 : Int))).set 1 (.int .i64 (a1 : Int))).set 2 (.int .i64 (a2 : Int))).set 3 (.int .i64 (a3 : Int))).set 4 (.int .i64 (a4 : Int)))
  have hBZ : Below w.heap.size w ((((((w2.alloc (Obj.cells #[.int .i64 (a0 : Int), .int .i64 (a1 : Int), .int .i64 (a2 : Int), .int .i64 (a3 : Int), .int .i64 (a4 : Int)] 40)).setCell ⟨w.heap.size, 0, none⟩ (.int .i64 (a0 : Int))).setCell ⟨w.heap.size, 1, none⟩ (.int .i64 (a1 : Int))).setCell ⟨w.heap.size, 2, none⟩ (.int .i64 (a2 : Int))).setCell ⟨w.heap.size, 3, none⟩ (.int .i64 (a3 : Int))).setCell ⟨w.heap.size, 4, none⟩ (.int .i64 (a4 : Int))) :=
    (((((((Below.refl _ w).alloc (Nat.le_refl _) _).trans (hBW.mono (by simp))).alloc (by have := hBW.size; simp at this; omega) _).setCell (p := ⟨w.heap.size, 0, none⟩) (Nat.le_refl _) _).setCell (p := ⟨w.heap.size, 1, none⟩) (Nat.le_refl _) _).setCell (p := ⟨w.heap.size, 2, none⟩) (Nat.le_refl _) _).setCell (p := ⟨w.heap.size, 3, none⟩) (Nat.le_refl _) _ |>.setCell (p := ⟨w.heap.size, 4, none⟩) (Nat.le_refl _) _
  clear l0 l1 l2 l3 l4 m0 m1 m2 m3 m4
  generalize ((((((w2.alloc (Obj.cells #[.int .i64 (a0 : Int), .int .i64 (a1 : Int), .int .i64 (a2 : Int), .int .i64 (a3 : Int), .int .i64 (a4 : Int)] 40)).setCell ⟨w.heap.size, 0, none⟩ (.int .i64 (a0 : Int))).setCell ⟨w.heap.size, 1, none⟩ (.int .i64 (a1 : Int))).setCell ⟨w.heap.size, 2, none⟩ (.int .i64 (a2 : Int))).setCell ⟨w.heap.size, 3, none⟩ (.int .i64 (a3 : Int))).setCell ⟨w.heap.size, 4, none⟩ (.int .i64 (a4 : Int))) = Y at *
  obtain ⟨l0, l1, l2, l3, l4, _⟩ := res5 z
  exact bodyPost_ret (v := .tuple #[.agg (ints5 [a0, a1, a2, a3, a4]), .bool ok, .int .i64 0]) (by simp [results, Try.f19, go_sem, l0, l1, l2, l3, l4, ints5]) rfl ⟨_, ok, rfl, hBZ, hR⟩
theorem structure_err (n : Int) (ps : List (Int × Int)) (a : Option Addr) (cap : Nat) (w : World) (seats : Int) (hl : ps.length ≤ 1099511627776) (hg : Pairs w a ps) (hne : openCode n ps ≠ 0) :
    Calls Try.prog 19 #[.int .i64 n, .slice a ps.length cap, .int .i64 seats] w fun e w' => e = .returned (.tuple #[.agg (ints5 [0, 0, 0, 0, 0]), .bool false, .int .i64 (openCode n ps)]) ∧ Below w.heap.size w w' := by
  have HO := Lib.hid (fun w' (hB : Below w.heap.size w w') => open_err n a cap ps w' hl (hg.below hB (Nat.le_refl _)) hne)
  generalize openCode n ps = c at *
  have hb : (c != 0) = true := by simpa using hne
  clear hne
  go_enter Try.func19, Try.ntmps19
  go_wp2_with (first | (go_at_call 33; refine (HO.out _ ((Below.refl _ _).alloc (Nat.le_refl _) _)).mono ?_; rintro e w1 ⟨rfl, hB1⟩; obtain ⟨l0, l1, l2, l3, l4, m0, m1, m2, m3, m4⟩ := res5 ((BoxN.new (W := w) (B := w.heap.size) (t := 40) (vs := #[.int .i64 0, .int .i64 0, .int .i64 0, .int .i64 0, .int .i64 0]) rfl).below hB1 (by simp))))
  have z := (((((((BoxN.new (W := w) (B := w.heap.size) (t := 40) (vs := #[.int .i64 0, .int .i64 0, .int .i64 0, .int .i64 0, .int .i64 0]) rfl).below hB1 (by simp))).set 0 (.int .i64 0)).set 1 (.int .i64 0)).set 2 (.int .i64 0)).set 3 (.int .i64 0)).set 4 (.int .i64 0)
  have hBZ : Below w.heap.size w (((((w1.setCell ⟨w.heap.size, 0, none⟩ (.int .i64 0)).setCell ⟨w.heap.size, 1, none⟩ (.int .i64 0)).setCell ⟨w.heap.size, 2, none⟩ (.int .i64 0)).setCell ⟨w.heap.size, 3, none⟩ (.int .i64 0)).setCell ⟨w.heap.size, 4, none⟩ (.int .i64 0)) :=
    ((((((Below.refl _ w).alloc (Nat.le_refl _) _).trans (hB1.mono (by simp))).setCell (p := ⟨w.heap.size, 0, none⟩) (Nat.le_refl _) _).setCell (p := ⟨w.heap.size, 1, none⟩) (Nat.le_refl _) _).setCell (p := ⟨w.heap.size, 2, none⟩) (Nat.le_refl _) _).setCell (p := ⟨w.heap.size, 3, none⟩) (Nat.le_refl _) _ |>.setCell (p := ⟨w.heap.size, 4, none⟩) (Nat.le_refl _) _
  clear l0 l1 l2 l3 l4 m0 m1 m2 m3 m4
  generalize (((((w1.setCell ⟨w.heap.size, 0, none⟩ (.int .i64 0)).setCell ⟨w.heap.size, 1, none⟩ (.int .i64 0)).setCell ⟨w.heap.size, 2, none⟩ (.int .i64 0)).setCell ⟨w.heap.size, 3, none⟩ (.int .i64 0)).setCell ⟨w.heap.size, 4, none⟩ (.int .i64 0)) = Y at *
  obtain ⟨l0, l1, l2, l3, l4, _⟩ := res5 z
  exact bodyPost_ret (v := .tuple #[.agg (ints5 [0, 0, 0, 0, 0]), .bool false, .int .i64 c]) (by simp [results, Try.f19, go_sem, l0, l1, l2, l3, l4, ints5]) rfl ⟨rfl, hBZ⟩
theorem structure_out (n : Nat) (ps : List (Int × Int)) (a : Option Addr) (cap : Nat) (w : World) (h : Good n ps a w) (seats : Int) (hs : seats < 1 ∨ 10 < seats) :
    Calls Try.prog 19 #[.int .i64 n, .slice a ps.length cap, .int .i64 seats] w fun e w' => e = .returned (.tuple #[.agg (ints5 [0, 0, 0, 0, 0]), .bool false, .int .i64 1]) ∧ Below w.heap.size w w' := by
  have HO := Lib.hid (fun w' (hB : Below w.heap.size w w') => (show Good n ps a w' from ⟨h.hl, h.hg.below hB (Nat.le_refl _), h.n1, h.n2, h.ok⟩).open cap)
  clear h
  generalize ofE n ps = g at *
  go_enter Try.func19, Try.ntmps19
  go_wp2_with (first | (go_at_call 33; refine (HO.out _ ((Below.refl _ _).alloc (Nat.le_refl _) _)).mono ?_; rintro e w1 ⟨B, rfl, hBB, hcr, hB1⟩; obtain ⟨l0, l1, l2, l3, l4, m0, m1, m2, m3, m4⟩ := res5 ((BoxN.new (W := w) (B := w.heap.size) (t := 40) (vs := #[.int .i64 0, .int .i64 0, .int .i64 0, .int .i64 0, .int .i64 0]) rfl).below hB1 (by simp))))
  all_goals
    have z := (((((((BoxN.new (W := w) (B := w.heap.size) (t := 40) (vs := #[.int .i64 0, .int .i64 0, .int .i64 0, .int .i64 0, .int .i64 0]) rfl).below hB1 (by simp))).set 0 (.int .i64 0)).set 1 (.int .i64 0)).set 2 (.int .i64 0)).set 3 (.int .i64 0)).set 4 (.int .i64 0)
    have hBZ : Below w.heap.size w (((((w1.setCell ⟨w.heap.size, 0, none⟩ (.int .i64 0)).setCell ⟨w.heap.size, 1, none⟩ (.int .i64 0)).setCell ⟨w.heap.size, 2, none⟩ (.int .i64 0)).setCell ⟨w.heap.size, 3, none⟩ (.int .i64 0)).setCell ⟨w.heap.size, 4, none⟩ (.int .i64 0)) :=
      ((((((Below.refl _ w).alloc (Nat.le_refl _) _).trans (hB1.mono (by simp))).setCell (p := ⟨w.heap.size, 0, none⟩) (Nat.le_refl _) _).setCell (p := ⟨w.heap.size, 1, none⟩) (Nat.le_refl _) _).setCell (p := ⟨w.heap.size, 2, none⟩) (Nat.le_refl _) _).setCell (p := ⟨w.heap.size, 3, none⟩) (Nat.le_refl _) _ |>.setCell (p := ⟨w.heap.size, 4, none⟩) (Nat.le_refl _) _
    clear l0 l1 l2 l3 l4 m0 m1 m2 m3 m4
    generalize (((((w1.setCell ⟨w.heap.size, 0, none⟩ (.int .i64 0)).setCell ⟨w.heap.size, 1, none⟩ (.int .i64 0)).setCell ⟨w.heap.size, 2, none⟩ (.int .i64 0)).setCell ⟨w.heap.size, 3, none⟩ (.int .i64 0)).setCell ⟨w.heap.size, 4, none⟩ (.int .i64 0)) = Y at *
    obtain ⟨l0, l1, l2, l3, l4, _⟩ := res5 z
    exact bodyPost_ret (v := .tuple #[.agg (ints5 [0, 0, 0, 0, 0]), .bool false, .int .i64 1]) (by simp [results, Try.f19, go_sem, l0, l1, l2, l3, l4, ints5]) rfl ⟨rfl, hBZ⟩

theorem isStructure_no (n : Int) (ps : List (Int × Int)) (a : Option Addr) (cap : Nat) (w : World) (seats : Int) (x : Array Value) (hx : ∃ x0 x1 x2 x3 x4, x = #[x0, x1, x2, x3, x4]) (hl : ps.length ≤ 1099511627776) (hg : Pairs w a ps) (hne : openCode n ps ≠ 0) :
    Calls Try.prog 22 #[.int .i64 n, .slice a ps.length cap, .int .i64 seats, .agg x] w fun e w' => e = .returned (.bool false) ∧ Below w.heap.size w w' := by
  have HO := Lib.hid (fun w' (hB : Below w.heap.size w w') => open_err n a cap ps w' hl (hg.below hB (Nat.le_refl _)) hne)
  generalize openCode n ps = c at *
  have hb : (c != 0) = true := by simpa using hne
  clear hne
  obtain ⟨x0, x1, x2, x3, x4, rfl⟩ := hx
  go_enter Try.func22, Try.ntmps22
  go_wp2_with (first | (go_at_call 33; refine (HO.out _ ((Below.refl _ _).alloc (Nat.le_refl _) _)).mono ?_; rintro e w1 ⟨rfl, hB1⟩))
  go_ret
  exact ⟨rfl, ((Below.refl _ w).alloc (Nat.le_refl _) _).trans (hB1.mono (by simp))⟩
end Go.Proofs.Ytfbobojpocnfeaa
