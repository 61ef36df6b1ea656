/- The program's structure: the middle loop's body. -/
import Derived.Test.YtfbobojpocnfeaaRl
namespace Go.Proofs.Ytfbobojpocnfeaa
open Go.RowKit Go.Shelf
attribute [local go_sem] Oper.semAt_some

def stFr2 (b4 b5 b7 b8 b9 b10 : Nat) (j : Nat → Value) : Array Value :=
  #[j 0, j 1, j 2, j 3, .pointer (some ⟨b4, 0, none⟩), .pointer (some ⟨b5, 0, none⟩), j 6, .pointer (some ⟨b7, 0, none⟩), .pointer (some ⟨b8, 0, none⟩), .pointer (some ⟨b9, 0, none⟩), .pointer (some ⟨b10, 0, none⟩), j 11, j 12, j 13, j 14, j 15, j 16, j 17, j 18, j 19, j 20, j 21, j 22, j 23, j 24, j 25, j 26, j 27, j 28, j 29, j 30, j 31, j 32, j 33, j 34, j 35, j 36, j 37, j 38, j 39, j 40, j 41, j 42, j 43, j 44, j 45, j 46, j 47, j 48, j 49, j 50, j 51, j 52, j 53, j 54, j 55, j 56, j 57, j 58, j 59, j 60, j 61, j 62, j 63, j 64, j 65, j 66, j 67, j 68, j 69, j 70, j 71, j 72, j 73, j 74, j 75, j 76, j 77, j 78, j 79, j 80, j 81, j 82, j 83, j 84, j 85, j 86, j 87, j 88]

theorem stFr3_of {b4 b5 b7 b8 b9 b10 b11 x2 : Nat} (t : Array Value) (h : t = stFr3 b4 b5 b7 b8 b9 b10 b11 x2 fun n => t.getD n undef) : ∃ j, ({ tmps := t, defers := [] } : Act) = { tmps := stFr3 b4 b5 b7 b8 b9 b10 b11 x2 j, defers := [] } := ⟨_, by rw [← h]⟩
structure Fix2 (W : World) (g : List Nat) (B b4 b5 b6 b7 b8 b9 b10 x x1 : Nat) : Prop where
  cr : Crowd W B g
  c6 : Boxed W b6 62 (.func (.func 38) #[.pointer (some ⟨B, 0, none⟩)] #[])
  c7 : Boxed W b7 81 (.func (.func 47) #[] #[.pointer (some ⟨b6, 0, none⟩)])
  c4 : ∃ a0 a1 a2 a3 a4, BoxN W b4 40 #[a0, a1, a2, a3, a4]
  c5 : ∃ v, Boxed W b5 4 v
  c8 : Boxed W b8 3 (.int .i64 (x : Int))
  c9 : Boxed W b9 3 (.int .i64 ((ldiff (full g.length) x : Nat) : Int))
  c10 : Boxed W b10 3 (.int .i64 (x1 : Int))
theorem boxed_below {W W' : World} {b : Nat} {t : TypeId} {v : Value} (h : Boxed W b t v) (hB : Below W.heap.size W W') : Boxed W' b t v := (hB.block b h.lt).trans h
theorem Fix2.below {W W' : World} {g : List Nat} {B b4 b5 b6 b7 b8 b9 b10 x x1 : Nat} (h : Fix2 W g B b4 b5 b6 b7 b8 b9 b10 x x1) (hB : Below W.heap.size W W') : Fix2 W' g B b4 b5 b6 b7 b8 b9 b10 x x1 := by
  obtain ⟨cr, h6, h7, ⟨a0, a1, a2, a3, a4, h4⟩, ⟨v5, h5⟩, h8, h9, h10⟩ := h
  exact ⟨cr.below hB cr.lt, boxed_below h6 hB, boxed_below h7 hB, ⟨a0, a1, a2, a3, a4, h4.below hB h4.lt⟩, ⟨v5, boxed_below h5 hB⟩, boxed_below h8 hB, boxed_below h9 hB, boxed_below h10 hB⟩
def Fnd2 (g : List Nat) (x x1 b4 b5 : Nat) (W' : World) : Prop := joinF g x1 (ldiff (full g.length) x) ≠ 0 ∧ ∃ x2, Within x2 (ldiff x x1) ∧ Good3 g x x1 x2 ∧ Found g x x1 x2 b4 b5 W'
theorem ownFrom_found {g : List Nat} {x x1 x2 b4 b5 B : Nat} (P : Prop) : OwnFrom B (fun (_ : Unit) W => P ∧ Found g x x1 x2 b4 b5 W) := fun _ X Y row hs hg hr => by
  refine ⟨hs.1, hs.2.1.kept hg (fun e => ?_), hs.2.2.kept hg (fun e => ?_)⟩
  · obtain ⟨_, o, ho, hc⟩ := hr b4 e.symm
    rw [show X.heap[b4]? = _ from hs.2.1] at ho
    cases ho; cases hc
  · obtain ⟨_, o, ho, hc⟩ := hr b5 e.symm
    rw [show X.heap[b5]? = _ from hs.2.2] at ho
    cases ho; cases hc
set_option maxRecDepth 100000 in
set_option maxHeartbeats 1000000 in
theorem stB2 (l B b4 b5 b6 b7 b8 b9 b10 x x1 : Nat) (g : List Nat) (hl : g.length ≤ 10) (hsm : ∀ i : Nat, Sm (g[i]?.getD 0)) (hx : Sm x) (hx1 : Sm x1) (j : Nat → Value) (W : World) (hr : ∃ r, W.heap[l]? = some (.loop r)) (h : Fix2 W g B b4 b5 b6 b7 b8 b9 b10 x x1) (h45 : b4 ≠ b5) :
    stC2.wpIn (Fence.wide.inRound l) 22 Try.prog (StPost W b4 b5 (Good2 g x x1) (Fnd2 g x x1 b4 b5)) { tmps := stFr2 b4 b5 b7 b8 b9 b10 j, defers := [] } W := by
  have hG : Hid (Good2 g x x1 ↔ joinF g x1 (ldiff (full g.length) x) ≠ 0 ∧ ∃ x2, Within x2 (ldiff x x1) ∧ Good3 g x x1 x2) := Iff.rfl
  have hfs : Sm (full g.length) := sm_full (by omega)
  have hys : Sm (ldiff (full g.length) x) := sm_ldiff _ hfs
  have hxs : Sm (ldiff x x1) := sm_ldiff _ hx
  obtain ⟨y1, hy1⟩ : ∃ y1, Hid (y1 = joinF g x1 (ldiff (full g.length) x)) := ⟨_, rfl⟩
  have hy1s : Sm y1 := by rw [hy1.out]; exact joinF_sm _ _ _
  have hh := Lib.hid h
  obtain ⟨cr, h6, h7, h4, h5, h8, h9, h10⟩ := h
  have c7 := h7.cell
  have c8 := h8.cell
  have c9 := h9.cell
  have c10 := h10.cell
  have KJ : Hid (∀ (n : Nat) (W' : World), Below W.heap.size W W' → CallsIn (Fence.wide.inRound l) n Try.prog 47 #[.int .i64 (x1 : Int), .int .i64 ((ldiff (full g.length) x : Nat) : Int), .pointer (some ⟨b6, 0, none⟩)] W' fun e w' => e = .returned (.int .i64 (y1 : Nat)) ∧ Below W'.heap.size W' w') := fun n W' hB => by
    rw [hy1.out]; exact CallsIn.inRound l (callsIn_wide.2 (callsIn_wide.1 (join_in B b6 g x1 _ W' hl hx1 hys hsm (cr.below hB cr.lt) (boxed_below h6 hB))))
  have HR := Lib.hid hr
  clear hr
  unfold stFr2
  conv in stC2 => whnf
  gi_wp2_with fail
  refine (KJ.out _ _ (Below.refl _ _)).mono ?_
  rintro e w1 ⟨rfl, hB1⟩
  have hh1 := Lib.hid (hh.out.below hB1)
  clear c7 c8 c9 c10
  have c8 := (boxed_below h8 hB1).cell
  have c10 := (boxed_below h10 hB1).cell
  by_cases hy0 : y1 = 0
  · have g0 : (((y1 : Nat) : Int) == 0) = true := by rw [hy0]; rfl
    have HY := Lib.hid hy0
    clear hy0
    gi_wp2
    exact ⟨hB1.alloc hB1.size _, fun hg => (hG.out.1 hg).1 (by rw [← hy1.out]; exact HY.out)⟩
  · have g0 : (((y1 : Nat) : Int) == 0) = false := by rw [beq_eq_false_iff_ne]; omega
    have HY := Lib.hid hy0
    clear hy0
    gi_wp2_with (first
      | (gi_at_call 45; refine (CallsIn.inRound l (callsIn_wide.2 (within_in _ _))).mono ?_; rintro e w2 ⟨rfl, rfl⟩))
    have hV : Below w1.heap.size w1 ((w1.alloc (.cells #[.int .i64 (y1 : Int)] 3)).alloc (.cells #[.int .i64 ((ldiff x x1 : Nat) : Int)] 3)) := ((Below.refl _ w1).alloc (Nat.le_refl _) _).alloc (by simp) _
    have h11 : Boxed ((w1.alloc (.cells #[.int .i64 (y1 : Int)] 3)).alloc (.cells #[.int .i64 ((ldiff x x1 : Nat) : Int)] 3)) w1.heap.size 3 (.int .i64 (y1 : Int)) := (boxed_at rfl).alloc _
    have hVs : ((w1.alloc (.cells #[.int .i64 (y1 : Int)] 3)).alloc (.cells #[.int .i64 ((ldiff x x1 : Nat) : Int)] 3)).heap.size = w1.heap.size + 1 + 1 := by simp
    have hwb : ((w1.alloc (.cells #[.int .i64 (y1 : Int)] 3)).alloc (.cells #[.int .i64 ((ldiff x x1 : Nat) : Int)] 3)).cell? ⟨w1.heap.size + 1, 0, none⟩ = some (.int .i64 ((ldiff x x1 : Nat) : Int)) := (boxed_at (by simp)).cell
    have hhV := hh1.out.below hV
    have hrV : ∃ r, ((w1.alloc (.cells #[.int .i64 (y1 : Int)] 3)).alloc (.cells #[.int .i64 ((ldiff x x1 : Nat) : Int)] 3)).heap[l]? = some (.loop r) := by
      obtain ⟨r, hr⟩ := HR.out
      have hlt := (Array.getElem?_eq_some_iff.1 hr).1
      exact ⟨r, (hV.block l (Nat.lt_of_lt_of_le hlt hB1.size)).trans ((hB1.block l hlt).trans hr)⟩
    have hWV := hB1.trans (hV.mono hB1.size)
    generalize ((w1.alloc (.cells #[.int .i64 (y1 : Int)] 3)).alloc (.cells #[.int .i64 ((ldiff x x1 : Nat) : Int)] 3)) = V at *
    have hHV := Lib.hid hhV
    obtain ⟨_, _, _, ⟨a0, a1, a2, a3, a4, h4V⟩, ⟨v5, h5V⟩, _, _, _⟩ := hhV
    refine rfN (set := ldiff x x1) (Bs := w1.heap.size + 1) (b4 := b4) (b5 := b5) hrV (by decide) (by decide) rfl rfl hxs (by omega) hwb (fun x2 => Good3 g x x1 x2) (fun x2 W => Good3 g x x1 x2 ∧ Found g x x1 x2 b4 b5 W) (fun x2 => ownFrom_found _)
      h4V.lt h5V.lt (fun x2 a' _ => ∃ j, a' = { tmps := stFr3 b4 b5 b7 b8 b9 b10 w1.heap.size x2.1 j, defers := [] }) (fun _ _ _ _ _ _ hs _ _ => hs) ?assign ?body ?done ?stop
    case assign =>
      rintro l2 x2 W2 K hB2 hK
      simp only [List.setIfInBounds_toArray, List.set_cons_zero, List.set_cons_succ]
      gi_wp2
      exact hK _ _ (Below.refl _ _) (stFr3_of _ rfl)
    case body =>
      rintro l2 x2 a' W2 hr2 hB2 ⟨j2, rfl⟩
      obtain ⟨cr', k6, k7, k4, k5, k8, k9, k10⟩ := hHV.out.below hB2
      exact stB3 l2 B b4 b5 b6 b7 b8 b9 b10 w1.heap.size x x1 x2.1 g hl hsm hx hx1 x2.2 j2 W2 ⟨cr', k6, k7, k4, k5, k8, k9, k10, by rw [← hy1.out]; exact boxed_below h11 hB2⟩ h45
    case done =>
      rintro W2 hB2 hno
      gi_wp2
      exact ⟨hWV.trans (hB2.mono hWV.size), fun hg => by obtain ⟨_, x2, hw, hg3⟩ := hG.out.1 hg; exact hno x2 hw hg3⟩
    case stop =>
      rintro W2 x2 hw ⟨hg3, hf⟩ hag
      gi_wp2
      exact ⟨rfl, ⟨by rw [← hy1.out]; exact HY.out, x2, hw, hg3, hf⟩, (Ag.of_below hWV).trans hag⟩
end Go.Proofs.Ytfbobojpocnfeaa
