/- The program's structure: the outer loop's body. -/
import Derived.Test.YtfbobojpocnfeaaSu
namespace Go.Proofs.Ytfbobojpocnfeaa
open Go.RowKit Go.Shelf
attribute [local go_sem] Oper.semAt_some

def stFr1 (b2 b3 b4 b5 b6 b7 b8 : Nat) (j : Nat → Value) : Array Value :=
  #[j 0, j 1, .pointer (some ⟨b2, 0, none⟩), .pointer (some ⟨b3, 0, none⟩), .pointer (some ⟨b4, 0, none⟩), .pointer (some ⟨b5, 0, none⟩), .pointer (some ⟨b6, 0, none⟩), .pointer (some ⟨b7, 0, none⟩), .pointer (some ⟨b8, 0, none⟩), j 9, j 10, j 11, j 12, j 13, j 14, j 15, j 16, j 17, j 18, j 19, j 20, j 21, j 22, j 23, j 24, j 25, j 26, j 27, j 28, j 29, j 30, j 31, j 32, j 33, j 34, j 35, j 36, j 37, j 38, j 39, j 40, j 41, j 42, j 43, j 44, j 45, j 46, j 47, j 48, j 49, j 50, j 51, j 52, j 53, j 54, j 55, j 56, j 57, j 58, j 59, j 60, j 61, j 62, j 63, j 64, j 65, j 66, j 67, j 68, j 69, j 70, j 71, j 72, j 73, j 74, j 75, j 76, j 77, j 78, j 79, j 80, j 81, j 82, j 83, j 84, j 85, j 86, j 87, j 88]
def stFr1y (b2 b3 b4 b5 b6 b7 b8 b9 : Nat) (j : Nat → Value) : Array Value :=
  #[j 0, j 1, .pointer (some ⟨b2, 0, none⟩), .pointer (some ⟨b3, 0, none⟩), .pointer (some ⟨b4, 0, none⟩), .pointer (some ⟨b5, 0, none⟩), .pointer (some ⟨b6, 0, none⟩), .pointer (some ⟨b7, 0, none⟩), .pointer (some ⟨b8, 0, none⟩), .pointer (some ⟨b9, 0, none⟩), j 10, j 11, j 12, j 13, j 14, j 15, j 16, j 17, j 18, j 19, j 20, j 21, j 22, j 23, j 24, j 25, j 26, j 27, j 28, j 29, j 30, j 31, j 32, j 33, j 34, j 35, j 36, j 37, j 38, j 39, j 40, j 41, j 42, j 43, j 44, j 45, j 46, j 47, j 48, j 49, j 50, j 51, j 52, j 53, j 54, j 55, j 56, j 57, j 58, j 59, j 60, j 61, j 62, j 63, j 64, j 65, j 66, j 67, j 68, j 69, j 70, j 71, j 72, j 73, j 74, j 75, j 76, j 77, j 78, j 79, j 80, j 81, j 82, j 83, j 84, j 85, j 86, j 87, j 88]

theorem stFr1y_of {b2 b3 b4 b5 b6 b7 b8 b9 : Nat} (t : Array Value) (h : t = stFr1y b2 b3 b4 b5 b6 b7 b8 b9 fun n => t.getD n undef) : ∃ j, ({ tmps := t, defers := [] } : Act) = { tmps := stFr1y b2 b3 b4 b5 b6 b7 b8 b9 j, defers := [] } := ⟨_, by rw [← h]⟩
theorem stFr2_of {b4 b5 b7 b8 b9 b10 : Nat} (t : Array Value) (h : t = stFr2 b4 b5 b7 b8 b9 b10 fun n => t.getD n undef) : ∃ j, ({ tmps := t, defers := [] } : Act) = { tmps := stFr2 b4 b5 b7 b8 b9 b10 j, defers := [] } := ⟨_, by rw [← h]⟩
structure Fix1 (W : World) (g : List Nat) (B b2 b3 b4 b5 b6 b7 b8 : Nat) (seats : Int) (x : Nat) : Prop where
  cr : Crowd W B g
  c2 : Boxed W b2 56 (.pointer (some ⟨B, 0, none⟩))
  c3 : Boxed W b3 3 (.int .i64 seats)
  c6 : Boxed W b6 62 (.func (.func 38) #[.pointer (some ⟨B, 0, none⟩)] #[])
  c7 : Boxed W b7 81 (.func (.func 47) #[] #[.pointer (some ⟨b6, 0, none⟩)])
  c4 : ∃ a0 a1 a2 a3 a4, BoxN W b4 40 #[a0, a1, a2, a3, a4]
  c5 : ∃ v, Boxed W b5 4 v
  c8 : Boxed W b8 3 (.int .i64 (x : Int))
theorem Fix1.below {W W' : World} {g : List Nat} {B b2 b3 b4 b5 b6 b7 b8 x : Nat} {seats : Int} (h : Fix1 W g B b2 b3 b4 b5 b6 b7 b8 seats x) (hB : Below W.heap.size W W') : Fix1 W' g B b2 b3 b4 b5 b6 b7 b8 seats x := by
  obtain ⟨cr, h2, h3, h6, h7, ⟨a0, a1, a2, a3, a4, h4⟩, ⟨v5, h5⟩, h8⟩ := h
  exact ⟨cr.below hB cr.lt, boxed_below h2 hB, boxed_below h3 hB, boxed_below h6 hB, boxed_below h7 hB, ⟨a0, a1, a2, a3, a4, h4.below hB h4.lt⟩, ⟨v5, boxed_below h5 hB⟩, boxed_below h8 hB⟩
def Fnd1 (g : List Nat) (seats : Int) (x b4 b5 : Nat) (W' : World) : Prop := ((size (ldiff (full g.length) x) : Int) ≤ seats ∧ ldiff (full g.length) x ≠ 0 ∧ quietB g x = true) ∧ ∃ x1, Within x1 x ∧ Fnd2 g x x1 b4 b5 W'
/-- behind the region that draws -/
def StY (W : World) (b2 b3 b4 b5 b6 b7 b8 y : Nat) (a' : Act) (W' : World) : Prop := ∃ b9, (∃ j, a' = { tmps := stFr1y b2 b3 b4 b5 b6 b7 b8 b9 j, defers := [] }) ∧ Below W.heap.size W W' ∧ Boxed W' b9 3 (.int .i64 (y : Int))
theorem ownFrom_fnd2 {g : List Nat} {x x1 b4 b5 : Nat} (B : Nat) : OwnFrom B (fun (_ : Unit) W => Fnd2 g x x1 b4 b5 W) := fun _ X Y row hs hg hr => by
  obtain ⟨h0, x2, hw, hg3, hf⟩ := hs
  exact ⟨h0, x2, hw, hg3, (ownFrom_found (g := g) (x := x) (x1 := x1) (x2 := x2) (b4 := b4) (b5 := b5) (B := B) True () X Y row ⟨trivial, hf⟩ hg hr).2⟩
theorem ownFrom_ax2 {b4 b5 b7 b8 b9 lo B : Nat} {x1 : S20} {a' : Act} : OwnFrom B (fun (_ : Unit) W' => ∃ b10, (∃ j, a' = { tmps := stFr2 b4 b5 b7 b8 b9 b10 j, defers := [] }) ∧ lo ≤ b10 ∧ Boxed W' b10 3 (.int .i64 (x1.1 : Int))) := fun _ X Y row hs hg hr => by
  obtain ⟨b10, h1, h2, h3⟩ := hs
  refine ⟨b10, h1, h2, h3.kept hg (fun e => ?_)⟩
  obtain ⟨_, o, ho, hc⟩ := hr b10 e.symm
  rw [show X.heap[b10]? = _ from h3] at ho
  cases ho; cases hc
set_option maxRecDepth 100000 in
set_option maxHeartbeats 1000000 in
theorem stB1 (l B b2 b3 b4 b5 b6 b7 b8 x : Nat) (seats : Int) (g : List Nat) (hl : g.length ≤ 10) (hsm : ∀ i : Nat, Sm (g[i]?.getD 0)) (hx : Sm x) (j : Nat → Value) (W : World) (hr : ∃ r, W.heap[l]? = some (.loop r)) (h : Fix1 W g B b2 b3 b4 b5 b6 b7 b8 seats x) (h45 : b4 ≠ b5) :
    stC1.wpIn (Fence.wide.inRound l) 24 Try.prog (StPost W b4 b5 (Good1 g seats x) (Fnd1 g seats x b4 b5)) { tmps := stFr1 b2 b3 b4 b5 b6 b7 b8 j, defers := [] } W := by
  have hG : Hid (Good1 g seats x ↔ (size (ldiff (full g.length) x) : Int) ≤ seats ∧ ldiff (full g.length) x ≠ 0 ∧ quietB g x = true ∧ ∃ x1, Within x1 x ∧ Good2 g x x1) := Iff.rfl
  have hfs : Sm (full g.length) := sm_full (by omega)
  have hh := Lib.hid h
  obtain ⟨cr, h2, h3, h6, h7, h4, h5, h8⟩ := h
  have c2 := h2.cell
  have c8 := h8.cell
  have crn := cr.n
  have HR := Lib.hid hr
  clear hr
  unfold stFr1
  conv in stC1 => whnf
  gi_wp2_with fail
  refine wpIn_cut0 (StY W b2 b3 b4 b5 b6 b7 b8 (ldiff (full g.length) x)) ?_ ?_
  · rintro a' W1 ⟨b9, ⟨j1, rfl⟩, hB1, h9⟩
    have hh1 := Lib.hid (hh.out.below hB1)
    obtain ⟨cr1, k2, k3, k6, k7, k4, k5, k8⟩ := hh.out.below hB1
    clear c2 c8 crn cr h2 h3 h6 h7 h4 h5 h8
    have c3 := k3.cell
    have c6 := k6.cell
    have c8 := k8.cell
    have c9 := h9.cell
    have hys : Sm (ldiff (full g.length) x) := sm_ldiff _ hfs
    obtain ⟨y, hy⟩ : ∃ y, Hid (y = ldiff (full g.length) x) := ⟨_, rfl⟩
    obtain ⟨zy, hzy⟩ : ∃ z, Hid (z = size y) := ⟨_, rfl⟩
    rw [← hy.out] at hys c9 h9
    have KY : Hid (∀ (n : Nat) (W : World), CallsIn (Fence.wide.inRound l) n Try.prog 34 #[.int .i64 (y : Int)] W fun e w' => e = .returned (.int .i64 (zy : Int)) ∧ w' = W) := fun n W => by rw [hzy.out]; exact CallsIn.inRound l (callsIn_wide.2 (count_any y W hys.lt))
    have KQ : Hid (∀ (n : Nat) (nq : Nat), CallsIn (Fence.wide.inRound l) n Try.prog 38 #[.pointer (some ⟨B, 0, none⟩), .int .i64 (x : Int)] (W1.drewN nq) fun e w' => e = .returned (.bool (quietB g x)) ∧ w' = W1.drewN nq) := fun n nq => CallsIn.inRound l (callsIn_wide.2 (cquiet_any B g x _ hl hx hsm (cr1.drewN nq)))
    unfold stFr1y
    by_cases h1 : seats < (zy : Int)
    · gi_wp2
      refine quietR_lit (by kernel_rfl) (by kernel_rfl) (by kernel_rfl) ?_
      repeat (gi_big_quiet_step ((first
        | (gi_at_call 34; refine CallsIn.quiet_of_same (KY.out _ _)))))
      refine wpQuietIn_nil ?_
      rintro _ ⟨nq, rfl⟩
      gi_wp2
      exact ⟨below_dr hB1 nq, fun hg => by have := (hG.out.1 hg).1; rw [← hy.out, ← hzy.out] at this; omega⟩
    · have hd : decide (seats < (zy : Int)) = false := decide_eq_false h1
      by_cases h2 : y = 0
      · have g0 : (((y : Nat) : Int) == 0) = true := by rw [h2]; rfl
        have HY := Lib.hid h2
        clear h2
        gi_wp2
        refine quietR_lit (by kernel_rfl) (by kernel_rfl) (by kernel_rfl) ?_
        repeat (gi_big_quiet_step ((first
          | (gi_at_call 34; refine CallsIn.quiet_of_same (KY.out _ _)))))
        refine wpQuietIn_nil ?_
        rintro _ ⟨nq, rfl⟩
        gi_wp2
        exact ⟨below_dr hB1 nq, fun hg => (hG.out.1 hg).2.1 (by rw [← hy.out]; exact HY.out)⟩
      · have g0 : (((y : Nat) : Int) == 0) = false := by rw [beq_eq_false_iff_ne]; omega
        have HY := Lib.hid h2
        clear h2
        cases hq : quietB g x with
        | false =>
          have HQ := Lib.hid hq
          rw [hq] at KQ
          clear hq
          gi_wp2
          refine quietR_lit (by kernel_rfl) (by kernel_rfl) (by kernel_rfl) ?_
          repeat (gi_big_quiet_step ((first
            | (gi_at_call 34; refine CallsIn.quiet_of_same (KY.out _ _))
            | (gi_at_call 38; refine CallsIn.quiet_of_same (KQ.out _ _)))))
          refine wpQuietIn_nil ?_
          rintro _ ⟨nq, rfl⟩
          gi_wp2
          exact ⟨below_dr hB1 nq, fun hg => by have := (hG.out.1 hg).2.2.1; rw [HQ.out] at this; cases this⟩
        | true =>
          have HQ := Lib.hid hq
          rw [hq] at KQ
          clear hq
          gi_wp2
          refine quietR_lit (by kernel_rfl) (by kernel_rfl) (by kernel_rfl) ?_
          repeat (gi_big_quiet_step ((first
            | (gi_at_call 34; refine CallsIn.quiet_of_same (KY.out _ _))
            | (gi_at_call 38; refine CallsIn.quiet_of_same (KQ.out _ _)))))
          refine wpQuietIn_nil ?_
          rintro _ ⟨nq, rfl⟩
          gi_wp2_with (first
            | (gi_at_call 45; refine (CallsIn.inRound l (callsIn_wide.2 (within_in _ _))).mono ?_; rintro e w2 ⟨rfl, rfl⟩))
          have hW2 : Below W1.heap.size W1 (W1.drewN nq) := below_dr (Below.refl _ _) nq
          have hV : Below W1.heap.size W1 ((W1.drewN nq).alloc (.cells #[.int .i64 (x : Int)] 3)) := hW2.alloc (Nat.le_refl _) _
          have hVs : ((W1.drewN nq).alloc (.cells #[.int .i64 (x : Int)] 3)).heap.size = W1.heap.size + 1 := by simp
          have hwb : ((W1.drewN nq).alloc (.cells #[.int .i64 (x : Int)] 3)).cell? ⟨W1.heap.size, 0, none⟩ = some (.int .i64 (x : Int)) := (boxed_at (W := W1.drewN nq) rfl).cell
          have hhV := hh1.out.below hV
          have h9V := boxed_below h9 hV
          have hWV := hB1.trans (hV.mono hB1.size)
          have hrV : ∃ r, ((W1.drewN nq).alloc (.cells #[.int .i64 (x : Int)] 3)).heap[l]? = some (.loop r) := by
            obtain ⟨r, hr⟩ := HR.out
            have hlt := (Array.getElem?_eq_some_iff.1 hr).1
            exact ⟨r, (hWV.block l hlt).trans hr⟩
          generalize ((W1.drewN nq).alloc (.cells #[.int .i64 (x : Int)] 3)) = V at *
          have hHV := Lib.hid hhV
          have hH9 := Lib.hid h9V
          obtain ⟨_, _, _, _, _, ⟨a0, a1, a2, a3, a4, h4V⟩, ⟨v5, h5V⟩, _⟩ := hhV
          refine rfN (set := x) (Bs := W1.heap.size) (b4 := b4) (b5 := b5) hrV (by decide) (by decide) rfl rfl hx (by omega) hwb (fun x1 => Good2 g x x1) (fun x1 W => Fnd2 g x x1 b4 b5 W) (fun x1 => ownFrom_fnd2 _)
            h4V.lt h5V.lt (fun x1 a' W' => ∃ b10, (∃ j, a' = { tmps := stFr2 b4 b5 b7 b8 b9 b10 j, defers := [] }) ∧ V.heap.size ≤ b10 ∧ Boxed W' b10 3 (.int .i64 (x1.1 : Int))) (fun x1 a' => ownFrom_ax2) ?assign ?body ?done ?stop
          case assign =>
            rintro l2 x1 W2 K hB2 hK
            simp only [List.setIfInBounds_toArray, List.set_cons_zero, List.set_cons_succ]
            gi_wp2
            exact hK _ _ ((Below.refl _ _).alloc (Nat.le_refl _) _) ⟨W2.heap.size, stFr2_of _ rfl, hB2.size, boxed_at rfl⟩
          case body =>
            rintro l2 x1 a' W2 hr2 hB2 ⟨b10, ⟨j2, rfl⟩, hlt10, h10⟩
            obtain ⟨cr', q2, q3, q6, q7, q4, q5, q8⟩ := hHV.out.below hB2
            have q9 := boxed_below hH9.out hB2
            rw [hy.out] at q9
            exact stB2 l2 B b4 b5 b6 b7 b8 b9 b10 x x1.1 g hl hsm hx x1.2 j2 W2 hr2 ⟨cr', q6, q7, q4, q5, q8, q9, h10⟩ h45
          case done =>
            rintro W2 hB2 hno
            gi_wp2
            exact ⟨hWV.trans (hB2.mono hWV.size), fun hg => by obtain ⟨_, _, _, x1, hw, hg2⟩ := hG.out.1 hg; exact hno x1 hw hg2⟩
          case stop =>
            rintro W2 x1 hw hf hag
            gi_wp2
            exact ⟨rfl, ⟨⟨by rw [← hy.out, ← hzy.out]; exact h1, by rw [← hy.out]; exact HY.out, HQ.out⟩, x1, hw, hf⟩, (Ag.of_below hWV).trans hag⟩
  · have mixed : Try.prog.follows .mixedOrders = true := by kernel_rfl
    gi_region_with_o (gi_at_call 37; refine (CallsIn.inRound l (callsIn_wide.2 (call_any B g.length _ (by omega) (by first | exact crn | exact cell_al _ crn)))).mono ?_; rintro e w1 ⟨rfl, rfl⟩)
    all_goals exact ⟨W.heap.size, stFr1y_of _ rfl, ((Below.refl _ W).alloc (Nat.le_refl _) _).drew, (boxed_at rfl)⟩
end Go.Proofs.Ytfbobojpocnfeaa
