/- The program's structure: the function. -/
import Derived.Test.YtfbobojpocnfeaaSv
import Derived.Laws.EntriesVeiled
namespace Go.Proofs.Ytfbobojpocnfeaa
open Go.RowKit Go.Shelf
attribute [local go_sem] Oper.semAt_some

/-- what the search for a structure comes to -/
def StructR (g : List Nat) (seats : Int) (l : List Nat) (ok : Bool) : Prop :=
  (ok = false ∧ l = [0, 0, 0, 0, 0] ∧ ∀ x, Within x (full g.length) → ¬ Good1 g seats x) ∨
  (ok = true ∧ ∃ x x1 x2, l = five g x x1 x2 ∧ Within x (full g.length) ∧ (size (ldiff (full g.length) x) : Int) ≤ seats ∧ ldiff (full g.length) x ≠ 0 ∧ quietB g x = true ∧ Within x1 x ∧ joinF g x1 (ldiff (full g.length) x) ≠ 0 ∧ Within x2 (ldiff x x1) ∧ Good3 g x x1 x2)
theorem StructR.len {g : List Nat} {seats : Int} {l : List Nat} {ok : Bool} (h : StructR g seats l ok) : l.length = 5 := by
  rcases h with ⟨_, rfl, _⟩ | ⟨_, x, x1, x2, rfl, _⟩ <;> rfl
theorem ints5_eq {l : List Nat} (h : l.length = 5) : ∃ a0 a1 a2 a3 a4 : Nat, l = [a0, a1, a2, a3, a4] := by
  match l, h with
  | [a0, a1, a2, a3, a4], _ => exact ⟨a0, a1, a2, a3, a4, rfl⟩
theorem stFr1_of {b2 b3 b4 b5 b6 b7 b8 : Nat} (t : Array Value) (h : t = stFr1 b2 b3 b4 b5 b6 b7 b8 fun n => t.getD n undef) : ∃ j, ({ tmps := t, defers := [] } : Act) = { tmps := stFr1 b2 b3 b4 b5 b6 b7 b8 j, defers := [] } := ⟨_, by rw [← h]⟩
theorem ownFrom_fnd1 {g : List Nat} {seats : Int} {x b4 b5 : Nat} (B : Nat) : OwnFrom B (fun (_ : Unit) W => Fnd1 g seats x b4 b5 W) := fun _ X Y row hs hg hr => by
  obtain ⟨h0, x1, hw, hf⟩ := hs
  exact ⟨h0, x1, hw, ownFrom_fnd2 (g := g) (x := x) (x1 := x1) (b4 := b4) (b5 := b5) B () X Y row hf hg hr⟩
theorem ownFrom_ax1 {b2 b3 b4 b5 b6 b7 lo B : Nat} {x : S20} {a' : Act} : OwnFrom B (fun (_ : Unit) W' => ∃ b8, (∃ j, a' = { tmps := stFr1 b2 b3 b4 b5 b6 b7 b8 j, defers := [] }) ∧ lo ≤ b8 ∧ Boxed W' b8 3 (.int .i64 (x.1 : Int))) := fun _ X Y row hs hg hr => by
  obtain ⟨b8, h1, h2, h3⟩ := hs
  refine ⟨b8, h1, h2, h3.kept hg (fun e => ?_)⟩
  obtain ⟨_, o, ho, hc⟩ := hr b8 e.symm
  rw [show X.heap[b8]? = _ from h3] at ho
  cases ho; cases hc
set_option maxRecDepth 100000 in
set_option maxHeartbeats 1000000 in
theorem structure_in (B : Nat) (g : List Nat) (seats : Int) (w : World) (hl : g.length ≤ 10) (hsm : ∀ i : Nat, Sm (g[i]?.getD 0)) (hg : Crowd w B g) :
    CallsIn Fence.wide 26 Try.prog 39 #[.pointer (some ⟨B, 0, none⟩), .int .i64 seats] w fun e w' => ∃ l ok, e = .returned (.tuple #[.agg (ints5 l), .bool ok]) ∧ Below w.heap.size w w' ∧ StructR g seats l ok := by
  refine callsIn_of_wp_marks Try.func39 rfl trivial ?_ rfl
  simp only [Try.ntmps39, List.size_toArray, List.length_cons, List.length_nil, Nat.reduceAdd, Nat.reduceSub, Array.replicate_succ, Array.replicate_zero, List.push_toArray, List.append_toArray, List.nil_append, List.cons_append]
  have hn := hg.n
  have hBlt := hg.lt
  have hfs : Sm (full g.length) := sm_full (by omega)
  refine wpIn_wide.2 ?_
  go_wp2
  go_step3
  go_wp2
  go_step3
  go_wp2_with (first
    | (go_at_call 37; go_must (refine (call_any B g.length _ (by omega) (by repeat (first | exact hn | refine cell_al _ ?_))).mono ?_); rintro e w' ⟨rfl, rfl⟩)
    | (go_at_call 45; go_must (refine (within_in _ _).mono ?_); rintro e w' ⟨rfl, rfl⟩))
  have hB0 : Below w.heap.size w ((((((w.alloc (Obj.cells #[.pointer (some ⟨B, 0, none⟩)] 56)).alloc (.cells #[.int .i64 seats] 3)).alloc (.cells #[.int .i64 0, .int .i64 0, .int .i64 0, .int .i64 0, .int .i64 0] 40)).alloc (.cells #[.bool false] 4)).alloc (.cells #[.func (.func 38) #[.pointer (some ⟨B, 0, none⟩)] #[]] 62)).alloc (.cells #[.func (.func 47) #[] #[.pointer (some ⟨w.heap.size + 1 + 1 + 1 + 1, 0, none⟩)]] 81)) :=
    (((((((Below.refl _ w).alloc (Nat.le_refl _) _).alloc (by simp) _).alloc (by simp; omega) _).alloc (by simp; omega) _).alloc (by simp; omega) _).alloc (by simp; omega) _)
  have x2 : Boxed (w.alloc (Obj.cells #[.pointer (some ⟨B, 0, none⟩)] 56)) w.heap.size 56 (.pointer (some ⟨B, 0, none⟩)) := boxed_at rfl
  have x3 : Boxed ((w.alloc (Obj.cells #[.pointer (some ⟨B, 0, none⟩)] 56)).alloc (.cells #[.int .i64 seats] 3)) (w.heap.size + 1) 3 (.int .i64 seats) := boxed_at (by simp)
  have x4 : BoxN (((w.alloc (Obj.cells #[.pointer (some ⟨B, 0, none⟩)] 56)).alloc (.cells #[.int .i64 seats] 3)).alloc (.cells #[.int .i64 0, .int .i64 0, .int .i64 0, .int .i64 0, .int .i64 0] 40)) (w.heap.size + 1 + 1) 40 #[.int .i64 0, .int .i64 0, .int .i64 0, .int .i64 0, .int .i64 0] := BoxN.new (by simp)
  have x5 : Boxed ((((w.alloc (Obj.cells #[.pointer (some ⟨B, 0, none⟩)] 56)).alloc (.cells #[.int .i64 seats] 3)).alloc (.cells #[.int .i64 0, .int .i64 0, .int .i64 0, .int .i64 0, .int .i64 0] 40)).alloc (.cells #[.bool false] 4)) (w.heap.size + 1 + 1 + 1) 4 (.bool false) := boxed_at (by simp)
  have x6 : Boxed (((((w.alloc (Obj.cells #[.pointer (some ⟨B, 0, none⟩)] 56)).alloc (.cells #[.int .i64 seats] 3)).alloc (.cells #[.int .i64 0, .int .i64 0, .int .i64 0, .int .i64 0, .int .i64 0] 40)).alloc (.cells #[.bool false] 4)).alloc (.cells #[.func (.func 38) #[.pointer (some ⟨B, 0, none⟩)] #[]] 62)) (w.heap.size + 1 + 1 + 1 + 1) 62 (.func (.func 38) #[.pointer (some ⟨B, 0, none⟩)] #[]) := boxed_at (by simp)
  have x7 : Boxed ((((((w.alloc (Obj.cells #[.pointer (some ⟨B, 0, none⟩)] 56)).alloc (.cells #[.int .i64 seats] 3)).alloc (.cells #[.int .i64 0, .int .i64 0, .int .i64 0, .int .i64 0, .int .i64 0] 40)).alloc (.cells #[.bool false] 4)).alloc (.cells #[.func (.func 38) #[.pointer (some ⟨B, 0, none⟩)] #[]] 62)).alloc (.cells #[.func (.func 47) #[] #[.pointer (some ⟨w.heap.size + 1 + 1 + 1 + 1, 0, none⟩)]] 81)) (w.heap.size + 1 + 1 + 1 + 1 + 1) 81 (.func (.func 47) #[] #[.pointer (some ⟨w.heap.size + 1 + 1 + 1 + 1, 0, none⟩)]) := boxed_at (by simp)
  have x2 := ((((x2.alloc (.cells #[.int .i64 seats] 3)).alloc (.cells #[.int .i64 0, .int .i64 0, .int .i64 0, .int .i64 0, .int .i64 0] 40)).alloc (.cells #[.bool false] 4)).alloc (.cells #[.func (.func 38) #[.pointer (some ⟨B, 0, none⟩)] #[]] 62)).alloc (.cells #[.func (.func 47) #[] #[.pointer (some ⟨w.heap.size + 1 + 1 + 1 + 1, 0, none⟩)]] 81)
  have x3 := (((x3.alloc (.cells #[.int .i64 0, .int .i64 0, .int .i64 0, .int .i64 0, .int .i64 0] 40)).alloc (.cells #[.bool false] 4)).alloc (.cells #[.func (.func 38) #[.pointer (some ⟨B, 0, none⟩)] #[]] 62)).alloc (.cells #[.func (.func 47) #[] #[.pointer (some ⟨w.heap.size + 1 + 1 + 1 + 1, 0, none⟩)]] 81)
  have x4 := ((x4.alloc (.cells #[.bool false] 4)).alloc (.cells #[.func (.func 38) #[.pointer (some ⟨B, 0, none⟩)] #[]] 62)).alloc (.cells #[.func (.func 47) #[] #[.pointer (some ⟨w.heap.size + 1 + 1 + 1 + 1, 0, none⟩)]] 81)
  have x5 := (x5.alloc (.cells #[.func (.func 38) #[.pointer (some ⟨B, 0, none⟩)] #[]] 62)).alloc (.cells #[.func (.func 47) #[] #[.pointer (some ⟨w.heap.size + 1 + 1 + 1 + 1, 0, none⟩)]] 81)
  have x6 := x6.alloc (.cells #[.func (.func 47) #[] #[.pointer (some ⟨w.heap.size + 1 + 1 + 1 + 1, 0, none⟩)]] 81)
  have hs0 : ((((((w.alloc (Obj.cells #[.pointer (some ⟨B, 0, none⟩)] 56)).alloc (.cells #[.int .i64 seats] 3)).alloc (.cells #[.int .i64 0, .int .i64 0, .int .i64 0, .int .i64 0, .int .i64 0] 40)).alloc (.cells #[.bool false] 4)).alloc (.cells #[.func (.func 38) #[.pointer (some ⟨B, 0, none⟩)] #[]] 62)).alloc (.cells #[.func (.func 47) #[] #[.pointer (some ⟨w.heap.size + 1 + 1 + 1 + 1, 0, none⟩)]] 81)).heap.size = w.heap.size + 1 + 1 + 1 + 1 + 1 + 1 := by simp
  generalize ((((((w.alloc (Obj.cells #[.pointer (some ⟨B, 0, none⟩)] 56)).alloc (.cells #[.int .i64 seats] 3)).alloc (.cells #[.int .i64 0, .int .i64 0, .int .i64 0, .int .i64 0, .int .i64 0] 40)).alloc (.cells #[.bool false] 4)).alloc (.cells #[.func (.func 38) #[.pointer (some ⟨B, 0, none⟩)] #[]] 62)).alloc (.cells #[.func (.func 47) #[] #[.pointer (some ⟨w.heap.size + 1 + 1 + 1 + 1, 0, none⟩)]] 81)) = U at *
  have hBU : Below U.heap.size U (U.alloc (.cells #[.int .i64 (full g.length : Int)] 3)) := (Below.refl _ U).alloc (Nat.le_refl _) _
  have hwb : (U.alloc (.cells #[.int .i64 (full g.length : Int)] 3)).cell? ⟨w.heap.size + 1 + 1 + 1 + 1 + 1 + 1, 0, none⟩ = some (.int .i64 (full g.length : Int)) := (boxed_at hs0.symm).cell
  have hVs : (U.alloc (.cells #[.int .i64 (full g.length : Int)] 3)).heap.size = w.heap.size + 1 + 1 + 1 + 1 + 1 + 1 + 1 := by simp [hs0]
  have hBV := hB0.trans (hBU.mono hB0.size)
  have x2 := x2.alloc (.cells #[.int .i64 (full g.length : Int)] 3)
  have x3 := x3.alloc (.cells #[.int .i64 (full g.length : Int)] 3)
  have x4 := x4.alloc (.cells #[.int .i64 (full g.length : Int)] 3)
  have x5 := x5.alloc (.cells #[.int .i64 (full g.length : Int)] 3)
  have x6 := x6.alloc (.cells #[.int .i64 (full g.length : Int)] 3)
  have x7 := x7.alloc (.cells #[.int .i64 (full g.length : Int)] 3)
  generalize (U.alloc (.cells #[.int .i64 (full g.length : Int)] 3)) = V at *
  have crV := hg.below hBV hBlt
  have HVS := Lib.hid hVs
  clear hs0 hVs hBU hB0 hn
  refine (wpIn_wide (n := 26)).1 ?_
  refine rfH (n := 26) (set := full g.length) (Bs := w.heap.size + 1 + 1 + 1 + 1 + 1 + 1) (b4 := w.heap.size + 1 + 1) (b5 := w.heap.size + 1 + 1 + 1) (by decide) (by decide) rfl rfl hfs (by rw [HVS.out]; omega) hwb (fun x => Good1 g seats x) (fun x W => Fnd1 g seats x (w.heap.size + 1 + 1) (w.heap.size + 1 + 1 + 1) W) (fun x => ownFrom_fnd1 _)
    x4.lt x5.lt (fun x a' W' => ∃ b8, (∃ j, a' = { tmps := stFr1 w.heap.size (w.heap.size + 1) (w.heap.size + 1 + 1) (w.heap.size + 1 + 1 + 1) (w.heap.size + 1 + 1 + 1 + 1) (w.heap.size + 1 + 1 + 1 + 1 + 1) b8 j, defers := [] }) ∧ V.heap.size ≤ b8 ∧ Boxed W' b8 3 (.int .i64 (x.1 : Int))) (fun x a' => ownFrom_ax1) ?assign ?body ?done ?stop
  case assign =>
    rintro l2 x W2 K hB2 hK
    simp only [List.setIfInBounds_toArray, List.set_cons_zero, List.set_cons_succ]
    gi_wp2
    exact hK _ _ ((Below.refl _ _).alloc (Nat.le_refl _) _) ⟨W2.heap.size, stFr1_of _ rfl, hB2.size, boxed_at rfl⟩
  case body =>
    rintro l2 x a' W2 hr2 hB2 ⟨b8, ⟨j2, rfl⟩, hlt8, h8⟩
    exact stB1 l2 B w.heap.size (w.heap.size + 1) (w.heap.size + 1 + 1) (w.heap.size + 1 + 1 + 1) (w.heap.size + 1 + 1 + 1 + 1) (w.heap.size + 1 + 1 + 1 + 1 + 1) b8 x.1 seats g hl hsm x.2 j2 W2 hr2 ⟨crV.below hB2 crV.lt, boxed_below x2 hB2, boxed_below x3 hB2, boxed_below x6 hB2, boxed_below x7 hB2, ⟨_, _, _, _, _, x4.below hB2 x4.lt⟩, ⟨_, boxed_below x5 hB2⟩, h8⟩ (by omega)
  case done =>
    rintro D W2 hD hK hB2 hno
    have y4 := x4.below hB2 x4.lt
    have y5 := boxed_below x5 hB2
    have l0 : W2.cell? ⟨w.heap.size + 1 + 1, 0, none⟩ = some (.int .i64 0) := by rw [y4.cell]; rfl
    have l1 : W2.cell? ⟨w.heap.size + 1 + 1, 1, none⟩ = some (.int .i64 0) := by rw [y4.cell]; rfl
    have l2 : W2.cell? ⟨w.heap.size + 1 + 1, 2, none⟩ = some (.int .i64 0) := by rw [y4.cell]; rfl
    have l3 : W2.cell? ⟨w.heap.size + 1 + 1, 3, none⟩ = some (.int .i64 0) := by rw [y4.cell]; rfl
    have l4 : W2.cell? ⟨w.heap.size + 1 + 1, 4, none⟩ = some (.int .i64 0) := by rw [y4.cell]; rfl
    have m0 := y4.frozen 0
    have m1 := y4.frozen 1
    have m2 := y4.frozen 2
    have m3 := y4.frozen 3
    have m4 := y4.frozen 4
    have c5 := y5.cell
    have f5 := y5.frozen
    go_wp2
    go_region
    have hD2 : w.heap.size + 1 + 1 + 1 < D := by have := HVS.out; omega
    have z4 := ((((((y4.set 0 (.int .i64 0)).set 1 (.int .i64 0)).set 2 (.int .i64 0)).set 3 (.int .i64 0)).set 4 (.int .i64 0)).other (a := ⟨w.heap.size + 1 + 1 + 1, 0, none⟩) (by show w.heap.size + 1 + 1 ≠ w.heap.size + 1 + 1 + 1; omega) (.bool false))
    have z5 : Boxed ((((((W2.setCell ⟨w.heap.size + 1 + 1, 0, none⟩ (.int .i64 0)).setCell ⟨w.heap.size + 1 + 1, 1, none⟩ (.int .i64 0)).setCell ⟨w.heap.size + 1 + 1, 2, none⟩ (.int .i64 0)).setCell ⟨w.heap.size + 1 + 1, 3, none⟩ (.int .i64 0)).setCell ⟨w.heap.size + 1 + 1, 4, none⟩ (.int .i64 0)).setCell ⟨w.heap.size + 1 + 1 + 1, 0, none⟩ (.bool false)) (w.heap.size + 1 + 1 + 1) 4 (.bool false) :=
      Boxed.set _ (boxed_otherN (boxed_otherN (boxed_otherN (boxed_otherN (boxed_otherN y5 (by omega) _) (by omega) _) (by omega) _) (by omega) _) (by omega) _)
    have zag : Ag (fun k => k = w.heap.size + 1 + 1 ∨ k = w.heap.size + 1 + 1 + 1) W2 ((((((W2.setCell ⟨w.heap.size + 1 + 1, 0, none⟩ (.int .i64 0)).setCell ⟨w.heap.size + 1 + 1, 1, none⟩ (.int .i64 0)).setCell ⟨w.heap.size + 1 + 1, 2, none⟩ (.int .i64 0)).setCell ⟨w.heap.size + 1 + 1, 3, none⟩ (.int .i64 0)).setCell ⟨w.heap.size + 1 + 1, 4, none⟩ (.int .i64 0)).setCell ⟨w.heap.size + 1 + 1 + 1, 0, none⟩ (.bool false)) :=
      ((((((Ag.refl _ W2).set _ _ (.inr (.inl rfl))).set _ _ (.inr (.inl rfl))).set _ _ (.inr (.inl rfl))).set _ _ (.inr (.inl rfl))).set _ _ (.inr (.inl rfl))).set _ _ (.inr (.inr rfl))
    simp only [List.setIfInBounds_toArray, List.set_cons_zero, List.set_cons_succ] at z4
    generalize ((((((W2.setCell ⟨w.heap.size + 1 + 1, 0, none⟩ (.int .i64 0)).setCell ⟨w.heap.size + 1 + 1, 1, none⟩ (.int .i64 0)).setCell ⟨w.heap.size + 1 + 1, 2, none⟩ (.int .i64 0)).setCell ⟨w.heap.size + 1 + 1, 3, none⟩ (.int .i64 0)).setCell ⟨w.heap.size + 1 + 1, 4, none⟩ (.int .i64 0)).setCell ⟨w.heap.size + 1 + 1 + 1, 0, none⟩ (.bool false)) = Y at *
    have hKY : Y.drew.heap[D]? = some (.deferred (some [])) := zag.obj hK (by omega)
    have hBY : Below w.heap.size w Y.drew := (zag.below (hBV.trans (hB2.mono hBV.size)) (Nat.le_trans hBV.size hB2.size) (fun k hk e => by omega)).drew
    have z4' := (show BoxN Y.drew _ _ _ from z4).kept (grownBy_putObj' _ D (.deferred none)) (by simp; omega)
    have z5' := (show Boxed Y.drew _ _ _ from z5).kept (grownBy_putObj' _ D (.deferred none)) (by simp; omega)
    have q0 := z4'.cell 0
    have q1 := z4'.cell 1
    have q2 := z4'.cell 2
    have q3 := z4'.cell 3
    have q4 := z4'.cell 4
    have q5 := z5'.cell
    clear l0 l1 l2 l3 l4 m0 m1 m2 m3 m4 c5 f5
    go_wp2
    refine ⟨by simp, .inl ⟨_, _, rfl, run_takeDeferred hKY, ?_⟩⟩
    refine ⟨.tuple #[.agg (ints5 [0, 0, 0, 0, 0]), .bool false], by simp [results, Try.f39, go_sem, q0, q1, q2, q3, q4, q5, ints5], [0, 0, 0, 0, 0], false, rfl, hBY.trans (belowK_b (w := w) (Nat.le_refl _) _ D _ _ (by omega) hKY rfl rfl), .inl ⟨rfl, rfl, hno⟩⟩
  case stop =>
    rintro D W2 x hD hK hw ⟨hq, x1, hw1, hj1, x2', hw2, hg3, y4, y5⟩ hag
    have hlen : (five g x x1 x2').length = 5 := rfl
    obtain ⟨a0, a1, a2, a3, a4, h5⟩ := ints5_eq hlen
    rw [h5] at y4
    have H5 := Lib.hid h5
    clear h5 hlen
    have y4 : BoxN W2 (w.heap.size + 1 + 1) 40 #[.int .i64 (a0 : Int), .int .i64 (a1 : Int), .int .i64 (a2 : Int), .int .i64 (a3 : Int), .int .i64 (a4 : Int)] := y4
    have l0 : W2.cell? ⟨w.heap.size + 1 + 1, 0, none⟩ = some (.int .i64 (a0 : Int)) := by rw [y4.cell]; rfl
    have l1 : W2.cell? ⟨w.heap.size + 1 + 1, 1, none⟩ = some (.int .i64 (a1 : Int)) := by rw [y4.cell]; rfl
    have l2 : W2.cell? ⟨w.heap.size + 1 + 1, 2, none⟩ = some (.int .i64 (a2 : Int)) := by rw [y4.cell]; rfl
    have l3 : W2.cell? ⟨w.heap.size + 1 + 1, 3, none⟩ = some (.int .i64 (a3 : Int)) := by rw [y4.cell]; rfl
    have l4 : W2.cell? ⟨w.heap.size + 1 + 1, 4, none⟩ = some (.int .i64 (a4 : Int)) := by rw [y4.cell]; rfl
    have m0 := y4.frozen 0
    have m1 := y4.frozen 1
    have m2 := y4.frozen 2
    have m3 := y4.frozen 3
    have m4 := y4.frozen 4
    have c5 := y5.cell
    have f5 := y5.frozen
    go_wp2
    go_region
    have hD2 : w.heap.size + 1 + 1 + 1 < D := by have := HVS.out; omega
    have z4 := ((((((y4.set 0 (.int .i64 (a0 : Int))).set 1 (.int .i64 (a1 : Int))).set 2 (.int .i64 (a2 : Int))).set 3 (.int .i64 (a3 : Int))).set 4 (.int .i64 (a4 : Int))).other (a := ⟨w.heap.size + 1 + 1 + 1, 0, none⟩) (by show w.heap.size + 1 + 1 ≠ w.heap.size + 1 + 1 + 1; omega) (.bool true))
    have z5 : Boxed ((((((W2.setCell ⟨w.heap.size + 1 + 1, 0, none⟩ (.int .i64 (a0 : Int))).setCell ⟨w.heap.size + 1 + 1, 1, none⟩ (.int .i64 (a1 : Int))).setCell ⟨w.heap.size + 1 + 1, 2, none⟩ (.int .i64 (a2 : Int))).setCell ⟨w.heap.size + 1 + 1, 3, none⟩ (.int .i64 (a3 : Int))).setCell ⟨w.heap.size + 1 + 1, 4, none⟩ (.int .i64 (a4 : Int))).setCell ⟨w.heap.size + 1 + 1 + 1, 0, none⟩ (.bool true)) (w.heap.size + 1 + 1 + 1) 4 (.bool true) :=
      Boxed.set _ (boxed_otherN (boxed_otherN (boxed_otherN (boxed_otherN (boxed_otherN y5 (by omega) _) (by omega) _) (by omega) _) (by omega) _) (by omega) _)
    have zag : Ag (fun k => k = w.heap.size + 1 + 1 ∨ k = w.heap.size + 1 + 1 + 1) W2 ((((((W2.setCell ⟨w.heap.size + 1 + 1, 0, none⟩ (.int .i64 (a0 : Int))).setCell ⟨w.heap.size + 1 + 1, 1, none⟩ (.int .i64 (a1 : Int))).setCell ⟨w.heap.size + 1 + 1, 2, none⟩ (.int .i64 (a2 : Int))).setCell ⟨w.heap.size + 1 + 1, 3, none⟩ (.int .i64 (a3 : Int))).setCell ⟨w.heap.size + 1 + 1, 4, none⟩ (.int .i64 (a4 : Int))).setCell ⟨w.heap.size + 1 + 1 + 1, 0, none⟩ (.bool true)) :=
      ((((((Ag.refl _ W2).set _ _ (.inr (.inl rfl))).set _ _ (.inr (.inl rfl))).set _ _ (.inr (.inl rfl))).set _ _ (.inr (.inl rfl))).set _ _ (.inr (.inl rfl))).set _ _ (.inr (.inr rfl))
    simp only [List.setIfInBounds_toArray, List.set_cons_zero, List.set_cons_succ] at z4
    generalize ((((((W2.setCell ⟨w.heap.size + 1 + 1, 0, none⟩ (.int .i64 (a0 : Int))).setCell ⟨w.heap.size + 1 + 1, 1, none⟩ (.int .i64 (a1 : Int))).setCell ⟨w.heap.size + 1 + 1, 2, none⟩ (.int .i64 (a2 : Int))).setCell ⟨w.heap.size + 1 + 1, 3, none⟩ (.int .i64 (a3 : Int))).setCell ⟨w.heap.size + 1 + 1, 4, none⟩ (.int .i64 (a4 : Int))).setCell ⟨w.heap.size + 1 + 1 + 1, 0, none⟩ (.bool true)) = Y at *
    have hKY : Y.drew.heap[D]? = some (.deferred (some [])) := zag.obj hK (by omega)
    have hBY : Below w.heap.size w Y.drew := ((hag.trans zag).below hBV hBV.size (fun k hk e => by omega)).drew
    have z4' := (show BoxN Y.drew _ _ _ from z4).kept (grownBy_putObj' _ D (.deferred none)) (by simp; omega)
    have z5' := (show Boxed Y.drew _ _ _ from z5).kept (grownBy_putObj' _ D (.deferred none)) (by simp; omega)
    have q0 := z4'.cell 0
    have q1 := z4'.cell 1
    have q2 := z4'.cell 2
    have q3 := z4'.cell 3
    have q4 := z4'.cell 4
    have q5 := z5'.cell
    clear l0 l1 l2 l3 l4 m0 m1 m2 m3 m4 c5 f5
    go_wp2
    refine ⟨by simp, .inl ⟨_, _, rfl, run_takeDeferred hKY, ?_⟩⟩
    refine ⟨.tuple #[.agg (ints5 [a0, a1, a2, a3, a4]), .bool true], by simp [results, Try.f39, go_sem, q0, q1, q2, q3, q4, q5, ints5], [a0, a1, a2, a3, a4], true, rfl, hBY.trans (belowK_b (w := w) (Nat.le_refl _) _ D _ _ (by omega) hKY rfl rfl), .inr ⟨rfl, x, x1, x2', H5.out.symm, hw, hq.1, hq.2.1, hq.2.2, hw1, hj1, hw2, hg3⟩⟩
end Go.Proofs.Ytfbobojpocnfeaa
