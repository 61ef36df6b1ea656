/- The program's cover: a walk. -/
import Derived.Test.YtfbobojpocnfeaaIt
import Derived.Test.YtfbobojpocnfeaaQr
import Derived.Sort.QuietIn
import Derived.WalkSpells
namespace Go.Proofs.Ytfbobojpocnfeaa
open Go.RowKit Go.Shelf
attribute [local go_sem] Oper.semAt_some

theorem Crowd.below {n B : Nat} {w W : World} {g : List Nat} (h : Crowd w B g) (hb : Below n w W) (hB : B < n) : Crowd W B g :=
  ⟨Nat.lt_of_lt_of_le h.lt hb.size, (hb.cell (p := ⟨B, 0, none⟩) hB).trans h.n, fun j hj => (hb.cell (p := ⟨B, 1 + j, none⟩) hB).trans (h.next j hj)⟩

theorem Crowd.drewN {B : Nat} {w : World} {g : List Nat} (h : Crowd w B g) (n : Nat) : Crowd (w.drewN n) B g := ⟨h.lt, h.n, h.next⟩

def covStep (g : List Nat) (best : Nat) (x : S20) : Nat :=
  if size x.1 < size best ∧ quietB g (ldiff (full g.length) x.1) = true then x.1 else best
def covBest (g : List Nat) : Nat := ((subs (full g.length)).map toS).foldl (covStep g) (full g.length)
def covTest (g : List Nat) (best s : Nat) : Bool := decide (size s = size best) && quietB g (ldiff (full g.length) s)
def coverF (g : List Nat) : Nat := ((subs (full g.length)).find? (covTest g (covBest g))).getD (covBest g)

theorem covStep_sm (g : List Nat) (best : Nat) (x : S20) (h : Sm best) : Sm (covStep g best x) := by
  unfold covStep; split
  · exact x.2
  · exact h
theorem covFold_sm (g : List Nat) : ∀ (l : List S20) (b : Nat), Sm b → Sm (l.foldl (covStep g) b)
  | [], _, h => h
  | x :: l, b, h => covFold_sm g l _ (covStep_sm g b x h)
set_option maxRecDepth 100000 in
set_option maxHeartbeats 1000000 in
theorem cover_in (B : Nat) (g : List Nat) (w : World) (hl : g.length ≤ 10) (hsm : ∀ i : Nat, Sm (g[i]?.getD 0)) (hg : Crowd w B g) :
    CallsIn Fence.wide 5 Try.prog 35 #[.pointer (some ⟨B, 0, none⟩)] w fun e w' => e = .returned (.int .i64 (coverF g)) ∧ Below w.heap.size w w' := by
  refine callsIn_of_wp_marks Try.func35 rfl trivial ?_ rfl
  simp only [Try.ntmps35, List.size_toArray, List.length_cons, List.length_nil, Nat.reduceAdd, Nat.reduceSub, Array.replicate_succ, Array.replicate_zero, List.push_toArray, List.append_toArray, List.nil_append, List.cons_append]
  have hn := hg.n
  have hBlt := hg.lt
  have hfs : Sm (full g.length) := sm_full (by omega)
  gi_wp2_with (first
    | (gi_at_call 37; go_must (refine (callsIn_wide.2 (call_any B g.length _ (by omega) (by repeat (first | exact hn | refine cell_al _ ?_)))).mono ?_); rintro e w' ⟨rfl, rfl⟩)
    | (gi_at_call 45; go_must (refine (callsIn_wide.2 (within_in _ _)).mono ?_); rintro e w' ⟨rfl, rfl⟩))

  refine rf_sets (by decide) (gf := 52) (lb := #[.pointer (some ⟨w.heap.size + 1 + 1 + 1, 0, none⟩)]) rfl (enters_of Try.func52 (by kernel_rfl) rfl)
    (within_stops 4 (by decide) (w.heap.size + 1 + 1 + 1) (full g.length) hfs _ (by simp) (by simp [World.cell?_alloc_at])) keepsBox_t keepsBox_b (by simp)
    (fun pre W => (Boxed W w.heap.size 56 (.pointer (some ⟨B, 0, none⟩)) ∧ Boxed W (w.heap.size + 1) 3 (.int .i64 0)) ∧ Boxed W (w.heap.size + 1 + 1) 3 (.int .i64 ((pre.foldl (covStep g) (full g.length) : Nat) : Int)) ∧ Below w.heap.size w W)
    (fun _ _ _ => False)
    (OwnFrom.and (OwnFrom.and (Own.from (boxed_own _ _ _) _) (Own.from (boxed_own _ _ _) _)) (OwnFrom.and (Own.from (boxed_own _ _ _) _) (ownFrom_below (Nat.le_refl _) (by simp; omega))))
    (fun _ _ _ _ _ hs _ _ => hs)
    ⟨⟨(((boxed_at rfl).alloc _).alloc _).alloc _, ((boxed_at (by simp)).alloc _).alloc _⟩, (boxed_at (by simp)).alloc _, ((((Below.refl _ w).alloc (Nat.le_refl _) _).alloc (by simp) _).alloc (by simp; omega) _).alloc (by simp; omega) _⟩ ?body ?done ?stop
  case body =>
    rintro l pre x W ⟨⟨b0, b1⟩, b2, hB⟩ _
    simp only [List.setIfInBounds_toArray, List.set_cons_zero, List.set_cons_succ]
    have hgW := hg.below hB hBlt
    have hnW := hgW.n
    have hsb : Sm (pre.foldl (covStep g) (full g.length)) := covFold_sm g pre _ hfs
    have hfold : (pre ++ [x]).foldl (covStep g) (full g.length) = covStep g (pre.foldl (covStep g) (full g.length)) x := by simp
    obtain ⟨best, hbest⟩ : ∃ best, best = pre.foldl (covStep g) (full g.length) := ⟨_, rfl⟩
    rw [← hbest] at hfold hsb b2
    have HC := Lib.hid hfold
    clear hfold hbest
    have c0 := b0.cell
    have c2 := b2.cell
    have f2 := b2.frozen
    have hxs : Sm x.1 := x.2
    by_cases h1 : size x.1 < size best
    · gi_wp2
      cases hq : quietB g (ldiff (full g.length) x.1) with
      | true =>
        refine quietR_lit (by kernel_rfl) (by kernel_rfl) (by kernel_rfl) ?_
        repeat (gi_big_quiet_step ((first
          | (gi_at_call 34; refine CallsIn.quiet_of_same (CallsIn.inRound l (callsIn_wide.2 (count_any x.1 _ hxs.lt))))
          | (gi_at_call 34; refine CallsIn.quiet_of_same (CallsIn.inRound l (callsIn_wide.2 (count_any best _ hsb.lt))))
          | (gi_at_call 37; refine CallsIn.quiet_of_same (CallsIn.inRound l (callsIn_wide.2 (call_any B g.length _ (by omega) hnW))))
          | (gi_at_call 38; refine CallsIn.quiet_of_same (CallsIn.inRound l (callsIn_wide.2 (cquiet_any B g (ldiff (full g.length) x.1) _ hl (sm_ldiff _ hfs) hsm (hgW.drewN _))))))))
        refine wpQuietIn_nil ?_
        rintro _ ⟨nq, rfl⟩
        gi_wp2
        refine ⟨(ko_drewN W nq).trans (KeepsOthers.setCell _ _ _), keepsBox_t (kb_drewN _ W nq) (kb_set _ _ (by omega)), ⟨b0.other (W := W.drewN nq) (by omega) _, b1.other (W := W.drewN nq) (by omega) _⟩, ?_, (below_dr hB nq).setCell (p := ⟨w.heap.size + 1 + 1, 0, none⟩) (by show w.heap.size ≤ w.heap.size + 1 + 1; omega) _⟩
        rw [HC.out]
        unfold covStep
        rw [if_pos ⟨h1, hq⟩]
        exact Boxed.set (W := W.drewN nq) _ b2
      | false =>
        refine quietR_lit (by kernel_rfl) (by kernel_rfl) (by kernel_rfl) ?_
        repeat (gi_big_quiet_step ((first
          | (gi_at_call 34; refine CallsIn.quiet_of_same (CallsIn.inRound l (callsIn_wide.2 (count_any x.1 _ hxs.lt))))
          | (gi_at_call 34; refine CallsIn.quiet_of_same (CallsIn.inRound l (callsIn_wide.2 (count_any best _ hsb.lt))))
          | (gi_at_call 37; refine CallsIn.quiet_of_same (CallsIn.inRound l (callsIn_wide.2 (call_any B g.length _ (by omega) hnW))))
          | (gi_at_call 38; refine CallsIn.quiet_of_same (CallsIn.inRound l (callsIn_wide.2 (cquiet_any B g (ldiff (full g.length) x.1) _ hl (sm_ldiff _ hfs) hsm (hgW.drewN _))))))))
        refine wpQuietIn_nil ?_
        rintro _ ⟨nq, rfl⟩
        gi_wp2
        refine ⟨ko_drewN W nq, kb_drewN _ W nq, ⟨b0, b1⟩, ?_, below_dr hB nq⟩
        rw [HC.out]
        unfold covStep
        rw [if_neg (by rw [hq]; simp)]
        exact b2
    · gi_wp2
      refine quietR_lit (by kernel_rfl) (by kernel_rfl) (by kernel_rfl) ?_
      repeat (gi_big_quiet_step ((first
        | (gi_at_call 34; refine CallsIn.quiet_of_same (CallsIn.inRound l (callsIn_wide.2 (count_any x.1 _ hxs.lt))))
        | (gi_at_call 34; refine CallsIn.quiet_of_same (CallsIn.inRound l (callsIn_wide.2 (count_any best _ hsb.lt))))
        | (gi_at_call 37; refine CallsIn.quiet_of_same (CallsIn.inRound l (callsIn_wide.2 (call_any B g.length _ (by omega) hnW))))
        | (gi_at_call 38; refine CallsIn.quiet_of_same (CallsIn.inRound l (callsIn_wide.2 (cquiet_any B g (ldiff (full g.length) x.1) _ hl (sm_ldiff _ hfs) hsm (hgW.drewN _))))))))
      refine wpQuietIn_nil ?_
      rintro _ ⟨nq, rfl⟩
      gi_wp2
      refine ⟨ko_drewN W nq, kb_drewN _ W nq, ⟨b0, b1⟩, ?_, below_dr hB nq⟩
      rw [HC.out]
      unfold covStep
      rw [if_neg (fun h => h1 h.1)]
      exact b2
  case done =>
    rintro D ys W hD rfl ⟨⟨b0, b1⟩, b2, hB⟩ hK
    have hgW := hg.below hB hBlt
    have hnW := hgW.n
    have c0 := b0.cell
    gi_wp2_with (first
      | (gi_at_call 37; go_must (refine (callsIn_wide.2 (call_any B g.length _ (by omega) (by repeat (first | exact hnW | refine cell_al _ ?_)))).mono ?_); rintro e w' ⟨rfl, rfl⟩)
      | (gi_at_call 45; go_must (refine (callsIn_wide.2 (within_in _ _)).mono ?_); rintro e w' ⟨rfl, rfl⟩))
    have hD' : w.heap.size + 1 + 1 + 1 < D := by simp at hD; omega
    have hDW : D < w'.heap.size := (Array.getElem?_eq_some_iff.1 hK).1
    obtain ⟨best, hbest⟩ : ∃ best, best = covBest g := ⟨_, rfl⟩
    have hb2 : Boxed w' (w.heap.size + 1 + 1) 3 (.int .i64 ((best : Nat) : Int)) := by rw [hbest]; exact b2
    have hsb : Sm best := by rw [hbest]; exact covFold_sm g _ _ hfs
    have HB := Lib.hid hbest
    clear b2 hbest
    have hsz : Hid (w'.heap.size > D) := hDW
    refine rf_sets (by decide) (gf := 52) (lb := #[.pointer (some ⟨w'.heap.size, 0, none⟩)]) rfl (enters_of Try.func52 (by kernel_rfl) rfl)
      (within_stops 4 (by decide) w'.heap.size (full g.length) hfs _ (by simp) (by simp [World.cell?_alloc_at])) keepsBox_t keepsBox_b (by simp)
      (fun pre W => ((Boxed W w.heap.size 56 (.pointer (some ⟨B, 0, none⟩)) ∧ Boxed W (w.heap.size + 1) 3 (.int .i64 0)) ∧ Boxed W (w.heap.size + 1 + 1) 3 (.int .i64 (best : Int)) ∧ Below w.heap.size w W) ∧ W.heap[D]? = some (.deferred (some [])) ∧ ∀ y ∈ pre, covTest g best y.1 = false)
      (fun c pre W => ((c = .ret ∧ ∃ p x, pre = p ++ [x] ∧ (∀ y ∈ p, covTest g best y.1 = false) ∧ covTest g best x.1 = true ∧ Boxed W (w.heap.size + 1) 3 (.int .i64 ((x.1 : Nat) : Int))) ∧ Below w.heap.size w W) ∧ W.heap[D]? = some (.deferred (some [])))
      (OwnFrom.and (OwnFrom.and (OwnFrom.and (Own.from (boxed_own _ _ _) _) (Own.from (boxed_own _ _ _) _)) (OwnFrom.and (Own.from (boxed_own _ _ _) _) (ownFrom_below (Nat.le_refl _) (by simp; omega)))) (OwnFrom.and (ownFrom_block (by simp; omega)) (ownFrom_pure _ _)))
      (fun c => OwnFrom.and (OwnFrom.and (fun s A C row hs hg hr => by
        obtain ⟨e, p, x, e1, e2, e3, e4⟩ := hs
        exact ⟨e, p, x, e1, e2, e3, (Own.from (boxed_own (w.heap.size + 1) 3 (fun _ : Unit => Value.int .i64 ((x.1 : Nat) : Int))) _) () A C row e4 hg hr⟩) (ownFrom_below (Nat.le_refl _) (by simp; omega))) (ownFrom_block (by simp; omega)))
      ⟨⟨⟨b0.alloc _, b1.alloc _⟩, hb2.alloc _, hB.alloc hB.size _⟩, (Below.heap_alloc _ _ _ hDW).trans hK, fun y hy => by cases hy⟩ ?body2 ?done2 ?stop2
    case body2 =>
      rintro l pre x W ⟨⟨⟨b0, b1⟩, b2, hB⟩, hKD, hall⟩ _
      simp only [List.setIfInBounds_toArray, List.set_cons_zero, List.set_cons_succ]
      have hgW := hg.below hB hBlt
      have hnW := hgW.n
      have c0 := b0.cell
      have c1 := b1.cell
      have f1 := b1.frozen
      have c2 := b2.cell
      have hxs : Sm x.1 := x.2
      have HA := Lib.hid hall
      clear hall
      by_cases h1 : size x.1 = size best
      · have g1 : (((size x.1 : Nat) : Int) == ((size best : Nat) : Int)) = true := by rw [h1]; exact beq_self_eq_true _
        have H1 := Lib.hid h1
        clear h1
        gi_wp2
        cases hq : quietB g (ldiff (full g.length) x.1) with
        | true =>
          refine quietR_lit (by kernel_rfl) (by kernel_rfl) (by kernel_rfl) ?_
          repeat (gi_big_quiet_step ((first
            | (gi_at_call 34; refine CallsIn.quiet_of_same (CallsIn.inRound l (callsIn_wide.2 (count_any x.1 _ hxs.lt))))
            | (gi_at_call 34; refine CallsIn.quiet_of_same (CallsIn.inRound l (callsIn_wide.2 (count_any best _ hsb.lt))))
            | (gi_at_call 37; refine CallsIn.quiet_of_same (CallsIn.inRound l (callsIn_wide.2 (call_any B g.length _ (by omega) hnW))))
            | (gi_at_call 38; refine CallsIn.quiet_of_same (CallsIn.inRound l (callsIn_wide.2 (cquiet_any B g (ldiff (full g.length) x.1) _ hl (sm_ldiff _ hfs) hsm (hgW.drewN _))))))))
          refine wpQuietIn_nil ?_
          rintro _ ⟨nq, rfl⟩
          gi_wp2
          refine ⟨(ko_drewN W nq).trans (KeepsOthers.setCell _ _ _), ⟨⟨rfl, pre, x, rfl, HA.out, by unfold covTest; rw [hq, H1.out]; simp, Boxed.set (W := W.drewN nq) _ b1⟩, (below_dr hB nq).setCell (p := ⟨w.heap.size + 1, 0, none⟩) (by show w.heap.size ≤ w.heap.size + 1; omega) _⟩, (KeepsOthers.setCell (W.drewN nq) _ _).same D _ hKD rfl⟩
        | false =>
          refine quietR_lit (by kernel_rfl) (by kernel_rfl) (by kernel_rfl) ?_
          repeat (gi_big_quiet_step ((first
            | (gi_at_call 34; refine CallsIn.quiet_of_same (CallsIn.inRound l (callsIn_wide.2 (count_any x.1 _ hxs.lt))))
            | (gi_at_call 34; refine CallsIn.quiet_of_same (CallsIn.inRound l (callsIn_wide.2 (count_any best _ hsb.lt))))
            | (gi_at_call 37; refine CallsIn.quiet_of_same (CallsIn.inRound l (callsIn_wide.2 (call_any B g.length _ (by omega) hnW))))
            | (gi_at_call 38; refine CallsIn.quiet_of_same (CallsIn.inRound l (callsIn_wide.2 (cquiet_any B g (ldiff (full g.length) x.1) _ hl (sm_ldiff _ hfs) hsm (hgW.drewN _))))))))
          refine wpQuietIn_nil ?_
          rintro _ ⟨nq, rfl⟩
          gi_wp2
          refine ⟨ko_drewN W nq, kb_drewN _ W nq, ⟨⟨b0, b1⟩, b2, below_dr hB nq⟩, hKD, fun y hy => ?_⟩
          rcases List.mem_append.1 hy with hy | hy
          · exact HA.out y hy
          · simp at hy; subst hy; unfold covTest; rw [hq]; simp
      · have g1 : (((size x.1 : Nat) : Int) == ((size best : Nat) : Int)) = false := by rw [beq_eq_false_iff_ne]; omega
        have H1 := Lib.hid h1
        clear h1
        gi_wp2
        refine quietR_lit (by kernel_rfl) (by kernel_rfl) (by kernel_rfl) ?_
        repeat (gi_big_quiet_step ((first
          | (gi_at_call 34; refine CallsIn.quiet_of_same (CallsIn.inRound l (callsIn_wide.2 (count_any x.1 _ hxs.lt))))
          | (gi_at_call 34; refine CallsIn.quiet_of_same (CallsIn.inRound l (callsIn_wide.2 (count_any best _ hsb.lt))))
          | (gi_at_call 37; refine CallsIn.quiet_of_same (CallsIn.inRound l (callsIn_wide.2 (call_any B g.length _ (by omega) hnW))))
          | (gi_at_call 38; refine CallsIn.quiet_of_same (CallsIn.inRound l (callsIn_wide.2 (cquiet_any B g (ldiff (full g.length) x.1) _ hl (sm_ldiff _ hfs) hsm (hgW.drewN _))))))))
        refine wpQuietIn_nil ?_
        rintro _ ⟨nq, rfl⟩
        gi_wp2
        refine ⟨ko_drewN W nq, kb_drewN _ W nq, ⟨⟨b0, b1⟩, b2, below_dr hB nq⟩, hKD, fun y hy => ?_⟩
        rcases List.mem_append.1 hy with hy | hy
        · exact HA.out y hy
        · simp at hy; subst hy; unfold covTest; rw [decide_eq_false H1.out]; simp
    case done2 =>
      rintro D2 ys W2 hD2 rfl ⟨⟨⟨b0, b1⟩, b2, hB2⟩, hKD, hall⟩ hK2
      have c1 := b1.cell
      have f1 := b1.frozen
      have c2 := b2.cell
      gi_wp2
      have hD2' : D < D2 := by simp at hD2; omega
      have hK2' := (KeepsOthers.setCell W2 ⟨w.heap.size + 1, 0, none⟩ (.int .i64 (best : Int))).same D2 _ hK2 rfl
      have hKD' := (KeepsOthers.setCell W2 ⟨w.heap.size + 1, 0, none⟩ (.int .i64 (best : Int))).same D _ hKD rfl
      have hKD'' := (World.putObj_heap_other (o := .deferred none) (show D ≠ D2 by omega)).trans hKD'
      refine ⟨by simp, .inl ⟨_, _, rfl, run_takeDeferred hK2', ⟨by simp, .inl ⟨_, _, rfl, run_takeDeferred hKD'', ?_⟩⟩⟩⟩
      have bF := ((Boxed.set (.int .i64 (best : Int)) b1).kept (grownBy_putObj' _ D2 (.deferred none)) (by simp; omega)).kept (grownBy_putObj' _ D (.deferred none)) (by simp; omega)
      have cF := bF.cell
      refine ⟨.int .i64 (best : Int), by simp [results, Try.f35, go_sem, cF], ret_int ?_, ((hB2.setCell (p := ⟨w.heap.size + 1, 0, none⟩) (by simp) _).trans (belowK_b (w := w) (Nat.le_refl _) _ D2 _ _ (by omega) hK2' rfl rfl)).trans (belowK_b (w := w) (Nat.le_refl _) _ D _ _ (by omega) hKD'' rfl rfl)⟩
      unfold coverF
      rw [← HB.out, List.find?_eq_none.2 (fun t ht => by rw [← toS_val (Nat.lt_of_le_of_lt (mem_subs.1 ht).le hfs), hall _ (mem_map_toS hfs (mem_subs.1 ht))]; simp)]
      rfl
    case stop2 =>
      rintro D2 c pre W2 hD2 ⟨s, hs, hSp⟩ ⟨⟨⟨rfl, p, x, rfl, hp, hx, b1⟩, hB2⟩, hKD⟩ hK2
      gi_wp2
      have hD2' : D < D2 := by simp at hD2; omega
      have hKD'' := (World.putObj_heap_other (o := .deferred none) (show D ≠ D2 by omega)).trans hKD
      refine ⟨by simp, .inl ⟨_, _, rfl, run_takeDeferred hK2, ⟨by simp, .inl ⟨_, _, rfl, run_takeDeferred hKD'', ?_⟩⟩⟩⟩
      have bF := (b1.kept (grownBy_putObj' _ D2 (.deferred none)) (by simp; omega)).kept (grownBy_putObj' _ D (.deferred none)) (by simp; omega)
      have cF := bF.cell
      refine ⟨.int .i64 ((x.1 : Nat) : Int), by simp [results, Try.f35, go_sem, cF], ret_int ?_, (hB2.trans (belowK_b (w := w) (Nat.le_refl _) _ D2 _ _ (by omega) hK2 rfl rfl)).trans (belowK_b (w := w) (Nat.le_refl _) _ D _ _ (by omega) hKD'' rfl rfl)⟩
      obtain ⟨r, hr⟩ := subs_stop hfs hs hSp
      unfold coverF
      rw [← HB.out, hr, List.find?_append, List.find?_eq_none.2 (fun t ht => by obtain ⟨y, hy, rfl⟩ := List.mem_map.1 ht; rw [hp y hy]; simp)]
      simp [hx]
  case stop =>
    rintro D c pre W _ _ h _
    exact h.elim
end Go.Proofs.Ytfbobojpocnfeaa
