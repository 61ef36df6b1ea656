/- The program's join: the greatest quiet company of a set out of another one: a walk. -/
import Derived.Test.YtfbobojpocnfeaaEx
namespace Go.Proofs.Ytfbobojpocnfeaa
open Go.RowKit Go.Shelf
attribute [local go_sem] Oper.semAt_some

def jnStep (g : List Nat) (x : Nat) (best : Nat) (s : S20) : Nat :=
  if size best < size s.1 ∧ quietB g (x ||| s.1) = true then s.1 else best
def joinF (g : List Nat) (x fr : Nat) : Nat := ((subs fr).map toS).foldl (jnStep g x) 0
theorem jnStep_sm (g : List Nat) (x best : Nat) (s : S20) (h : Sm best) : Sm (jnStep g x best s) := by
  unfold jnStep; split
  · exact s.2
  · exact h
theorem jnFold_sm (g : List Nat) (x : Nat) : ∀ (l : List S20) (b : Nat), Sm b → Sm (l.foldl (jnStep g x) b)
  | [], _, h => h
  | s :: l, b, h => jnFold_sm g x l _ (jnStep_sm g x b s h)
theorem sm_zero : Sm 0 := by unfold Sm; decide
theorem joinF_sm (g : List Nat) (x fr : Nat) : Sm (joinF g x fr) := jnFold_sm g x _ 0 sm_zero
set_option maxRecDepth 100000 in
set_option maxHeartbeats 1000000 in
theorem join_in (B b6 : Nat) (g : List Nat) (x fr : Nat) (w : World) (hl : g.length ≤ 10) (hx : Sm x) (hfr : Sm fr) (hsm : ∀ i : Nat, Sm (g[i]?.getD 0)) (hg : Crowd w B g) (h6 : Boxed w b6 62 (.func (.func 38) #[.pointer (some ⟨B, 0, none⟩)] #[])) :
    CallsIn Fence.wide 5 Try.prog 47 #[.int .i64 x, .int .i64 fr, .pointer (some ⟨b6, 0, none⟩)] w fun e w' => e = .returned (.int .i64 (joinF g x fr : Nat)) ∧ Below w.heap.size w w' := by
  refine callsIn_of_wp_marks Try.func47 rfl trivial ?_ rfl
  simp only [Try.ntmps47, List.size_toArray, List.length_cons, List.length_nil, Nat.reduceAdd, Nat.reduceSub, Array.replicate_succ, Array.replicate_zero, List.push_toArray, List.append_toArray, List.nil_append, List.cons_append]
  have hBlt := hg.lt
  have h6lt := h6.lt
  have h6c := h6.cell
  gi_wp2_with (first
    | (gi_at_call 45; go_must (refine (callsIn_wide.2 (within_in _ _)).mono ?_); rintro e w' ⟨rfl, rfl⟩))
  refine rf_sets (by decide) (gf := 52) (lb := #[.pointer (some ⟨w.heap.size + 1 + 1, 0, none⟩)]) rfl (enters_of Try.func52 (by kernel_rfl) rfl)
    (within_stops 4 (by decide) (w.heap.size + 1 + 1) fr hfr _ (by simp) (by simp [World.cell?_alloc_at])) keepsBox_t keepsBox_b (by simp)
    (fun pre W => Boxed W w.heap.size 3 (.int .i64 (x : Int)) ∧ Boxed W (w.heap.size + 1) 3 (.int .i64 ((pre.foldl (jnStep g x) 0 : Nat) : Int)) ∧ Below w.heap.size w W)
    (fun _ _ _ => False)
    (OwnFrom.and (Own.from (boxed_own _ _ _) _) (OwnFrom.and (Own.from (boxed_own _ _ _) _) (ownFrom_below (Nat.le_refl _) (by simp; omega))))
    (fun _ _ _ _ _ hs _ _ => hs)
    ⟨((boxed_at rfl).alloc _).alloc _, (boxed_at (by simp)).alloc _, (((Below.refl _ w).alloc (Nat.le_refl _) _).alloc (by simp) _).alloc (by simp; omega) _⟩ ?body ?done ?stop
  case body =>
    rintro l pre s W ⟨b1, b2, hB⟩ _
    simp only [List.setIfInBounds_toArray, List.set_cons_zero, List.set_cons_succ]
    have hgW := hg.below hB hBlt
    have h6W := h6.kept (row := none) ⟨hB.os, hB.tape, hB.output, hB.size, fun k hk _ => hB.block k hk⟩ (by simp)
    have c6 := h6W.cell
    have hsb : Sm (pre.foldl (jnStep g x) 0) := jnFold_sm g x pre _ sm_zero
    have hfold : (pre ++ [s]).foldl (jnStep g x) 0 = jnStep g x (pre.foldl (jnStep g x) 0) s := by simp
    obtain ⟨best, hbest⟩ : ∃ best, best = pre.foldl (jnStep g x) 0 := ⟨_, rfl⟩
    rw [← hbest] at hfold hsb b2
    have HC := Lib.hid hfold
    clear hfold hbest h6c
    have c1 := b1.cell
    have c2 := b2.cell
    have f2 := b2.frozen
    have hss : Sm s.1 := s.2
    by_cases h1 : size best < size s.1
    · gi_wp2
      cases hq : quietB g (x ||| s.1) with
      | true =>
          refine quietR_lit (by kernel_rfl) (by kernel_rfl) (by kernel_rfl) ?_
          repeat (gi_big_quiet_step ((first
            | (gi_at_call 34; refine CallsIn.quiet_of_same (CallsIn.inRound l (callsIn_wide.2 (count_any s.1 _ hss.lt))))
            | (gi_at_call 34; refine CallsIn.quiet_of_same (CallsIn.inRound l (callsIn_wide.2 (count_any best _ hsb.lt))))
            | (gi_at_call 38; refine CallsIn.quiet_of_same (CallsIn.inRound l (callsIn_wide.2 (cquiet_any B g (x ||| s.1) _ hl (sm_or hx hss) hsm (hgW.drewN _))))))))
          refine wpQuietIn_nil ?_
          rintro _ ⟨nq, rfl⟩
          gi_wp2
          refine ⟨(ko_drewN W nq).trans (KeepsOthers.setCell _ _ _), keepsBox_t (kb_drewN _ W nq) (kb_set _ _ (by omega)), b1.other (W := W.drewN nq) (by omega) _, ?_, (below_dr hB nq).setCell (p := ⟨w.heap.size + 1, 0, none⟩) (by show w.heap.size ≤ w.heap.size + 1; omega) _⟩
          rw [HC.out]
          unfold jnStep
          rw [if_pos ⟨h1, hq⟩]
          exact Boxed.set (W := W.drewN nq) _ b2
      | false =>
          refine quietR_lit (by kernel_rfl) (by kernel_rfl) (by kernel_rfl) ?_
          repeat (gi_big_quiet_step ((first
            | (gi_at_call 34; refine CallsIn.quiet_of_same (CallsIn.inRound l (callsIn_wide.2 (count_any s.1 _ hss.lt))))
            | (gi_at_call 34; refine CallsIn.quiet_of_same (CallsIn.inRound l (callsIn_wide.2 (count_any best _ hsb.lt))))
            | (gi_at_call 38; refine CallsIn.quiet_of_same (CallsIn.inRound l (callsIn_wide.2 (cquiet_any B g (x ||| s.1) _ hl (sm_or hx hss) hsm (hgW.drewN _))))))))
          refine wpQuietIn_nil ?_
          rintro _ ⟨nq, rfl⟩
          gi_wp2
          refine ⟨ko_drewN W nq, kb_drewN _ W nq, b1, ?_, below_dr hB nq⟩
          rw [HC.out]
          unfold jnStep
          rw [if_neg (by rw [hq]; simp)]
          exact b2
    · gi_wp2
      refine quietR_lit (by kernel_rfl) (by kernel_rfl) (by kernel_rfl) ?_
      repeat (gi_big_quiet_step ((first
        | (gi_at_call 34; refine CallsIn.quiet_of_same (CallsIn.inRound l (callsIn_wide.2 (count_any s.1 _ hss.lt))))
        | (gi_at_call 34; refine CallsIn.quiet_of_same (CallsIn.inRound l (callsIn_wide.2 (count_any best _ hsb.lt))))
        | (gi_at_call 38; refine CallsIn.quiet_of_same (CallsIn.inRound l (callsIn_wide.2 (cquiet_any B g (x ||| s.1) _ hl (sm_or hx hss) hsm (hgW.drewN _))))))))
      refine wpQuietIn_nil ?_
      rintro _ ⟨nq, rfl⟩
      gi_wp2
      refine ⟨ko_drewN W nq, kb_drewN _ W nq, b1, ?_, below_dr hB nq⟩
      rw [HC.out]
      unfold jnStep
      rw [if_neg (fun h => h1 h.1)]
      exact b2
  case done =>
    rintro D ys W hD rfl ⟨b1, b2, hB⟩ hK
    obtain ⟨best, hbest⟩ : ∃ best, best = joinF g x fr := ⟨_, rfl⟩
    have hb2 : Boxed W (w.heap.size + 1) 3 (.int .i64 ((best : Nat) : Int)) := by rw [hbest]; exact b2
    have HB := Lib.hid hbest
    have c2 := hb2.cell
    clear b2 hbest
    gi_wp2
    have hD' : w.heap.size + 1 + 1 < D := by simp at hD; omega
    refine ⟨by simp, .inl ⟨_, _, rfl, run_takeDeferred hK, ?_⟩⟩
    refine ⟨.int .i64 (best : Int), by simp [results, Try.f47, go_sem], ret_int (by rw [HB.out]), hB.trans (belowK_b (w := w) (Nat.le_refl _) _ D _ _ (by omega) hK rfl rfl)⟩
  case stop =>
    rintro D c pre W _ _ h _
    exact h.elim
end Go.Proofs.Ytfbobojpocnfeaa
