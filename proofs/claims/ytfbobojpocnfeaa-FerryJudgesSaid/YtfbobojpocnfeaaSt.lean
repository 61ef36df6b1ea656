/- The program's structure: the walk, from the innermost loop outwards. -/
import Derived.Test.YtfbobojpocnfeaaJn
namespace Go.Proofs.Ytfbobojpocnfeaa
open Go.RowKit Go.Shelf
attribute [local go_sem] Oper.semAt_some

/-- a piece of a function's text -/
noncomputable def subC : List Nat → Code → Code
  | [], c => c
  | 0 :: p, .seq a _ => subC p a
  | _ :: p, .seq _ b => subC p b
  | _ :: p, .block _ c => subC p c
  | _ :: p, .scope c => subC p c
  | _ :: p, .rangeFunc _ _ _ b => subC p b
  | _ :: _, c => c
noncomputable def codeOf (f : Func) : Code := f.body.getD .skip
noncomputable def stC1 : Code := subC [1, 1, 1, 1, 1, 0, 1, 1, 1] (codeOf Try.f39)
noncomputable def stC2 : Code := subC [1, 1, 1, 1, 1, 1] stC1
noncomputable def stC3 : Code := subC [1, 1, 1, 1, 1, 1] stC2
/-- is this a third set with what joins it? -/
def Good3 (g : List Nat) (x x1 x2 : Nat) : Prop :=
  ¬ 2 * size (ldiff (full g.length) x) < size (ldiff (ldiff x x1) x2) ∧ joinF g x2 (ldiff (full g.length) x) ≠ 0 ∧ size (ldiff (ldiff x x1) x2) ≤ size (joinF g x1 (ldiff (full g.length) x)) + size (joinF g x2 (ldiff (full g.length) x))
def Good2 (g : List Nat) (x x1 : Nat) : Prop := joinF g x1 (ldiff (full g.length) x) ≠ 0 ∧ ∃ x2, Within x2 (ldiff x x1) ∧ Good3 g x x1 x2
def Good1 (g : List Nat) (seats : Int) (x : Nat) : Prop := (size (ldiff (full g.length) x) : Int) ≤ seats ∧ ldiff (full g.length) x ≠ 0 ∧ quietB g x = true ∧ ∃ x1, Within x1 x ∧ Good2 g x x1
/-- the five sets -/
def five (g : List Nat) (x x1 x2 : Nat) : List Nat := [x1, x2, ldiff (ldiff x x1) x2, joinF g x1 (ldiff (full g.length) x), joinF g x2 (ldiff (full g.length) x)]
def ints5 (l : List Nat) : Array Value := (l.map fun (k : Nat) => Value.int .i64 (k : Int)).toArray
/-- found: it lies in the two boxes -/
def Found (g : List Nat) (x x1 x2 b4 b5 : Nat) (W : World) : Prop := BoxN W b4 40 (ints5 (five g x x1 x2)) ∧ Boxed W b5 4 (.bool true)

def stFr3 (b4 b5 b7 b8 b9 b10 b11 x2 : Nat) (j : Nat → Value) : Array Value :=
  #[j 0, j 1, j 2, j 3, .pointer (some ⟨b4, 0, none⟩), .pointer (some ⟨b5, 0, none⟩), j 6, .pointer (some ⟨b7, 0, none⟩), .pointer (some ⟨b8, 0, none⟩), .pointer (some ⟨b9, 0, none⟩), .pointer (some ⟨b10, 0, none⟩), .pointer (some ⟨b11, 0, none⟩), .int .i64 (x2 : Int), j 13, j 14, j 15, j 16, j 17, j 18, j 19, j 20, j 21, j 22, j 23, j 24, j 25, j 26, j 27, j 28, j 29, j 30, j 31, j 32, j 33, j 34, j 35, j 36, j 37, j 38, j 39, j 40, j 41, j 42, j 43, j 44, j 45, j 46, j 47, j 48, j 49, j 50, j 51, j 52, j 53, j 54, j 55, j 56, j 57, j 58, j 59, j 60, j 61, j 62, j 63, j 64, j 65, j 66, j 67, j 68, j 69, j 70, j 71, j 72, j 73, j 74, j 75, j 76, j 77, j 78, j 79, j 80, j 81, j 82, j 83, j 84, j 85, j 86, j 87, j 88]

theorem Ag.of_below {ex : Nat → Prop} {W W' : World} (h : Below W.heap.size W W') : Ag ex W W' := ⟨h.os, h.tape, h.output, h.size, fun k hk _ => h.block k hk⟩
theorem boxed_otherN {W : World} {B B' i : Nat} {t : TypeId} {v : Value} (h : Boxed W B t v) (hne : B ≠ B') (u : Value) : Boxed (W.setCell ⟨B', i, none⟩ u) B t v := BoxN.other (vs := #[v]) h (a := ⟨B', i, none⟩) hne u
structure Fix3 (W : World) (g : List Nat) (B b4 b5 b6 b7 b8 b9 b10 b11 x x1 : Nat) : Prop where
  cr : Crowd W B g
  c6 : Boxed W b6 62 (.func (.func 38) #[.pointer (some ⟨B, 0, none⟩)] #[])
  c7 : Boxed W b7 81 (.func (.func 47) #[] #[.pointer (some ⟨b6, 0, none⟩)])
  c4 : ∃ a0 a1 a2 a3 a4, BoxN W b4 40 #[a0, a1, a2, a3, a4]
  c5 : ∃ v, Boxed W b5 4 v
  c8 : Boxed W b8 3 (.int .i64 (x : Int))
  c9 : Boxed W b9 3 (.int .i64 ((ldiff (full g.length) x : Nat) : Int))
  c10 : Boxed W b10 3 (.int .i64 (x1 : Int))
  c11 : Boxed W b11 3 (.int .i64 ((joinF g x1 (ldiff (full g.length) x) : Nat) : Int))
def StPost (W : World) (b4 b5 : Nat) (good : Prop) (found : World → Prop) : Exit → Act → World → Prop
  | .normal, _, W' => Below W.heap.size W W' ∧ ¬ good
  | .exit id, _, W' => id = 0 ∧ found W' ∧ Ag (fun k => k = b4 ∨ k = b5) W W'
  | _, _, _ => False
set_option maxRecDepth 100000 in
set_option maxHeartbeats 1000000 in
theorem stB3 (l B b4 b5 b6 b7 b8 b9 b10 b11 x x1 x2 : Nat) (g : List Nat) (hl : g.length ≤ 10) (hsm : ∀ i : Nat, Sm (g[i]?.getD 0)) (hx : Sm x) (hx1 : Sm x1) (hx2 : Sm x2) (j : Nat → Value) (W : World) (h : Fix3 W g B b4 b5 b6 b7 b8 b9 b10 b11 x x1) (h45 : b4 ≠ b5) :
    stC3.wpIn (Fence.wide.inRound l) 20 Try.prog (StPost W b4 b5 (Good3 g x x1 x2) (fun W' => Good3 g x x1 x2 ∧ Found g x x1 x2 b4 b5 W')) { tmps := stFr3 b4 b5 b7 b8 b9 b10 b11 x2 j, defers := [] } W := by
  have hG : Hid (Good3 g x x1 x2 ↔ ¬ 2 * size (ldiff (full g.length) x) < size (ldiff (ldiff x x1) x2) ∧ joinF g x2 (ldiff (full g.length) x) ≠ 0 ∧ size (ldiff (ldiff x x1) x2) ≤ size (joinF g x1 (ldiff (full g.length) x)) + size (joinF g x2 (ldiff (full g.length) x))) := Iff.rfl
  generalize Good3 g x x1 x2 = G3 at *
  obtain ⟨⟨y1, hy1⟩, ⟨y2, hy2⟩⟩ : (∃ y1, Hid (y1 = joinF g x1 (ldiff (full g.length) x))) ∧ (∃ y2, Hid (y2 = joinF g x2 (ldiff (full g.length) x))) := ⟨⟨_, rfl⟩, ⟨_, rfl⟩⟩
  have hfs : Sm (full g.length) := sm_full (by omega)
  obtain ⟨cr, h6, h7, h4, h5, h8, h9, h10, h11⟩ := h
  rw [← hy1.out] at h11
  have c7 := h7.cell
  have c8 := h8.cell
  have c9 := h9.cell
  have c10 := h10.cell
  have c11 := h11.cell
  unfold stFr3
  conv in stC3 => whnf
  have hys : Sm (ldiff (full g.length) x) := sm_ldiff _ hfs
  have hx3s : Sm (ldiff (ldiff x x1) x2) := sm_ldiff _ (sm_ldiff _ hx)
  have cnt : ∀ (s z : Nat), Sm s → Hid (z = size s) → Hid (∀ (n : Nat) (W : World), CallsIn (Fence.wide.inRound l) n Try.prog 34 #[.int .i64 (s : Int)] W fun e w' => e = .returned (.int .i64 (z : Int)) ∧ w' = W) := fun s z hs hz n W => by rw [hz.out]; exact CallsIn.inRound l (callsIn_wide.2 (count_any s W hs.lt))
  obtain ⟨z3, hz3⟩ : ∃ z, Hid (z = size (ldiff (ldiff x x1) x2)) := ⟨_, rfl⟩
  obtain ⟨zy, hzy⟩ : ∃ z, Hid (z = size (ldiff (full g.length) x)) := ⟨_, rfl⟩
  have K3 := cnt _ _ hx3s hz3
  have KY := cnt _ _ hys hzy
  have b3 : z3 ≤ 64 := by rw [hz3.out]; exact size_le _
  have by' : zy ≤ 64 := by rw [hzy.out]; exact size_le _
  have e2 : IntKind.i64.wrap (2 * (zy : Int)) = ((2 * zy : Nat) : Int) := by rw [IntWalk.i64_in _ (by omega)]; omega
  by_cases hc1 : 2 * zy < z3
  · gi_wp2
    refine quietR_lit (by kernel_rfl) (by kernel_rfl) (by kernel_rfl) ?_
    repeat (gi_big_quiet_step ((first
      | (gi_at_call 34; refine CallsIn.quiet_of_same (K3.out _ _))
      | (gi_at_call 34; refine CallsIn.quiet_of_same (KY.out _ _)))))
    refine wpQuietIn_nil ?_
    rintro _ ⟨nq, rfl⟩
    gi_wp2
    exact ⟨below_dr (Below.refl _ _) nq, fun hg => (hG.out.1 hg).1 (by rw [← hzy.out, ← hz3.out]; exact hc1)⟩
  · have hy2s : Sm y2 := by rw [hy2.out]; exact joinF_sm _ _ _
    have hy1s : Sm y1 := by rw [hy1.out]; exact joinF_sm _ _ _
    obtain ⟨z1, hz1⟩ : ∃ z, Hid (z = size y1) := ⟨_, rfl⟩
    obtain ⟨z2, hz2⟩ : ∃ z, Hid (z = size y2) := ⟨_, rfl⟩
    have K1 := cnt _ _ hy1s hz1
    have K2 := cnt _ _ hy2s hz2
    have b1 : z1 ≤ 64 := by rw [hz1.out]; exact size_le _
    have b2 : z2 ≤ 64 := by rw [hz2.out]; exact size_le _
    have KJ : Hid (∀ (n : Nat) (W' : World), Below W.heap.size W W' → CallsIn (Fence.wide.inRound l) n Try.prog 47 #[.int .i64 (x2 : Int), .int .i64 ((ldiff (full g.length) x : Nat) : Int), .pointer (some ⟨b6, 0, none⟩)] W' fun e w' => e = .returned (.int .i64 (y2 : Nat)) ∧ Below W'.heap.size W' w') := fun n W' hB => by
      rw [hy2.out]; exact CallsIn.inRound l (callsIn_wide.2 (callsIn_wide.1 (join_in B b6 g x2 _ W' hl hx2 hys hsm (cr.below hB cr.lt) (h6.kept (row := none) ⟨hB.os, hB.tape, hB.output, hB.size, fun k hk _ => hB.block k hk⟩ (by simp)))))
    have hB0 : ∀ n, Below W.heap.size W (W.drewN n) := fun n => below_dr (Below.refl _ _) n
    have HB0 := Lib.hid hB0
    clear hB0
    gi_wp2
    refine quietR_lit (by kernel_rfl) (by kernel_rfl) (by kernel_rfl) ?_
    repeat (gi_big_quiet_step ((first
      | (gi_at_call 34; refine CallsIn.quiet_of_same (K3.out _ _))
      | (gi_at_call 34; refine CallsIn.quiet_of_same (KY.out _ _)))))
    refine wpQuietIn_nil ?_
    rintro _ ⟨nq, rfl⟩
    gi_wp2_with fail
    refine (KJ.out _ _ (HB0.out _)).mono ?_
    rintro e w1 ⟨rfl, hB1⟩
    clear c7 c8 c9 c10 c11
    have hB1' : Below W.heap.size W w1 := (HB0.out nq).trans hB1
    have c10 := (hB1'.cell (p := ⟨b10, 0, none⟩) h10.lt).trans h10.cell
    have c11 := (hB1'.cell (p := ⟨b11, 0, none⟩) h11.lt).trans h11.cell
    obtain ⟨a0, a1, a2, a3, a4, h4⟩ := h4
    obtain ⟨v5, h5⟩ := h5
    have h4' : BoxN w1 b4 40 #[a0, a1, a2, a3, a4] := h4.below hB1' h4.lt
    have h5' : Boxed w1 b5 4 v5 := (hB1'.block b5 h5.lt).trans h5
    by_cases hy20 : y2 = 0
    · have g0 : (((y2 : Nat) : Int) != 0) = false := by rw [hy20]; rfl
      have HY := Lib.hid hy20
      clear hy20
      gi_wp2
      exact ⟨hB1', fun hg => (hG.out.1 hg).2.1 (by rw [← hy2.out]; exact HY.out)⟩
    · have g0 : (((y2 : Nat) : Int) != 0) = true := by rw [bne_iff_ne]; omega
      have HY := Lib.hid hy20
      clear hy20
      by_cases hzz : z3 ≤ z1 + z2
      · have g1 : decide ((z3 : Int) ≤ (z1 : Int) + (z2 : Int)) = true := decide_eq_true (by omega)
        have l0 : w1.cell? ⟨b4, 0, none⟩ = some a0 := by rw [h4'.cell]; rfl
        have l1 : w1.cell? ⟨b4, 1, none⟩ = some a1 := by rw [h4'.cell]; rfl
        have l2 : w1.cell? ⟨b4, 2, none⟩ = some a2 := by rw [h4'.cell]; rfl
        have l3 : w1.cell? ⟨b4, 3, none⟩ = some a3 := by rw [h4'.cell]; rfl
        have l4 : w1.cell? ⟨b4, 4, none⟩ = some a4 := by rw [h4'.cell]; rfl
        have m0 := h4'.frozen 0
        have m1 := h4'.frozen 1
        have m2 := h4'.frozen 2
        have m3 := h4'.frozen 3
        have m4 := h4'.frozen 4
        have c5 := h5'.cell
        have f5 := h5'.frozen
        gi_wp2_with (first
          | (gi_at_call 34; with_reducible refine (K1.out _ _).mono ?_; rintro e w2 ⟨rfl, rfl⟩)
          | (gi_at_call 34; with_reducible refine (K2.out _ _).mono ?_; rintro e w2 ⟨rfl, rfl⟩)
          | (gi_at_call 34; with_reducible refine (K3.out _ _).mono ?_; rintro e w2 ⟨rfl, rfl⟩))
        have hfv : five g x x1 x2 = [x1, x2, ldiff (ldiff x x1) x2, y1, y2] := by unfold five; rw [hy1.out, hy2.out]
        refine ⟨rfl, ⟨hG.out.2 ⟨?_, by rw [← hy2.out]; exact HY.out, ?_⟩, ?_, ?_⟩, ?_⟩
        · rw [← hzy.out, ← hz3.out]; exact hc1
        · rw [← hy1.out, ← hy2.out, ← hz1.out, ← hz2.out, ← hz3.out]; exact hzz
        · rw [hfv]
          exact (((((h4'.set 0 _).set 1 _).set 2 _).set 3 _).set 4 _).other (a := ⟨b5, 0, none⟩) h45 _
        · exact Boxed.set _ (boxed_otherN (boxed_otherN (boxed_otherN (boxed_otherN (boxed_otherN h5' (Ne.symm h45) _) (Ne.symm h45) _) (Ne.symm h45) _) (Ne.symm h45) _) (Ne.symm h45) _)
        · exact ((((((Ag.of_below hB1').set ⟨b4, 0, none⟩ _ (.inr (.inl rfl))).set ⟨b4, 1, none⟩ _ (.inr (.inl rfl))).set ⟨b4, 2, none⟩ _ (.inr (.inl rfl))).set ⟨b4, 3, none⟩ _ (.inr (.inl rfl))).set ⟨b4, 4, none⟩ _ (.inr (.inl rfl))).set ⟨b5, 0, none⟩ _ (.inr (.inr rfl))
      · have g1 : decide ((z3 : Int) ≤ (z1 : Int) + (z2 : Int)) = false := decide_eq_false (by omega)
        gi_wp2_with (first
          | (gi_at_call 34; with_reducible refine (K1.out _ _).mono ?_; rintro e w2 ⟨rfl, rfl⟩)
          | (gi_at_call 34; with_reducible refine (K2.out _ _).mono ?_; rintro e w2 ⟨rfl, rfl⟩)
          | (gi_at_call 34; with_reducible refine (K3.out _ _).mono ?_; rintro e w2 ⟨rfl, rfl⟩))
        exact ⟨hB1', fun hg => hzz (by rw [hz1.out, hz2.out, hz3.out, hy1.out, hy2.out]; exact (hG.out.1 hg).2.2)⟩
end Go.Proofs.Ytfbobojpocnfeaa
