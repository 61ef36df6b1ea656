/- Insertion sort of a few integers, and a sorted copy: walks. -/
import Derived.Test.YtbioondlmgolkaaG308
import Derived.Test.YtbioondlmgolkaaG313
import Derived.Test.YtbioondlmgolkaaG305
import Derived.Test.YtbioondlmgolkaaG310
set_option linter.unusedVariables false
set_option linter.unusedSimpArgs false
namespace Go.Proofs.Ytbioondlmgolkaa
open Go.RowKit Go.Shelf

theorem ivI_same {f f' : Nat → Int} {n : Nat} (h : ∀ k, k < n → f k = f' k) : ivI f n = ivI f' n := by
  unfold ivI
  exact List.map_congr_left fun k hk => by rw [h k (List.mem_range.1 hk)]
def SortedTo (f : Nat → Int) (i : Nat) : Prop := ∀ p q, p < q → q < i → f p ≤ f q
/-- position j is still to be put; the others up to i are in order -/
structure InsP (f : Nat → Int) (i j : Nat) : Prop where
  le : j ≤ i
  oth : ∀ p q, p < q → q ≤ i → p ≠ j → q ≠ j → f p ≤ f q
  hi : ∀ q, j < q → q ≤ i → f j ≤ f q
theorem InsP.start {f : Nat → Int} {i : Nat} (h : SortedTo f i) : InsP f i i := ⟨Nat.le_refl _, fun p q h1 h2 _ h4 => h p q h1 (by omega), fun q h1 h2 => by omega⟩
def swF (f : Nat → Int) (a b : Nat) : Nat → Int := fun k => if k = a then f b else if k = b then f a else f k
theorem InsP.swap {f : Nat → Int} {i j : Nat} (h : InsP f i (j + 1)) (hlt : f (j + 1) < f j) : InsP (swF f j (j + 1)) i j := by
  have hle := h.le
  refine ⟨by omega, fun p q h1 h2 h3 h4 => ?_, fun q h1 h2 => ?_⟩
  · unfold swF
    rw [if_neg h3, if_neg h4]
    by_cases e1 : p = j + 1
    · rw [if_pos e1, if_neg (by omega)]
      exact h.oth j q (by omega) h2 (by omega) (by omega)
    · rw [if_neg e1]
      by_cases e2 : q = j + 1
      · rw [if_pos e2]; exact h.oth p j (by omega) (by omega) (by omega) (by omega)
      · rw [if_neg e2]; exact h.oth p q h1 h2 e1 e2
  · unfold swF
    rw [if_pos rfl, if_neg (by omega)]
    by_cases e : q = j + 1
    · rw [if_pos e]; omega
    · rw [if_neg e]; exact h.hi q (by omega) h2
theorem InsP.stop {f : Nat → Int} {i j : Nat} (h : InsP f i j) (hs : j = 0 ∨ f (j - 1) ≤ f j) : SortedTo f (i + 1) := fun p q h1 h2 => by
  by_cases e1 : p = j
  · subst e1; exact h.hi q h1 (by omega)
  · by_cases e2 : q = j
    · subst e2
      rcases hs with hs | hs
      · omega
      · by_cases e3 : p = q - 1
        · subst e3; exact hs
        · exact Int.le_trans (h.oth p (q - 1) (by omega) (by have := h.le; omega) (by omega) (by omega)) hs
    · exact h.oth p q h1 (by omega) e1 e2
/-- the first n values -/
def vals (f : Nat → Int) (n : Nat) : List Int := (List.range n).map f
def trn (a b k : Nat) : Nat := if k = a then b else if k = b then a else k
theorem trn_trn (a b k : Nat) : trn a b (trn a b k) = k := by
  unfold trn
  by_cases h1 : k = a
  · rw [if_pos h1]
    by_cases h2 : b = a
    · rw [if_pos h2]; omega
    · rw [if_neg h2, if_pos rfl]; exact h1.symm
  · rw [if_neg h1]
    by_cases h2 : k = b
    · rw [if_pos h2, if_pos rfl]; exact h2.symm
    · rw [if_neg h2, if_neg h1, if_neg h2]
theorem trn_lt {a b k n : Nat} (ha : a < n) (hb : b < n) (hk : k < n) : trn a b k < n := by
  unfold trn
  split
  · exact hb
  · split
    · exact ha
    · exact hk
theorem vals_swap {f : Nat → Int} {n a b : Nat} (ha : a < n) (hb : b < n) : (vals (swF f a b) n).Perm (vals f n) := by
  have e : vals (swF f a b) n = ((List.range n).map (trn a b)).map f := by
    unfold vals
    rw [List.map_map]
    refine List.map_congr_left fun k _ => ?_
    show swF f a b k = f (trn a b k)
    unfold swF trn
    by_cases e1 : k = a
    · rw [if_pos e1, if_pos e1]
    · rw [if_neg e1, if_neg e1]
      by_cases e2 : k = b
      · rw [if_pos e2, if_pos e2]
      · rw [if_neg e2, if_neg e2]
  rw [e]
  unfold vals
  refine List.Perm.map f ?_
  refine (List.perm_ext_iff_of_nodup ?_ List.nodup_range).2 fun x => ?_
  · unfold List.Nodup
    rw [List.pairwise_map]
    exact List.Pairwise.imp (fun {x y} hxy e => hxy (by have := congrArg (trn a b) e; rwa [trn_trn, trn_trn] at this)) List.nodup_range
  · rw [List.mem_map, List.mem_range]
    constructor
    · rintro ⟨y, hy, rfl⟩
      exact trn_lt ha hb (List.mem_range.1 hy)
    · intro hx
      exact ⟨trn a b x, List.mem_range.2 (trn_lt ha hb hx), trn_trn a b x⟩
theorem ag_ofB {ex : Nat → Prop} {A B : World} (h : Below A.heap.size A B) : Ag ex A B := ⟨h.os, h.tape, h.output, h.size, fun k hk _ => h.block k hk⟩
theorem cmpI_lt {x y : Int} : cmpI x y < 0 ↔ x < y := by unfold cmpI; split <;> (try split) <;> omega
set_option maxRecDepth 100000 in
set_option maxHeartbeats 4000000 in
/-- insertion sort by cmp.Compare -/
theorem insort_any (base g o n c : Nat) (f0 : Nat → Int) (w : World) (hn : n ≤ 20) (hQ : QRow w base 3 1 (.slice (some ⟨g, o, none⟩) n c) n (ivI f0 n)) :
    Calls Try.prog 111 #[.slice (some ⟨g, o, none⟩) n c, .int .i64 0, .int .i64 (n : Int), .func (.func 65) #[] #[]] w fun e w' => e = .returned (.tuple #[]) ∧ (∃ f, QRow w' base 3 1 (.slice (some ⟨g, o, none⟩) n c) n (ivI f n) ∧ SortedTo f n ∧ (vals f n).Perm (vals f0 n)) ∧ Ag (· = g) w w' := by
  have HQ := Lib.hid hQ
  clear hQ
  go_enter Try.func111, Try.ntmps111
  go_upto_region 1 with (fail)
  go_loopw [8] (fun s8 wr => ∃ (i : Nat) (f : Nat → Int), 1 ≤ i ∧ s8 = .int .i64 (i : Int) ∧ Hid (QRow wr base 3 1 (.slice (some ⟨g, o, none⟩) n c) n (ivI f n)) ∧ Hid (SortedTo f (min i n)) ∧ Hid ((vals f n).Perm (vals f0 n)) ∧ Hid (Ag (· = g) w wr)) (fun s8 _ => n - (intOf s8).toNat)
  case atStart => exact ⟨1, f0, by omega, rfl, HQ, (fun p q h1 h2 => by omega), List.Perm.refl _, Ag.refl _ _⟩
  case round =>
    clear HQ
    obtain ⟨i, f, hi, rfl, hQ, hS, hP, hA⟩ := hrel
    by_cases hin : i < n
    · have g1 : (i : Int) < (n : Int) := by omega
      have HI0 : Hid (InsP f i i) := InsP.start (by have := hS.out; rw [Nat.min_eq_left (by omega)] at this; exact this)
      clear hS
      go_upto_region 4 with (fail)
      go_loopw [9] (fun s9 wr => ∃ (j : Nat) (f : Nat → Int), j ≤ i ∧ s9 = .int .i64 (j : Int) ∧ Hid (QRow wr base 3 1 (.slice (some ⟨g, o, none⟩) n c) n (ivI f n)) ∧ Hid (InsP f i j) ∧ Hid ((vals f n).Perm (vals f0 n)) ∧ Hid (Ag (· = g) w wr)) (fun s9 _ => (intOf s9).toNat)
      case atStart => exact ⟨i, f, by omega, rfl, hQ, HI0, hP, hA⟩
      case round =>
        clear hQ HI0 hP hA
        obtain ⟨j, f, hji, rfl, hQ, hI, hP, hA⟩ := hrel
        have HQB : Hid (∀ d : BW wr.heap.size wr, QRow d.w base 3 1 (.slice (some ⟨g, o, none⟩) n c) n (ivI f n)) := fun d => hQ.out.below d.b (fun k hk => (hQ.out.lt k hk).2)
        have HAB : Hid (∀ d : BW wr.heap.size wr, Ag (· = g) w d.w) := fun d => hA.out.trans (ag_ofB d.b)
        have NEXT : Hid (SortedTo f (i + 1) → ∀ d : BW wr.heap.size wr, ∃ (i_1 : Nat) (f : Nat → Int), 1 ≤ i_1 ∧ Value.int .i64 ((i : Int) + 1) = .int .i64 (i_1 : Int) ∧ Hid (QRow d.w base 3 1 (.slice (some ⟨g, o, none⟩) n c) n (ivI f n)) ∧ Hid (SortedTo f (min i_1 n)) ∧ Hid ((vals f n).Perm (vals f0 n)) ∧ Hid (Ag (· = g) w d.w)) := fun h d => ⟨i + 1, f, by omega, int_eq (by omega), HQB.out d, by rw [Nat.min_eq_left (by omega)]; exact h, hP, HAB.out d⟩
        by_cases hj0 : j = 0
        · have HS2 := Lib.hid (NEXT.out (hI.out.stop (.inl hj0)))
          have g2 : ¬ (0 : Int) < (j : Int) := by omega
          clear NEXT hQ hI hP hA
          go_wp2
          refine wp_region_bw (by kernel_rfl) (by kernel_rfl) ?_
          repeat (go_big_quiet_step (rfl))
          refine wpQuiet_nil ?_
          rintro _ ⟨d, rfl⟩
          go_wp2
          exact ⟨HS2.out d, by simp [intOf]; omega⟩
        · obtain ⟨jj, hjj⟩ : ∃ jj, Hid (j = jj + 1) := ⟨j - 1, by unfold Hid; omega⟩
          have g2 : 0 < j := by omega
          have g2d : decide (0 < j) = true := by simpa using g2
          have hjn : j < n := by omega
          have e0 : (j : Int) - 1 = (jj : Int) := by have := hjj.out; omega
          have hjjn : jj < n := by have := hjj.out; omega
          obtain ⟨gb, ob, cap2, e, hb1, hb2, _, _, hc, _⟩ := hQ.out.at (by omega)
          cases e
          have c1 := (hc j (by omega)).trans (ivI_get f n j hjn)
          have c2 := (hc jj (by omega)).trans (ivI_get f n jj hjjn)
          have r1 : ∀ d : BW wr.heap.size wr, d.w.cell? ⟨g, o + j, none⟩ = some (.int .i64 (f j)) := fun d => d.cell hb2 c1
          have r2 : ∀ d : BW wr.heap.size wr, d.w.cell? ⟨g, o + jj, none⟩ = some (.int .i64 (f jj)) := fun d => d.cell hb2 c2
          have HST : Hid (¬ f j < f jj → SortedTo f (i + 1)) := fun h => hI.out.stop (.inr (by rw [show j - 1 = jj by have := hjj.out; omega]; omega))
          have HSW : Hid (f j < f jj → InsP (swF f jj j) i jj) := fun h => by
            have h1 := hjj.out
            have h2 := hI.out
            rw [h1] at h2 h ⊢
            exact h2.swap h
          have HCL := Lib.hid (cmpI_lt (x := f j) (y := f jj))
          have HCM : Hid (∀ d : BW wr.heap.size wr, Calls Try.prog 65 #[.int .i64 (f j), .int .i64 (f jj)] d.w fun e w' => e = .returned (.int .i64 (cmpI (f j) (f jj))) ∧ ∃ d' : BW wr.heap.size wr, w' = d'.w) := fun d => Calls.bw ((compare_any (f j) (f jj) d.w).mono fun e w' h => ⟨h.1, by rw [h.2]; exact d.b⟩)
          have HPS : Hid ((vals (swF f jj j) n).Perm (vals f0 n)) := (vals_swap hjjn hjn).trans hP.out
          have HPT : Hid (∀ d : BW wr.heap.size wr, d.w.frozen? ⟨g, o + jj, none⟩ = false ∧ d.w.frozen? ⟨g, o + j, none⟩ = false ∧ QRow ((d.w.setCell ⟨g, o + j, none⟩ (.int .i64 (f jj))).setCell ⟨g, o + jj, none⟩ (.int .i64 (f j))) base 3 1 (.slice (some ⟨g, o, none⟩) n c) n (ivI (swF f jj j) n)) := fun d => by
            have h1 := (HQB.out d).put hjjn (f j)
            have h2 := (HQB.out d).put hjn (f jj)
            have h3 := h2.2.put hjjn (f j)
            refine ⟨h1.1, h2.1, ?_⟩
            rw [show ivI (swF f jj j) n = ivI (fun k => if k = jj then f j else (fun k => if k = j then f jj else f k) k) n from ivI_same fun k hk => by
              unfold swF
              by_cases e1 : k = jj
              · rw [if_pos e1]
              · rw [if_neg e1]]
            exact h3.2
          have hne : jj ≠ j := by have := hjj.out; omega
          clear hQ hI hP hA hc c1 c2
          generalize f j = z1 at *
          generalize f jj = z2 at *
          by_cases hlt : z1 < z2
          · have q1 : cmpI z1 z2 < 0 := HCL.out.2 hlt
            have HI2 := Lib.hid (HSW.out hlt)
            clear NEXT HST HSW HCL
            generalize cmpI z1 z2 = cz at *
            go_wp2
            refine wp_region_bw (by kernel_rfl) (by kernel_rfl) ?_
            repeat (go_big_quiet_step ((first
              | rfl
              | (go_at_call 65; with_reducible exact HCM.out _))))
            refine wpQuiet_nil ?_
            rintro _ ⟨d, rfl⟩
            have d1 := r1 d
            have d2 := r2 d
            have f1 := (HPT.out d).1
            have f2 := (HPT.out d).2.1
            have HQ3 := Lib.hid (HPT.out d).2.2
            have HA3 : Hid (Ag (· = g) w ((d.w.setCell ⟨g, o + j, none⟩ (.int .i64 z2)).setCell ⟨g, o + jj, none⟩ (.int .i64 z1))) := ((HAB.out d).set ⟨g, o + j, none⟩ _ (.inr rfl)).set ⟨g, o + jj, none⟩ _ (.inr rfl)
            clear r1 r2 HPT HQB HAB HCM
            obtain ⟨wA, hwA⟩ : ∃ wA, Hid (wA = d.w) := ⟨_, rfl⟩
            rw [← hwA.out] at d1 d2 f1 f2 HQ3 HA3 ⊢
            clear hwA
            have f3 : ∀ v, (wA.setCell ⟨g, o + j, none⟩ v).cell? ⟨g, o + jj, none⟩ = some (.int .i64 z2) := fun v => (World.cell?_setCell_other _ _ _ _ (fun e => by have := congrArg Addr.off e; simp at this; omega)).trans d2
            go_wp2
            go_region
            go_wp2
            go_roundw
            case rel => exact ⟨jj, swF f jj j, by omega, by go_num, HQ3.out, HI2, HPS, HA3.out.drewN 1⟩
            case measure => simp [intOf]; omega
          · have q1 : ¬ cmpI z1 z2 < 0 := fun h => hlt (HCL.out.1 h)
            have HS2 := Lib.hid (NEXT.out (HST.out hlt))
            clear NEXT HST HSW HCL HPT HPS
            generalize cmpI z1 z2 = cz at *
            go_wp2
            refine wp_region_bw (by kernel_rfl) (by kernel_rfl) ?_
            repeat (go_big_quiet_step ((first
              | rfl
              | (go_at_call 65; with_reducible exact HCM.out _))))
            refine wpQuiet_nil ?_
            rintro _ ⟨d, rfl⟩
            go_wp2
            exact ⟨HS2.out d, by simp [intOf]; omega⟩
    · have g1 : ¬ (i : Int) < (n : Int) := by omega
      have HS2 : Hid (SortedTo f n) := by have := hS.out; rw [Nat.min_eq_right (by omega)] at this; exact this
      clear hS
      go_wp2
      go_end0
      exact ⟨rfl, ⟨f, hQ.out, HS2.out, hP.out⟩, hA.out⟩
end Go.Proofs.Ytbioondlmgolkaa
