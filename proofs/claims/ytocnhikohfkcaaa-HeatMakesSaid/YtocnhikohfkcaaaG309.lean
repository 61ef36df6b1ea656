/- Three numbers put in order: walks. Whether there are schedules for a number of boats. Schedules in plain text: the circle, its matches turned, who is at home. The program's check of intervals: walks. Rows of pairs that the call has made; taken over from chapter 7. (a name that other texts import) The schedule of the circle: walk. -/
import Derived.Test.YtocnhikohfkcaaaG308
import Derived.Lib.SliceRun
import Derived.Laws.Cover3
import Derived.Lib.LazyBuf
import Derived.Test.YtocnhikohfkcaaaG302
import Derived.Test.YtocnhikohfkcaaaG305
import Derived.Test.YtocnhikohfkcaaaMk
set_option linter.unusedVariables false
set_option linter.unusedSimpArgs false
namespace Go.Proofs.Ytocnhikohfkcaaa
open Go.RowKit Go.Shelf

theorem qrow_empty (W : World) (t : TypeId) (sz : Nat) {base : Nat} (hb : base ≤ W.heap.size) : QRow (W.alloc (.cells #[] t)) base t sz (.slice (some ⟨W.heap.size, 0, none⟩) 0 0) 0 [] :=
  ⟨by simp, .inr ⟨W.heap.size, 0, 0, #[], rfl, hb, World.alloc_heap_new W _, Nat.le_refl _, by decide, by simp, fun j hj => by omega⟩⟩
/-- uint(z) % uint(m) -/
def um (z : Int) (m : Nat) : Nat := ((IntKind.u64.wrap z).tmod (m : Int)).toNat
theorem u64_nonneg (z : Int) : 0 ≤ IntKind.u64.wrap z := by rw [IntKind.wrap_u64]; omega
theorem um_eq (z : Int) (m : Nat) : (IntKind.u64.wrap z).tmod (m : Int) = ((um z m : Nat) : Int) := by
  unfold um
  have := Int.tmod_nonneg (m : Int) (u64_nonneg z)
  omega
theorem um_lt (z : Int) {m : Nat} (hm : 1 ≤ m) : um z m < m := by
  have h := um_eq z m
  rw [Int.tmod_eq_emod_of_nonneg (u64_nonneg z)] at h
  have := Int.emod_lt_of_pos (IntKind.u64.wrap z) (show (0 : Int) < (m : Int) by omega)
  omega
set_option maxRecDepth 100000 in
theorem pdq_any (base g o n c : Nat) (f0 : Nat → Int) (lim : Int) (w : World) (hn : n ≤ 12) (hQ : QRow w base 3 1 (.slice (some ⟨g, o, none⟩) n c) n (ivI f0 n)) :
    Calls Try.prog 83 #[.slice (some ⟨g, o, none⟩) n c, .int .i64 0, .int .i64 (n : Int), .int .i64 lim] w fun e w' => e = .returned (.tuple #[]) ∧ (∃ f, QRow w' base 3 1 (.slice (some ⟨g, o, none⟩) n c) n (ivI f n) ∧ SortedTo f n ∧ (vals f n).Perm (vals f0 n)) ∧ Ag (· = g) w w' := by
  have HI := Lib.hid (insort_any base g o n c f0 w (by omega) hQ)
  have g1 : (n : Int) ≤ 12 := by omega
  clear hQ
  go_enter Try.func83, Try.ntmps83
  go_upto_region 2 with (fail)
  go_loopw [1, 2, 3] (fun s1 s2 s3 wr => s1 = .int .i64 0 ∧ s2 = .int .i64 (n : Int) ∧ s3 = .int .i64 lim ∧ Hid (w = wr)) (fun _ _ _ _ => 0)
  case atStart => exact ⟨rfl, rfl, rfl, rfl⟩
  case round =>
    obtain ⟨rfl, rfl, rfl, hw⟩ := hrel
    rw [← hw.out]
    clear hw
    go_wp2_with (go_at_call 90; refine HI.out.mono ?_; rintro e w1 ⟨rfl, hx, hA⟩; have HX := Lib.hid hx; have HA := Lib.hid hA; clear hx hA)
    refine bodyPost_ret (results_none rfl _ _ _) rfl ?_
    exact ⟨rfl, HX.out, HA.out⟩
set_option maxRecDepth 100000 in
theorem len3 (w : World) : Calls Try.prog 67 #[.int .u64 3] w fun e w' => (∃ z, e = .returned (.int .i64 z)) ∧ w' = w := by
  go_enter Try.func67, Try.ntmps67
  go_wp2
  go_ret
  exact ⟨⟨_, rfl⟩, rfl⟩
set_option maxRecDepth 100000 in
theorem sort3 (base g o c : Nat) (f0 : Nat → Int) (w : World) (hQ : QRow w base 3 1 (.slice (some ⟨g, o, none⟩) 3 c) 3 (ivI f0 3)) :
    Calls Try.prog 70 #[.slice (some ⟨g, o, none⟩) 3 c] w fun e w' => e = .returned (.tuple #[]) ∧ (∃ f, QRow w' base 3 1 (.slice (some ⟨g, o, none⟩) 3 c) 3 (ivI f 3) ∧ SortedTo f 3 ∧ (vals f 3).Perm (vals f0 3)) ∧ Ag (· = g) w w' := by
  have HI := Lib.hid (fun lim => pdq_any base g o 3 c f0 lim w (by omega) hQ)
  clear hQ
  go_enter Try.func70, Try.ntmps70
  go_wp2_with (first
    | (go_at_call 67; refine (len3 _).mono ?_; rintro e w4 ⟨⟨lim, rfl⟩, hw4⟩; replace hw4 := hw4.symm; subst hw4; try dsimp only)
    | (go_at_call 83; refine (HI.out _).mono ?_; rintro e w1 ⟨rfl, hx, hA⟩; have HX := Lib.hid hx; have HA := Lib.hid hA; clear hx hA))
  go_end0
  exact ⟨rfl, HX.out, HA.out⟩
set_option maxRecDepth 100000 in
theorem clone_any (p : Option Addr) (n c : Nat) (f : Nat → Int) (w : World) (hn0 : 1 ≤ n) (hn : n ≤ 1000) (hc : n ≤ c) (hS : SrcI w p n f) :
    Calls Try.prog 69 #[.slice p n c] w fun e w' => (∃ g o c', e = .returned (.slice (some ⟨g, o, none⟩) n c') ∧ QRow w' w.heap.size 3 1 (.slice (some ⟨g, o, none⟩) n c') n (ivI f n)) ∧ Below w.heap.size w w' := by
  obtain ⟨i0, hi0, hz0, hz1, hz2⟩ := info_parts info3
  obtain ⟨b, o, rfl, hb, _⟩ := id hS (by omega)
  have HQ0 := Lib.hid (qrow_empty w 3 1 (Nat.le_refl w.heap.size))
  have HB0 : Hid (Below w.heap.size w (w.alloc (.cells #[] 3))) := (Below.refl _ _).alloc (Nat.le_refl _) _
  have HSZ : Hid ((w.alloc (.cells #[] 3)).heap.size = w.heap.size + 1) := by unfold Hid; simp
  have HS0 : Hid (Src (w.alloc (.cells #[] 3)) (some ⟨b, o, none⟩) n 1 (ivI f n)) := (hS.below HB0.out (Nat.le_refl _)).src
  have HO0 := Lib.hid (ivI_one f n)
  have hE : ∀ W (p : Option Addr) (m c : Nat), (binOp .eql 43 (.slice p m c) (.slice none 0 0)).run Try.prog W = .ok (.bool p.isNone) W := fun W p m c => Go.Lib.run_eql_slice_nil W 43 3 p m c 0 0 Try.underlying43
  clear hS
  go_enter Try.func69, Try.ntmps69
  go_wp2_with (at_builtin; go_must (refine wpList_append_qq _ rfl (.tmp 5) (.tmp 6) 43 rfl w.heap.size 3 i0 (.int .i64 0) 1 8 Try.underlying43 hi0 hz0 hz1 hz2 rfl (by decide) _ 0 [] rfl HQ0.out (some ⟨b, o, none⟩) n c (ivI f n) rfl HS0.out HO0.out (by unfold maxLen; omega) (by omega) (by rw [HSZ.out]; omega) ?_); intro v6 w6 hq6 hg6 ho6; rw [Nat.zero_add, List.nil_append] at hq6; have HQ6 := Lib.hid hq6; have HB6 : Hid (Below w.heap.size w w6) := Below.grown HB0.out hg6 (by rw [HSZ.out]; omega) (fun kk e => by cases e; exact Nat.le_refl _); clear hq6 hg6 ho6)
  obtain ⟨p6, c6, rfl⟩ := HQ6.out.isSlice
  obtain ⟨g6, o6, c7, e6, _⟩ := HQ6.out.at (by omega)
  go_ret
  refine ⟨?_, HB6.out⟩
  cases e6
  exact ⟨g6, o6, _, rfl, HQ6.out⟩
/-- three numbers, put in order -/
def ord3 (z : Z3) (a b c : Int) : Prop := z.1 ≤ z.2.1 ∧ z.2.1 ≤ z.2.2 ∧ [z.1, z.2.1, z.2.2].Perm [a, b, c]
theorem vals3 (f : Nat → Int) : vals f 3 = [f 0, f 1, f 2] := by unfold vals; rfl
set_option maxRecDepth 100000 in
theorem put_raw (p : Option Addr) (c : Nat) (a0 b0 c0 : Int) (w : World) (hc : 3 ≤ c) (hS : SrcI w p 3 (fun k => if k = 0 then a0 else if k = 1 then b0 else c0)) :
    Calls Try.prog 57 #[.slice p 3 c] w fun e w' => (∃ z : Z3, ord3 z a0 b0 c0 ∧ e = .returned (.agg #[.int .i64 z.1, .int .i64 z.2.1, .int .i64 z.2.2])) ∧ Below w.heap.size w w' := by
  have HC := Lib.hid (clone_any p 3 c _ w (by decide) (by decide) hc hS)
  have HB0 : Hid (Below w.heap.size w (w.alloc (.cells #[.int .i64 0, .int .i64 0, .int .i64 0] 44))) := (Below.refl _ _).alloc (Nat.le_refl _) _
  have HX0 : Hid (BoxN (w.alloc (.cells #[.int .i64 0, .int .i64 0, .int .i64 0] 44)) w.heap.size 44 #[.int .i64 0, .int .i64 0, .int .i64 0]) := BoxN.new rfl
  have HC := Lib.hid (clone_any p 3 c _ _ (by decide) (by decide) hc (hS.below HB0.out (Nat.le_refl _)))
  clear hS
  go_enter Try.func57, Try.ntmps57
  go_upto_region 2 with (go_at_call 69; refine HC.out.mono ?_; rintro e w1 ⟨⟨g, o, c', rfl, hq⟩, hB⟩; have HS := Lib.hid (sort3 _ g o c' _ w1 hq); have HQ := Lib.hid hq; have HB := Lib.hid hB; clear hq hB)
  go_upto_region 3 with (go_at_call 70; refine HS.out.mono ?_; rintro e w2 ⟨rfl, ⟨f, hq2, hsr, hpm⟩, hA⟩; have HQ2 := Lib.hid hq2; have HSR := Lib.hid hsr; have HPM := Lib.hid hpm; have HA := Lib.hid hA; clear hq2 hsr hpm hA)
  have hx2 : BoxN w2 w.heap.size 44 #[.int .i64 0, .int .i64 0, .int .i64 0] := by
    have h0 : w.heap.size < (w.alloc (.cells #[.int .i64 0, .int .i64 0, .int .i64 0] 44)).heap.size := by simp
    refine HA.out.boxN (HX0.out.below HB.out h0) (fun e => ?_)
    have := (HQ.out.lt g rfl).1
    omega
  obtain ⟨_, _, _, e, hg1, hg2, _, _, hc, _⟩ := HQ2.out.at (by decide)
  cases e
  have c0 : w2.cell? ⟨g, o, none⟩ = some (.int .i64 (f 0)) := (hc 0 (by decide)).trans (ivI_get f 3 0 (by decide))
  have c1 := (hc 1 (by decide)).trans (ivI_get f 3 1 (by decide))
  have c2 := (hc 2 (by decide)).trans (ivI_get f 3 2 (by decide))
  have y0 := hx2.frozen 0
  have x0 := hx2.cell 0
  have hs1 := hx2.set 0 (.int .i64 (f 0))
  have hs2 := hs1.set 1 (.int .i64 (f 1))
  have hs3 := hs2.set 2 (.int .i64 (f 2))
  have y1 := hs1.frozen 1
  have x1 := hs1.cell 1
  have y2 := hs2.frozen 2
  have x2 := hs2.cell 2
  have r0 := hs3.cell 0
  have r1 := hs3.cell 1
  have r2 := hs3.cell 2
  simp only [List.setIfInBounds_toArray, List.set_cons_zero, List.set_cons_succ, List.getElem?_toArray, List.getElem?_cons_zero, List.getElem?_cons_succ] at x0 x1 x2 r0 r1 r2
  have HB3 : Hid (Below w.heap.size w2 (((w2.setCell ⟨w.heap.size, 0, none⟩ (.int .i64 (f 0))).setCell ⟨w.heap.size, 1, none⟩ (.int .i64 (f 1))).setCell ⟨w.heap.size, 2, none⟩ (.int .i64 (f 2)))) := ((((Ag.refl (fun k => k = w.heap.size) w2).set ⟨w.heap.size, 0, none⟩ _ (.inr rfl)).set ⟨w.heap.size, 1, none⟩ _ (.inr rfl)).set ⟨w.heap.size, 2, none⟩ _ (.inr rfl)).below (Below.refl _ _) (by have := hx2.lt; omega) (fun k hk e => by omega)
  have HB2 : Hid (Below w.heap.size w w2) := HA.out.below (HB0.out.trans (HB.out.mono (by simp))) (by have := HB.out.size; simp at this; omega) (fun k hk e => by
    have := (HQ.out.lt g rfl).1
    simp at this
    omega)
  clear hx2 hc hs1 hs2 hs3
  have hat := run_arrayAt (P := Try.prog) w2 44 3 3 (some ⟨g, o, none⟩) 3 c' Try.underlying44 (by decide)
  go_wp2
  refine bodyPost_ret (v := .agg #[.int .i64 (f 0), .int .i64 (f 1), .int .i64 (f 2)]) (by simp [results, Try.f57, go_sem, r0, r1, r2]) rfl ?_
  refine ⟨⟨(f 0, f 1, f 2), ⟨HSR.out 0 1 (by decide) (by decide), HSR.out 1 2 (by decide) (by decide), ?_⟩, rfl⟩, HB2.out.trans HB3.out⟩
  have h := HPM.out
  rw [vals3, vals3] at h
  exact h
/-- what put gives for three numbers -/
theorem put3_ord (a b c : Nat) : ord3 (zc (put3 a b c)) a b c := by
  unfold put3 zc ord3
  have p1 : ∀ x y z : Int, [x, z, y].Perm [x, y, z] := fun x y z => .cons _ (.swap _ _ _)
  have p2 : ∀ x y z : Int, [y, x, z].Perm [x, y, z] := fun x y z => .swap _ _ _
  by_cases h1 : b < a
  · rw [if_pos h1]
    by_cases h2 : c < b
    · rw [if_pos h2]
      exact ⟨by simp only; omega, by simp only; omega, (p1 _ _ _).trans ((p2 _ _ _).trans (p1 _ _ _))⟩
    · rw [if_neg h2]
      by_cases h3 : c < a
      · rw [if_pos h3]
        exact ⟨by simp only; omega, by simp only; omega, (p1 _ _ _).trans (p2 _ _ _)⟩
      · rw [if_neg h3]
        exact ⟨by simp only; omega, by simp only; omega, p2 _ _ _⟩
  · rw [if_neg h1]
    by_cases h2 : c < a
    · rw [if_pos h2]
      exact ⟨by simp only; omega, by simp only; omega, (p2 _ _ _).trans (p1 _ _ _)⟩
    · rw [if_neg h2]
      by_cases h3 : c < b
      · rw [if_pos h3]
        exact ⟨by simp only; omega, by simp only; omega, p1 _ _ _⟩
      · rw [if_neg h3]
        exact ⟨by simp only; omega, by simp only; omega, .refl _⟩
theorem ord3_eq {z z' : Z3} {a b c : Int} (h : ord3 z a b c) (h' : ord3 z' a b c) : z = z' := by
  obtain ⟨x, y, u⟩ := z
  obtain ⟨x', y', u'⟩ := z'
  have hp : [x, y, u].Perm [x', y', u'] := h.2.2.trans h'.2.2.symm
  have s1 : [x, y, u].Pairwise (· ≤ ·) := by
    have h1 : x ≤ y := h.1
    have h2 : y ≤ u := h.2.1
    simp [List.pairwise_cons]
    omega
  have s2 : [x', y', u'].Pairwise (· ≤ ·) := by
    have h1 : x' ≤ y' := h'.1
    have h2 : y' ≤ u' := h'.2.1
    simp [List.pairwise_cons]
    omega
  have := hp.eq_of_pairwise (fun a b _ _ h1 h2 => Int.le_antisymm h1 h2) s1 s2
  simp only [List.cons.injEq, and_true] at this
  rw [this.1, this.2.1, this.2.2]
theorem put_any (p : Option Addr) (c x y z : Nat) (w : World) (hc : 3 ≤ c) (hS : SrcI w p 3 (fun k => if k = 0 then (x : Int) else if k = 1 then (y : Int) else (z : Int))) :
    Calls Try.prog 57 #[.slice p 3 c] w fun e w' => e = .returned (.agg #[.int .i64 ((put3 x y z).1 : Int), .int .i64 ((put3 x y z).2.1 : Int), .int .i64 ((put3 x y z).2.2 : Int)]) ∧ Below w.heap.size w w' :=
  (put_raw p c x y z w hc hS).mono fun e w' ⟨⟨u, hu, he⟩, hB⟩ => ⟨by rw [he, ord3_eq hu (put3_ord x y z)]; rfl, hB⟩
end Go.Proofs.Ytocnhikohfkcaaa
namespace Go.Proofs.Ytocnhikohfkcaaa
open Go.RowKit Go.Shelf

theorem isRight_yes (n : Nat) (w : World) (h2 : 2 ≤ n) (h16 : n ≤ 16) (hev : n % 2 = 0) :
    Calls Try.prog 35 #[.int .i64 (n : Int)] w fun e w' => e = .returned (.bool true) ∧ w' = w := by
  have g1 : (2 : Int) ≤ (n : Int) := by omega
  have g2 : (n : Int) ≤ 16 := by omega
  have g3 : Int.tmod (n : Int) 2 = 0 := by rw [Int.tmod_eq_emod_of_nonneg (by omega)]; omega
  go_enter Try.func35, Try.ntmps35
  go_wp2
  go_ret
  exact ⟨rfl, rfl⟩
theorem isRight_no (n : Int) (w : World) (h : ¬ (2 ≤ n ∧ n ≤ 16 ∧ n.toNat % 2 = 0)) :
    Calls Try.prog 35 #[.int .i64 n] w fun e w' => e = .returned (.bool false) ∧ w' = w := by
  have hc : n < 2 ∨ 16 < n ∨ (2 ≤ n ∧ n ≤ 16 ∧ Int.tmod n 2 = 1) := by
    by_cases h2 : 2 ≤ n
    · by_cases h16 : n ≤ 16
      · right; right
        refine ⟨h2, h16, ?_⟩
        rw [Int.tmod_eq_emod_of_nonneg (by omega)]
        omega
      · right; left; omega
    · left; omega
  clear h
  rcases hc with h | h | ⟨h1, h2, h3⟩
  · go_enter Try.func35, Try.ntmps35
    go_wp2
    go_ret
    exact ⟨rfl, rfl⟩
  · have h0 : 2 ≤ n := by omega
    go_enter Try.func35, Try.ntmps35
    go_wp2
    go_ret
    exact ⟨rfl, rfl⟩
  · go_enter Try.func35, Try.ntmps35
    go_wp2
    go_ret
    exact ⟨rfl, rfl⟩
end Go.Proofs.Ytocnhikohfkcaaa
namespace Go.Proofs.Ytocnhikohfkcaaa
open Go.RowKit

/-- the k-th match of round r of the circle -/
def cir (n r k : Nat) : Nat × Nat :=
  if k = 0 then (if r % 2 = 1 then (r, n - 1) else (n - 1, r))
  else if k % 2 = 0 then ((r + (n - 1) - k) % (n - 1), (r + k) % (n - 1)) else ((r + k) % (n - 1), (r + (n - 1) - k) % (n - 1))
def unord (p : Nat × Nat) : Nat × Nat := (min p.1 p.2, max p.1 p.2)
/-- a schedule of n boats: its matches by round and place -/
structure SchP (n : Nat) (m : Nat → Nat → Nat × Nat) : Prop where
  rng : ∀ r k, r < n - 1 → k < n / 2 → (m r k).1 < n ∧ (m r k).2 < n ∧ (m r k).1 ≠ (m r k).2
  met : ∀ r k r' k', r < n - 1 → k < n / 2 → r' < n - 1 → k' < n / 2 → unord (m r k) = unord (m r' k') → r = r' ∧ k = k'
  one : ∀ r k k', r < n - 1 → k < n / 2 → k' < n / 2 → k ≠ k' → (m r k).1 ≠ (m r k').1 ∧ (m r k).1 ≠ (m r k').2 ∧ (m r k).2 ≠ (m r k').1 ∧ (m r k).2 ≠ (m r k').2
def TurnP (m m' : Nat → Nat → Nat × Nat) : Prop := ∀ r k, m' r k = m r k ∨ m' r k = ((m r k).2, (m r k).1)
theorem TurnP.refl (m : Nat → Nat → Nat × Nat) : TurnP m m := fun _ _ => .inl rfl
theorem unord_turn (p : Nat × Nat) : unord (p.2, p.1) = unord p := by unfold unord; simp only [Nat.min_comm, Nat.max_comm]
theorem TurnP.un {m m' : Nat → Nat → Nat × Nat} (h : TurnP m m') (r k : Nat) : unord (m' r k) = unord (m r k) := by
  rcases h r k with e | e
  · rw [e]
  · rw [e, unord_turn]
theorem SchP.turn {n : Nat} {m m' : Nat → Nat → Nat × Nat} (h : SchP n m) (t : TurnP m m') : SchP n m' where
  rng := fun r k hr hk => by
    have h1 := h.rng r k hr hk
    rcases t r k with e | e
    · rw [e]; exact h1
    · rw [e]; exact ⟨h1.2.1, h1.1, h1.2.2.symm⟩
  met := fun r k r' k' hr hk hr' hk' e => h.met r k r' k' hr hk hr' hk' (by rw [← t.un, ← t.un]; exact e)
  one := fun r k k' hr hk hk' hne => by
    have h1 := h.one r k k' hr hk hk' hne
    rcases t r k with e | e <;> rcases t r k' with e' | e' <;> rw [e, e']
    · exact h1
    · exact ⟨h1.2.1, h1.1, h1.2.2.2, h1.2.2.1⟩
    · exact ⟨h1.2.2.1, h1.2.2.2, h1.1, h1.2.1⟩
    · exact ⟨h1.2.2.2, h1.2.2.1, h1.2.1, h1.1⟩
def allN (n : Nat) (p : Nat → Bool) : Bool := (List.range n).all p
theorem allN_iff {n : Nat} {p : Nat → Bool} : allN n p = true ↔ ∀ x, x < n → p x = true := by simp [allN]
def schB (n : Nat) : Bool := allN (n - 1) fun r => allN (n / 2) fun k => decide ((cir n r k).1 < n) && decide ((cir n r k).2 < n) && !decide ((cir n r k).1 = (cir n r k).2) &&
  (allN (n - 1) fun r' => allN (n / 2) fun k' => !(decide (min (cir n r k).1 (cir n r k).2 = min (cir n r' k').1 (cir n r' k').2) && decide (max (cir n r k).1 (cir n r k).2 = max (cir n r' k').1 (cir n r' k').2)) || (decide (r = r') && decide (k = k'))) &&
  (allN (n / 2) fun k' => decide (k = k') || (!decide ((cir n r k).1 = (cir n r k').1) && !decide ((cir n r k).1 = (cir n r k').2) && !decide ((cir n r k).2 = (cir n r k').1) && !decide ((cir n r k).2 = (cir n r k').2)))
theorem schB_sch {n : Nat} (h : schB n = true) : SchP n (cir n) := by
  unfold schB at h
  have key : ∀ r k, r < n - 1 → k < n / 2 → _ := fun r k hr hk => (allN_iff.1 ((allN_iff.1 h) r hr)) k hk
  refine ⟨fun r k hr hk => ?_, fun r k r' k' hr hk hr' hk' e => ?_, fun r k k' hr hk hk' hne => ?_⟩
  · have := key r k hr hk
    simp only [Bool.and_eq_true, decide_eq_true_eq, Bool.not_eq_true', decide_eq_false_iff_not] at this
    exact ⟨this.1.1.1.1, this.1.1.1.2, this.1.1.2⟩
  · have := key r k hr hk
    simp only [Bool.and_eq_true] at this
    have := (allN_iff.1 ((allN_iff.1 this.1.2) r' hr')) k' hk'
    unfold unord at e
    simp only [Prod.mk.injEq] at e
    simpa [e.1, e.2] using this
  · have := key r k hr hk
    simp only [Bool.and_eq_true] at this
    have := (allN_iff.1 this.2) k' hk'
    simpa [hne, and_assoc] using this
set_option maxRecDepth 100000 in
theorem sch12 : schB 12 = true := by decide +kernel
set_option maxRecDepth 100000 in
theorem sch10 : schB 10 = true := by decide +kernel
set_option maxRecDepth 100000 in
theorem sch8 : schB 8 = true := by decide +kernel
set_option maxRecDepth 100000 in
theorem sch6 : schB 6 = true := by decide +kernel
set_option maxRecDepth 100000 in
theorem sch4 : schB 4 = true := by decide +kernel
set_option maxRecDepth 100000 in
theorem sch2 : schB 2 = true := by decide +kernel
theorem cir_sch {n : Nat} (h : n = 2 ∨ n = 4 ∨ n = 6 ∨ n = 8 ∨ n = 10 ∨ n = 12) : SchP n (cir n) := by
  rcases h with e | e | e | e | e | e
  · subst e; exact schB_sch sch2
  · subst e; exact schB_sch sch4
  · subst e; exact schB_sch sch6
  · subst e; exact schB_sch sch8
  · subst e; exact schB_sch sch10
  · subst e; exact schB_sch sch12
end Go.Proofs.Ytocnhikohfkcaaa
namespace Go.Proofs.Ytocnhikohfkcaaa
open Go.RowKit Go.Shelf

def la (ps : List (Int × Int)) (j : Nat) : Int := (ps[j]?.getD (0, 0)).1
def ua (ps : List (Int × Int)) (j : Nat) : Int := (ps[j]?.getD (0, 0)).2
theorem Pairs.at {w : World} {a : Option Addr} {ps : List (Int × Int)} (h : Pairs w a ps) {k : Nat} (hk : k < ps.length) : ∃ b o, a = some ⟨b, o, none⟩ ∧ b < w.heap.size ∧ w.cell? ⟨b, o + k * 2, none⟩ = some (.int .i64 (la ps k)) ∧ w.cell? ⟨b, o + k * 2 + 1, none⟩ = some (.int .i64 (ua ps k)) := by
  obtain ⟨b, o, e, hb, hc⟩ := h (fun e => by rw [e] at hk; simp at hk)
  exact ⟨b, o, e, hb, (hc k hk).1, (hc k hk).2⟩
end Go.Proofs.Ytocnhikohfkcaaa
namespace Go.Proofs.Ytocnhikohfkcaaa
open Go.RowKit Go.Shelf
theorem cells_newB (W : World) (t : TypeId) (u u' : Value) : ∀ (j : Nat) (x : Value), [u, u'][j]? = some x → (W.alloc (.cells #[u, u'] t)).cell? ((⟨W.heap.size, 0, none⟩ : Addr).add j) = some x := fun j x h => by
  rw [Addr.add_lit, Nat.zero_add, (BoxN.new (W := W) (t := t) (vs := #[u, u']) rfl).cell]
  simpa using h
theorem pairs_new (w : World) (ps : List (Int × Int)) (vs : Array Value) (h : vs = (pairCells ps).toArray) : Pairs (w.alloc (.cells vs 58)) (some ⟨w.heap.size, 0, none⟩) ps := fun _ => by
  subst h
  refine ⟨w.heap.size, 0, rfl, by simp, fun j hj => ?_⟩
  have hb : BoxN (w.alloc (.cells (pairCells ps).toArray 58)) w.heap.size 58 (pairCells ps).toArray := BoxN.new rfl
  have := pairCells_get ps j hj
  rw [hb.cell, hb.cell]
  simpa using this
theorem Pairs.src {w : World} {a : Option Addr} {ps : List (Int × Int)} (h : Pairs w a ps) (k : Nat) (hk : k ≤ ps.length) : Src w a k 2 (pairCells (ps.take k)) := by
  have hl : (ps.take k).length = k := by rw [List.length_take]; omega
  refine ⟨by rw [pairCells_length, hl], fun hm => ?_⟩
  obtain ⟨b, off, e, h1, h2⟩ := h fun e => by rw [e] at hk; simp at hk; omega
  refine ⟨_, e, fun j u hu => ?_⟩
  have hj := (List.getElem?_eq_some_iff.1 hu).1
  rw [pairCells_length, hl] at hj
  have hq := h2 (j / 2) (by omega)
  have hg := pairCells_get (ps.take k) (j / 2) (by omega)
  have ht : (ps.take k)[j / 2]?.getD (0, 0) = ps[j / 2]?.getD (0, 0) := by rw [List.getElem?_take, if_pos (by omega)]
  rw [ht] at hg
  rw [Addr.add_lit]
  rcases Nat.mod_two_eq_zero_or_one j with h0 | h0
  · have e2 : j / 2 * 2 = j := by omega
    rw [e2] at hq hg
    rw [hg.1] at hu
    cases hu
    exact hq.1
  · have e2 : j / 2 * 2 + 1 = j := by omega
    rw [e2] at hg
    rw [hg.2] at hu
    cases hu
    have := hq.2
    rw [Nat.add_assoc, e2] at this
    exact this
theorem QRow.pairs {w : World} {base : Nat} {p : Option Addr} {m c : Nat} {ps : List (Int × Int)} (h : QRow w base 58 2 (.slice p m c) m (pairCells ps)) (hm : m = ps.length) : Pairs w p ps := fun hne => by
  have h0 := List.length_pos_iff.2 hne
  obtain ⟨b, o, cap, e, _, hb, _, _, hc, _⟩ := h.at (by omega)
  cases e
  refine ⟨b, o, rfl, hb, fun j hj => ?_⟩
  have := pairCells_get ps j hj
  exact ⟨(hc (j * 2) (by omega)).trans this.1, by rw [Nat.add_assoc]; exact (hc (j * 2 + 1) (by omega)).trans this.2⟩
theorem pairCells_append : ∀ (ps qs : List (Int × Int)), pairCells (ps ++ qs) = pairCells ps ++ pairCells qs
  | [], _ => rfl
  | p :: ps, qs => by show Value.int .i64 p.1 :: Value.int .i64 p.2 :: pairCells (ps ++ qs) = _; rw [pairCells_append ps qs]; rfl
end Go.Proofs.Ytocnhikohfkcaaa
namespace Go.Proofs.Ytocnhikohfkcaaa
end Go.Proofs.Ytocnhikohfkcaaa
namespace Go.Proofs.Ytocnhikohfkcaaa
open Go.RowKit Go.Shelf

theorem infoP : (Try.prog.info? 58).map (fun i => (i.zero, i.size, i.bytes)) = some (some (.agg #[.int .i64 0, .int .i64 0]), 2, 16) := by kernel_rfl
theorem infoR : (Try.prog.info? 59).map (fun i => (i.zero, i.size, i.bytes)) = some (some (.slice none 0 0), 1, 24) := by kernel_rfl
theorem underR : Try.prog.underlying 59 = some (.slice 58) := by kernel_rfl
theorem underS : Try.prog.underlying 22 = some (.slice 59) := by kernel_rfl
/-- the first matches of a round, as pairs of integers -/
def rowL (m : Nat → Nat → Nat × Nat) (r k : Nat) : List (Int × Int) := (List.range k).map fun i => (((m r i).1 : Int), ((m r i).2 : Int))
theorem rowL_len (m : Nat → Nat → Nat × Nat) (r k : Nat) : (rowL m r k).length = k := by simp [rowL]
theorem rowL_snoc (m : Nat → Nat → Nat × Nat) (r k : Nat) : rowL m r (k + 1) = rowL m r k ++ [(((m r k).1 : Int), ((m r k).2 : Int))] := by unfold rowL; rw [List.range_succ, List.map_append]; rfl
theorem cells_snoc2 (m : Nat → Nat → Nat × Nat) (r k : Nat) : pairCells (rowL m r (k + 1)) = pairCells (rowL m r k) ++ [.int .i64 ((m r k).1 : Int), .int .i64 ((m r k).2 : Int)] := by rw [rowL_snoc, pairCells_append]; rfl
/-- k rounds of h matches, that the call has made -/
def SchR (W : World) (base : Nat) (v : Value) (k h : Nat) (m : Nat → Nat → Nat × Nat) : Prop := ∃ xs, QRow W base 59 1 v k xs ∧ (∀ r, r < k → ∃ p c, xs[r]? = some (.slice p h c) ∧ QRow W base 58 2 (.slice p h c) h (pairCells (rowL m r h))) ∧ ∀ r r' x x' b, r < k → r' < k → xs[r]? = some x → xs[r']? = some x' → x.ownBlock = some b → x'.ownBlock = some b → r = r'
theorem SchR.nil (W : World) (base h : Nat) (m : Nat → Nat → Nat × Nat) : SchR W base (.slice none 0 0) 0 h m := ⟨[], QRow.nil _ _ _ _, fun r hr => by omega, fun r _ _ _ _ hr => by omega⟩
theorem SchR.isSlice {W : World} {base : Nat} {v : Value} {k h : Nat} {m : Nat → Nat → Nat × Nat} (H : SchR W base v k h m) : ∃ p c, v = .slice p k c := H.elim fun _ h => h.1.isSlice
theorem SchR.below {n base : Nat} {w W : World} {v : Value} {k h : Nat} {m : Nat → Nat → Nat × Nat} (H : SchR w base v k h m) (hB : Below n w W) (hn : w.heap.size ≤ n) : SchR W base v k h m := by
  obtain ⟨xs, h1, h2, h5⟩ := H
  refine ⟨xs, h1.below hB fun k' hk' => Nat.lt_of_lt_of_le (h1.lt k' hk').2 hn, fun r hr => ?_, h5⟩
  obtain ⟨p, c, h3, h4⟩ := h2 r hr
  exact ⟨p, c, h3, h4.below hB fun k' hk' => Nat.lt_of_lt_of_le (h4.lt k' hk').2 hn⟩
theorem SchR.push {W W' : World} {base : Nat} {v v' : Value} {k h : Nat} {m : Nat → Nat → Nat × Nat} {xs : List Value} {p : Option Addr} {c : Nat}
    (h2 : ∀ r, r < k → ∃ p c, xs[r]? = some (.slice p h c) ∧ QRow W base 58 2 (.slice p h c) h (pairCells (rowL m r h))) (h1 : QRow W base 59 1 v k xs)
    (hq : QRow W base 58 2 (.slice p h c) h (pairCells (rowL m k h))) (hg : W.grownBy W' v.ownBlock) (h3 : QRow W' base 59 1 v' (k + 1) (xs ++ [.slice p h c]))
    (hD : ∀ r r' x x' b, r < k → r' < k → xs[r]? = some x → xs[r']? = some x' → x.ownBlock = some b → x'.ownBlock = some b → r = r') (hN : ∀ r x b, r < k → xs[r]? = some x → x.ownBlock = some b → (Value.slice p h c).ownBlock ≠ some b) : SchR W' base v' (k + 1) h m := by
  have hxl := h1.1
  have hat : ∀ r x, r < k + 1 → (xs ++ [Value.slice p h c])[r]? = some x → (r < k ∧ xs[r]? = some x) ∨ (r = k ∧ x = .slice p h c) := fun r x hr hx => by
    by_cases e : r = k
    · subst e
      rw [List.getElem?_append_right (by omega)] at hx
      rw [show r - xs.length = 0 by omega] at hx
      exact .inr ⟨rfl, by simpa using hx.symm⟩
    · rw [List.getElem?_append_left (by omega)] at hx
      exact .inl ⟨by omega, hx⟩
  refine ⟨_, h3, fun r hr => ?_, fun r r' x x' b hr hr' hx hx' hb hb' => ?_⟩
  rotate_left
  · rcases hat r x hr hx with ⟨h4, h5⟩ | ⟨rfl, rfl⟩
    · rcases hat r' x' hr' hx' with ⟨h6, h7⟩ | ⟨rfl, rfl⟩
      · exact hD r r' x x' b h4 h6 h5 h7 hb hb'
      · exact absurd hb' (hN r x b h4 h5 hb)
    · rcases hat r' x' hr' hx' with ⟨h6, h7⟩ | ⟨rfl, rfl⟩
      · exact absurd hb (hN r' x' b h6 h7 hb')
      · rfl
  by_cases e : r = k
  · subst e
    refine ⟨p, c, ?_, hq.kept hg (ne_or (hq.ne h1 (by decide)))⟩
    rw [List.getElem?_append_right (by omega)]; simp [hxl]
  · obtain ⟨p', c', h4, h5⟩ := h2 r (by omega)
    refine ⟨p', c', ?_, h5.kept hg (ne_or (h5.ne h1 (by decide)))⟩
    rw [List.getElem?_append_left (by omega)]; exact h4
theorem cir_0 {n r : Nat} (h : r % 2 = 1) : cir n r 0 = (r, n - 1) := by unfold cir; rw [if_pos rfl, if_pos h]
theorem cir_0' {n r : Nat} (h : ¬ r % 2 = 1) : cir n r 0 = (n - 1, r) := by unfold cir; rw [if_pos rfl, if_neg h]
theorem cir_e {n r k : Nat} (h0 : k ≠ 0) (h : k % 2 = 0) : cir n r k = ((r + (n - 1) - k) % (n - 1), (r + k) % (n - 1)) := by unfold cir; rw [if_neg h0, if_pos h]
theorem cir_o {n r k : Nat} (h0 : k ≠ 0) (h : ¬ k % 2 = 0) : cir n r k = ((r + k) % (n - 1), (r + (n - 1) - k) % (n - 1)) := by unfold cir; rw [if_neg h0, if_neg h]
theorem qrow_new2 (W : World) (t : TypeId) (u v : Value) {base : Nat} (hb : base ≤ W.heap.size) : QRow (W.alloc (.cells #[u, v] t)) base t 2 (.slice (some ⟨W.heap.size, 0, none⟩) 1 1) 1 [u, v] :=
  ⟨rfl, .inr ⟨W.heap.size, 0, 1, #[u, v], rfl, hb, World.alloc_heap_new W _, Nat.le_refl _, by decide, by simp, fun j hj => by
    rcases (show j = 0 ∨ j = 1 by omega) with rfl | rfl <;> rfl⟩⟩
set_option maxRecDepth 100000 in
set_option maxHeartbeats 4000000 in
theorem Circle_ok (n : Nat) (w : World) (h2 : 2 ≤ n) (h16 : n ≤ 16) (hev : n % 2 = 0) :
    Calls Try.prog 10 #[.int .i64 (n : Int)] w fun e w' => ∃ v, e = .returned (.tuple #[v, .int .i64 0]) ∧ SchR w' w.heap.size v (n - 1) (n / 2) (cir n) ∧ Below w.heap.size w w' := by
  obtain ⟨i0, hi0, hz0, hz1, hz2⟩ := info_parts infoP
  obtain ⟨i1, hi1, hy0, hy1, hy2⟩ := info_parts infoR
  have HIR := Lib.hid (isRight_yes n w h2 h16 hev)
  obtain ⟨h, hh⟩ : ∃ h, Hid (n / 2 = h) := ⟨_, rfl⟩
  have hdiv : Int.tdiv (n : Int) 2 = (h : Int) := by have := hh.out; rw [Int.tdiv_eq_ediv_of_nonneg (by omega)]; omega
  have HN2 : Hid (n = 2 * h) := by have := hh.out; unfold Hid; omega
  rw [hh.out]
  obtain ⟨n1, hn1⟩ : ∃ n1, Hid (n - 1 = n1) := ⟨_, rfl⟩
  have HN1 : Hid (n = n1 + 1) := by have := hn1.out; unfold Hid; omega
  have hsub : (n : Int) - 1 = (n1 : Int) := by have := hn1.out; omega
  have hn16 : n1 ≤ 15 := by have := hn1.out; omega
  have hh8 : h ≤ 8 := by have := HN2.out; omega
  clear hev
  rw [hn1.out]
  go_enter Try.func10, Try.ntmps10
  go_upto_region 5 with (go_at_call 35; refine HIR.out.mono ?_; rintro e w4 ⟨rfl, hw4⟩; replace hw4 := hw4.symm; subst hw4; try dsimp only)
  go_loopw [4, 16] (fun s4 s16 wr => ∃ r : Nat, r ≤ n1 ∧ s16 = .int .i64 (r : Int) ∧ Hid (SchR wr w.heap.size s4 r h (cir n)) ∧ Hid (Below w.heap.size w wr)) (fun _ s16 _ => n1 - (intOf s16).toNat)
  case atStart => exact ⟨0, by omega, rfl, SchR.nil _ _ _ _, Below.refl _ _⟩
  case round =>
    obtain ⟨r, hr, rfl, hS, hB⟩ := hrel
    obtain ⟨p4, c4, rfl⟩ := hS.out.isSlice
    by_cases hrn : r < n1
    · have g1 : (r : Int) < (n1 : Int) := by omega
      have g0 : (0 : Int) ≤ (r : Int) := by omega
      obtain ⟨wo, hwo⟩ : ∃ wo, Hid (wo = wr) := ⟨_, rfl⟩
      rw [← hwo.out] at hS hB ⊢
      clear hwo
      by_cases hodd : r % 2 = 1
      · have hrem : Int.tmod (r : Int) 2 = 1 := by rw [Int.tmod_eq_emod_of_nonneg (by omega)]; omega
        go_upto_region 12 with (fail)
        have HQ0 := Lib.hid (qrow_new2 (wo.alloc (.cells #[.int .i64 (r : Int), .int .i64 (n1 : Int)] 58)) 58 (.int .i64 (r : Int)) (.int .i64 (n1 : Int)) (base := wo.heap.size) (by simp))
        have HBX : Hid (Below wo.heap.size wo ((wo.alloc (.cells #[.int .i64 (r : Int), .int .i64 (n1 : Int)] 58)).alloc (.cells #[.int .i64 (r : Int), .int .i64 (n1 : Int)] 58))) := ((Below.refl _ _).alloc (Nat.le_refl _) _).alloc (by simp) _
        have HSZ : Hid ((wo.alloc (.cells #[.int .i64 (r : Int), .int .i64 (n1 : Int)] 58)).heap.size = wo.heap.size + 1) := by unfold Hid; simp
        rw [HSZ.out] at HQ0
        generalize ((wo.alloc (.cells #[.int .i64 (r : Int), .int .i64 (n1 : Int)] 58)).alloc (.cells #[.int .i64 (r : Int), .int .i64 (n1 : Int)] 58)) = X at *
        clear HSZ
        have HQ1 : Hid (QRow X wo.heap.size 58 2 (.slice (some ⟨wo.heap.size + 1, 0, none⟩) 1 1) 1 (pairCells (rowL (cir n) r 1))) := by
          rw [show rowL (cir n) r 1 = [(((r : Nat) : Int), ((n1 : Nat) : Int))] by unfold rowL; rw [show List.range 1 = [0] from rfl]; simp only [List.map_cons, List.map_nil]; rw [cir_0 hodd, hn1.out]]
          exact HQ0.out
        clear HQ0
        go_loopw [7, 8] (fun s7 s8 wr => ∃ k : Nat, 1 ≤ k ∧ k ≤ h ∧ s8 = .int .i64 (k : Int) ∧ Hid (QRow wr wo.heap.size 58 2 s7 k (pairCells (rowL (cir n) r k))) ∧ Hid (Below wo.heap.size wo wr)) (fun _ s8 _ => h - (intOf s8).toNat)
        case atStart => exact ⟨1, by omega, by have := HN2.out; omega, rfl, HQ1, HBX⟩
        case round =>
          clear HQ1 HBX hrem
          obtain ⟨k, hk1, hk, rfl, hQ, hBo⟩ := hrel
          obtain ⟨p7, c7, rfl⟩ := hQ.out.isSlice
          have hwo : wo.heap.size ≤ wr.heap.size := hBo.out.size
          by_cases hkh : k < h
          · have g2 : (k : Int) < (h : Int) := by omega
            have HE1 : Hid (Int.tmod ((r : Int) + (k : Int)) (n1 : Int) = (((r + k) % n1 : Nat) : Int)) := by unfold Hid; rw [Int.tmod_eq_emod_of_nonneg (by omega)]; rfl
            have HE2 : Hid (Int.tmod ((r : Int) - (k : Int) + (n : Int) - 1) (n1 : Int) = (((r + n1 - k) % n1 : Nat) : Int)) := by
              have h1 := HN1.out
              have h2 := HN2.out
              unfold Hid
              rw [show (r : Int) - (k : Int) + (n : Int) - 1 = ((r + n1 - k : Nat) : Int) by omega, Int.tmod_eq_emod_of_nonneg (by omega)]; rfl
            have e1 := HE1.out
            have e2 := HE2.out
            have HCE : Hid (k % 2 = 0 → cir n r k = ((r + n1 - k) % n1, (r + k) % n1)) := fun h => by rw [cir_e (by omega) h, hn1.out]
            have HCO : Hid (¬ k % 2 = 0 → cir n r k = ((r + k) % n1, (r + n1 - k) % n1)) := fun h => by rw [cir_o (by omega) h, hn1.out]
            have ha : (r + k) % n1 < n1 := Nat.mod_lt _ (by omega)
            have hb : (r + n1 - k) % n1 < n1 := Nat.mod_lt _ (by omega)
            have hn0 : ((n1 : Int) == 0) = false := by rw [beq_eq_false_iff_ne]; omega
            have hn0' : (n1 : Int) ≠ 0 := by omega
            generalize (r + k) % n1 = a at *
            generalize (r + n1 - k) % n1 = b at *
            clear HE1 HE2
            go_wp2
            go_quiet (fail)
            have hQ' : Hid (QRow (wr.drewN nq) wo.heap.size 58 2 (.slice p7 k c7) k (pairCells (rowL (cir n) r k))) := hQ.out
            have hBo' := Lib.hid (below_dr hBo.out nq)
            clear hQ hBo hwo
            have hQ := hQ'
            have hBo := hBo'
            clear hQ' hBo'
            generalize wr.drewN nq = wA at *
            have hwo : wo.heap.size ≤ wA.heap.size := hBo.out.size
            clear e1 e2
            have HLT := Lib.hid (fun kk (e : _ = some kk) => (hQ.out.lt kk e).1)
            by_cases hev : k % 2 = 0
            · have hrem : Int.tmod (k : Int) 2 = 0 := by rw [Int.tmod_eq_emod_of_nonneg (by omega)]; omega
              have HSN : Hid (pairCells (rowL (cir n) r (k + 1)) = pairCells (rowL (cir n) r k) ++ [.int .i64 (b : Int), .int .i64 (a : Int)]) := by rw [cells_snoc2, HCE.out hev]; rfl
              have HQA := Lib.hid (hQ.out.alloc (.cells #[.int .i64 (b : Int), .int .i64 (a : Int)] 58))
              clear HCE HCO hev
              go_wp2_with (at_builtin; go_must (refine wpList_append_q _ rfl (.tmp 58) (.tmp 62) 59 rfl wo.heap.size 58 i0 _ 2 16 underR hi0 hz0 hz1 hz2 rfl (by decide) _ k (pairCells (rowL (cir n) r k)) rfl HQA.out ⟨wA.heap.size, 0, none⟩ 1 1 [.int .i64 (b : Int), .int .i64 (a : Int)] rfl rfl (cells_newB _ _ _ _) (by simp [Value.oneCell']) (by unfold maxLen; omega) (by omega) (by simp; omega) ?_); intro v7 w7 hq7 hg7 ho7; have HQ7 : Hid (QRow w7 wo.heap.size 58 2 v7 (k + 1) (pairCells (rowL (cir n) r (k + 1)))) := (by rw [HSN.out]; exact hq7); have HB7 : Hid (Below wo.heap.size wo w7) := Below.grown (hBo.out.alloc hwo _) hg7 (by simp; omega) (fun kk e => HLT.out kk e); clear hq7 hg7 ho7)
              exact ⟨⟨k + 1, by omega, by omega, int_eq (by omega), HQ7, HB7⟩, by simp [intOf]; omega⟩
            · have hrem : Int.tmod (k : Int) 2 = 1 := by rw [Int.tmod_eq_emod_of_nonneg (by omega)]; omega
              have HSN : Hid (pairCells (rowL (cir n) r (k + 1)) = pairCells (rowL (cir n) r k) ++ [.int .i64 (a : Int), .int .i64 (b : Int)]) := by rw [cells_snoc2, HCO.out hev]; rfl
              have HQA := Lib.hid (hQ.out.alloc (.cells #[.int .i64 (a : Int), .int .i64 (b : Int)] 58))
              clear HCE HCO hev
              go_wp2_with (at_builtin; go_must (refine wpList_append_q _ rfl (.tmp 58) (.tmp 62) 59 rfl wo.heap.size 58 i0 _ 2 16 underR hi0 hz0 hz1 hz2 rfl (by decide) _ k (pairCells (rowL (cir n) r k)) rfl HQA.out ⟨wA.heap.size, 0, none⟩ 1 1 [.int .i64 (a : Int), .int .i64 (b : Int)] rfl rfl (cells_newB _ _ _ _) (by simp [Value.oneCell']) (by unfold maxLen; omega) (by omega) (by simp; omega) ?_); intro v7 w7 hq7 hg7 ho7; have HQ7 : Hid (QRow w7 wo.heap.size 58 2 v7 (k + 1) (pairCells (rowL (cir n) r (k + 1)))) := (by rw [HSN.out]; exact hq7); have HB7 : Hid (Below wo.heap.size wo w7) := Below.grown (hBo.out.alloc hwo _) hg7 (by simp; omega) (fun kk e => HLT.out kk e); clear hq7 hg7 ho7)
              exact ⟨⟨k + 1, by omega, by omega, int_eq (by omega), HQ7, HB7⟩, by simp [intOf]; omega⟩
          · have g2 : ¬ (k : Int) < (h : Int) := by omega
            obtain rfl : h = k := by omega
            clear g2 hkh hk hk1
            obtain ⟨xs, h1o, h2o, h5o⟩ := hS.out
            have HBW := Lib.hid (hB.out.trans (hBo.out.mono hB.out.size))
            have hww : w.heap.size ≤ wr.heap.size := HBW.out.size
            have h1 := h1o.below hBo.out (fun k' hk' => (h1o.lt k' hk').2)
            have HDD := Lib.hid h5o
            have HNN : Hid (∀ r' x b, r' < r → xs[r']? = some x → x.ownBlock = some b → (Value.slice p7 h c7).ownBlock ≠ some b) := fun r' x b hr' hx hb e => by
              obtain ⟨p, c, e1, e2⟩ := h2o r' hr'
              rw [hx] at e1
              cases e1
              have h6 := (e2.lt b hb).2
              have h7 := (hQ.out.lt b e).1
              omega
            have H1A := Lib.hid (h1.alloc (.cells #[.slice p7 h c7] 59))
            have H2A : Hid (∀ r', r' < r → ∃ p c, xs[r']? = some (.slice p h c) ∧ QRow (wr.alloc (.cells #[.slice p7 h c7] 59)) w.heap.size 58 2 (.slice p h c) h (pairCells (rowL (cir n) r' h))) := fun r' hr' => by
              obtain ⟨p, c, e1, e2⟩ := h2o r' hr'
              exact ⟨p, c, e1, (e2.below hBo.out (fun k' hk' => (e2.lt k' hk').2)).alloc _⟩
            have HQA := Lib.hid ((hQ.out.mono hB.out.size).alloc (.cells #[.slice p7 h c7] 59))
            have HLT := Lib.hid (fun kk (e : _ = some kk) => (h1.lt kk e).1)
            clear h1 h1o h2o h5o
            go_wp2_with (at_builtin; go_must (refine wpList_append_q _ rfl (.tmp 64) (.tmp 66) 22 rfl w.heap.size 59 i1 (.slice none 0 0) 1 24 underS hi1 hy0 hy1 hy2 rfl (by decide) _ r xs rfl H1A.out ⟨_, 0, none⟩ 1 1 [.slice p7 h c7] rfl rfl (cells_new1 _ _ _) (by simp [Value.oneCell']) (by unfold maxLen; omega) (by omega) (by simp; omega) ?_); intro v5 w5 hq5 hg5 ho5; have HR5 : Hid (SchR w5 w.heap.size v5 (r + 1) h (cir n)) := SchR.push H2A.out H1A.out HQA.out hg5 hq5 HDD.out HNN.out; have HB5 : Hid (Below w.heap.size w w5) := Below.grown (HBW.out.alloc hww _) hg5 (by simp; omega) (fun kk e => HLT.out kk e); clear hq5 hg5 ho5)
            exact ⟨⟨r + 1, by omega, int_eq (by omega), HR5, HB5⟩, by simp [intOf]; omega⟩
      · have hrem : Int.tmod (r : Int) 2 = 0 := by rw [Int.tmod_eq_emod_of_nonneg (by omega)]; omega
        go_upto_region 12 with (fail)
        have HQ0 := Lib.hid (qrow_new2 (wo.alloc (.cells #[.int .i64 (n1 : Int), .int .i64 (r : Int)] 58)) 58 (.int .i64 (n1 : Int)) (.int .i64 (r : Int)) (base := wo.heap.size) (by simp))
        have HBX : Hid (Below wo.heap.size wo ((wo.alloc (.cells #[.int .i64 (n1 : Int), .int .i64 (r : Int)] 58)).alloc (.cells #[.int .i64 (n1 : Int), .int .i64 (r : Int)] 58))) := ((Below.refl _ _).alloc (Nat.le_refl _) _).alloc (by simp) _
        have HSZ : Hid ((wo.alloc (.cells #[.int .i64 (n1 : Int), .int .i64 (r : Int)] 58)).heap.size = wo.heap.size + 1) := by unfold Hid; simp
        rw [HSZ.out] at HQ0
        generalize ((wo.alloc (.cells #[.int .i64 (n1 : Int), .int .i64 (r : Int)] 58)).alloc (.cells #[.int .i64 (n1 : Int), .int .i64 (r : Int)] 58)) = X at *
        clear HSZ
        have HQ1 : Hid (QRow X wo.heap.size 58 2 (.slice (some ⟨wo.heap.size + 1, 0, none⟩) 1 1) 1 (pairCells (rowL (cir n) r 1))) := by
          rw [show rowL (cir n) r 1 = [(((n1 : Nat) : Int), ((r : Nat) : Int))] by unfold rowL; rw [show List.range 1 = [0] from rfl]; simp only [List.map_cons, List.map_nil]; rw [cir_0' hodd, hn1.out]]
          exact HQ0.out
        clear HQ0
        go_loopw [7, 8] (fun s7 s8 wr => ∃ k : Nat, 1 ≤ k ∧ k ≤ h ∧ s8 = .int .i64 (k : Int) ∧ Hid (QRow wr wo.heap.size 58 2 s7 k (pairCells (rowL (cir n) r k))) ∧ Hid (Below wo.heap.size wo wr)) (fun _ s8 _ => h - (intOf s8).toNat)
        case atStart => exact ⟨1, by omega, by have := HN2.out; omega, rfl, HQ1, HBX⟩
        case round =>
          clear HQ1 HBX hrem
          obtain ⟨k, hk1, hk, rfl, hQ, hBo⟩ := hrel
          obtain ⟨p7, c7, rfl⟩ := hQ.out.isSlice
          have hwo : wo.heap.size ≤ wr.heap.size := hBo.out.size
          by_cases hkh : k < h
          · have g2 : (k : Int) < (h : Int) := by omega
            have HE1 : Hid (Int.tmod ((r : Int) + (k : Int)) (n1 : Int) = (((r + k) % n1 : Nat) : Int)) := by unfold Hid; rw [Int.tmod_eq_emod_of_nonneg (by omega)]; rfl
            have HE2 : Hid (Int.tmod ((r : Int) - (k : Int) + (n : Int) - 1) (n1 : Int) = (((r + n1 - k) % n1 : Nat) : Int)) := by
              have h1 := HN1.out
              have h2 := HN2.out
              unfold Hid
              rw [show (r : Int) - (k : Int) + (n : Int) - 1 = ((r + n1 - k : Nat) : Int) by omega, Int.tmod_eq_emod_of_nonneg (by omega)]; rfl
            have e1 := HE1.out
            have e2 := HE2.out
            have HCE : Hid (k % 2 = 0 → cir n r k = ((r + n1 - k) % n1, (r + k) % n1)) := fun h => by rw [cir_e (by omega) h, hn1.out]
            have HCO : Hid (¬ k % 2 = 0 → cir n r k = ((r + k) % n1, (r + n1 - k) % n1)) := fun h => by rw [cir_o (by omega) h, hn1.out]
            have ha : (r + k) % n1 < n1 := Nat.mod_lt _ (by omega)
            have hb : (r + n1 - k) % n1 < n1 := Nat.mod_lt _ (by omega)
            have hn0 : ((n1 : Int) == 0) = false := by rw [beq_eq_false_iff_ne]; omega
            have hn0' : (n1 : Int) ≠ 0 := by omega
            generalize (r + k) % n1 = a at *
            generalize (r + n1 - k) % n1 = b at *
            clear HE1 HE2
            go_wp2
            go_quiet (fail)
            have hQ' : Hid (QRow (wr.drewN nq) wo.heap.size 58 2 (.slice p7 k c7) k (pairCells (rowL (cir n) r k))) := hQ.out
            have hBo' := Lib.hid (below_dr hBo.out nq)
            clear hQ hBo hwo
            have hQ := hQ'
            have hBo := hBo'
            clear hQ' hBo'
            generalize wr.drewN nq = wA at *
            have hwo : wo.heap.size ≤ wA.heap.size := hBo.out.size
            clear e1 e2
            have HLT := Lib.hid (fun kk (e : _ = some kk) => (hQ.out.lt kk e).1)
            by_cases hev : k % 2 = 0
            · have hrem : Int.tmod (k : Int) 2 = 0 := by rw [Int.tmod_eq_emod_of_nonneg (by omega)]; omega
              have HSN : Hid (pairCells (rowL (cir n) r (k + 1)) = pairCells (rowL (cir n) r k) ++ [.int .i64 (b : Int), .int .i64 (a : Int)]) := by rw [cells_snoc2, HCE.out hev]; rfl
              have HQA := Lib.hid (hQ.out.alloc (.cells #[.int .i64 (b : Int), .int .i64 (a : Int)] 58))
              clear HCE HCO hev
              go_wp2_with (at_builtin; go_must (refine wpList_append_q _ rfl (.tmp 58) (.tmp 62) 59 rfl wo.heap.size 58 i0 _ 2 16 underR hi0 hz0 hz1 hz2 rfl (by decide) _ k (pairCells (rowL (cir n) r k)) rfl HQA.out ⟨wA.heap.size, 0, none⟩ 1 1 [.int .i64 (b : Int), .int .i64 (a : Int)] rfl rfl (cells_newB _ _ _ _) (by simp [Value.oneCell']) (by unfold maxLen; omega) (by omega) (by simp; omega) ?_); intro v7 w7 hq7 hg7 ho7; have HQ7 : Hid (QRow w7 wo.heap.size 58 2 v7 (k + 1) (pairCells (rowL (cir n) r (k + 1)))) := (by rw [HSN.out]; exact hq7); have HB7 : Hid (Below wo.heap.size wo w7) := Below.grown (hBo.out.alloc hwo _) hg7 (by simp; omega) (fun kk e => HLT.out kk e); clear hq7 hg7 ho7)
              exact ⟨⟨k + 1, by omega, by omega, int_eq (by omega), HQ7, HB7⟩, by simp [intOf]; omega⟩
            · have hrem : Int.tmod (k : Int) 2 = 1 := by rw [Int.tmod_eq_emod_of_nonneg (by omega)]; omega
              have HSN : Hid (pairCells (rowL (cir n) r (k + 1)) = pairCells (rowL (cir n) r k) ++ [.int .i64 (a : Int), .int .i64 (b : Int)]) := by rw [cells_snoc2, HCO.out hev]; rfl
              have HQA := Lib.hid (hQ.out.alloc (.cells #[.int .i64 (a : Int), .int .i64 (b : Int)] 58))
              clear HCE HCO hev
              go_wp2_with (at_builtin; go_must (refine wpList_append_q _ rfl (.tmp 58) (.tmp 62) 59 rfl wo.heap.size 58 i0 _ 2 16 underR hi0 hz0 hz1 hz2 rfl (by decide) _ k (pairCells (rowL (cir n) r k)) rfl HQA.out ⟨wA.heap.size, 0, none⟩ 1 1 [.int .i64 (a : Int), .int .i64 (b : Int)] rfl rfl (cells_newB _ _ _ _) (by simp [Value.oneCell']) (by unfold maxLen; omega) (by omega) (by simp; omega) ?_); intro v7 w7 hq7 hg7 ho7; have HQ7 : Hid (QRow w7 wo.heap.size 58 2 v7 (k + 1) (pairCells (rowL (cir n) r (k + 1)))) := (by rw [HSN.out]; exact hq7); have HB7 : Hid (Below wo.heap.size wo w7) := Below.grown (hBo.out.alloc hwo _) hg7 (by simp; omega) (fun kk e => HLT.out kk e); clear hq7 hg7 ho7)
              exact ⟨⟨k + 1, by omega, by omega, int_eq (by omega), HQ7, HB7⟩, by simp [intOf]; omega⟩
          · have g2 : ¬ (k : Int) < (h : Int) := by omega
            obtain rfl : h = k := by omega
            clear g2 hkh hk hk1
            obtain ⟨xs, h1o, h2o, h5o⟩ := hS.out
            have HBW := Lib.hid (hB.out.trans (hBo.out.mono hB.out.size))
            have hww : w.heap.size ≤ wr.heap.size := HBW.out.size
            have h1 := h1o.below hBo.out (fun k' hk' => (h1o.lt k' hk').2)
            have HDD := Lib.hid h5o
            have HNN : Hid (∀ r' x b, r' < r → xs[r']? = some x → x.ownBlock = some b → (Value.slice p7 h c7).ownBlock ≠ some b) := fun r' x b hr' hx hb e => by
              obtain ⟨p, c, e1, e2⟩ := h2o r' hr'
              rw [hx] at e1
              cases e1
              have h6 := (e2.lt b hb).2
              have h7 := (hQ.out.lt b e).1
              omega
            have H1A := Lib.hid (h1.alloc (.cells #[.slice p7 h c7] 59))
            have H2A : Hid (∀ r', r' < r → ∃ p c, xs[r']? = some (.slice p h c) ∧ QRow (wr.alloc (.cells #[.slice p7 h c7] 59)) w.heap.size 58 2 (.slice p h c) h (pairCells (rowL (cir n) r' h))) := fun r' hr' => by
              obtain ⟨p, c, e1, e2⟩ := h2o r' hr'
              exact ⟨p, c, e1, (e2.below hBo.out (fun k' hk' => (e2.lt k' hk').2)).alloc _⟩
            have HQA := Lib.hid ((hQ.out.mono hB.out.size).alloc (.cells #[.slice p7 h c7] 59))
            have HLT := Lib.hid (fun kk (e : _ = some kk) => (h1.lt kk e).1)
            clear h1 h1o h2o h5o
            go_wp2_with (at_builtin; go_must (refine wpList_append_q _ rfl (.tmp 64) (.tmp 66) 22 rfl w.heap.size 59 i1 (.slice none 0 0) 1 24 underS hi1 hy0 hy1 hy2 rfl (by decide) _ r xs rfl H1A.out ⟨_, 0, none⟩ 1 1 [.slice p7 h c7] rfl rfl (cells_new1 _ _ _) (by simp [Value.oneCell']) (by unfold maxLen; omega) (by omega) (by simp; omega) ?_); intro v5 w5 hq5 hg5 ho5; have HR5 : Hid (SchR w5 w.heap.size v5 (r + 1) h (cir n)) := SchR.push H2A.out H1A.out HQA.out hg5 hq5 HDD.out HNN.out; have HB5 : Hid (Below w.heap.size w w5) := Below.grown (HBW.out.alloc hww _) hg5 (by simp; omega) (fun kk e => HLT.out kk e); clear hq5 hg5 ho5)
            exact ⟨⟨r + 1, by omega, int_eq (by omega), HR5, HB5⟩, by simp [intOf]; omega⟩
    · have g1 : ¬ (r : Int) < (n1 : Int) := by omega
      obtain rfl : n1 = r := by omega
      go_wp2
      refine bodyPost_ret (v := .tuple #[.slice p4 n1 c4, .int .i64 0]) (by simp [results, Try.f10, go_sem]) rfl ?_
      exact ⟨_, rfl, hS.out, hB.out⟩
end Go.Proofs.Ytocnhikohfkcaaa
