/- A sorted copy of a few integers: walks. Sums of a few numbers, and what is less: walks. What is a violation of a list of scores: a tournament's scores have none. Walks. The scores of a tournament: walks. Judges: plain, and the two judges side by side. Positions, plain: an order with neither a two and two nor a three and one has them. Check, and what Positions and Levels answer for no order: walks. Levels: a walk. Schedules in plain text: the circle, its matches turned, who is at home. The schedule of the circle: walk. The program's iterator over the matches of a schedule: its contract. -/
import Derived.Test.YtbioondlmgolkaaG517
import Derived.Test.YtbioondlmgolkaaG512
import Derived.Lib.LazyBuf
import Derived.Test.YtbioondlmgolkaaEq
import Derived.Test.YtbioondlmgolkaaG513
import Derived.Test.YtbioondlmgolkaaG502
import Derived.RangeFuncNested
import Derived.Laws.EntriesVeiled
import Derived.Sort.CutIn
set_option linter.unusedVariables false
set_option linter.unusedSimpArgs false
namespace Go.Proofs.Ytbioondlmgolkaa
open Go.RowKit Go.Shelf

theorem qrow_empty (W : World) (t : TypeId) (sz : Nat) {base : Nat} (hb : base ≤ W.heap.size) : QRow (W.alloc (.cells #[] t)) base t sz (.slice (some ⟨W.heap.size, 0, none⟩) 0 0) 0 [] :=
  ⟨by simp, .inr ⟨W.heap.size, 0, 0, #[], rfl, hb, World.alloc_heap_new W _, Nat.le_refl _, by decide, by simp, fun j hj => by omega⟩⟩
set_option maxRecDepth 100000 in
theorem stable_any (base g o n c : Nat) (f0 : Nat → Int) (w : World) (hn : n ≤ 19) (hQ : QRow w base 3 1 (.slice (some ⟨g, o, none⟩) n c) n (ivI f0 n)) :
    Calls Try.prog 105 #[.slice (some ⟨g, o, none⟩) n c, .int .i64 (n : Int), .func (.func 65) #[] #[]] w fun e w' => e = .returned (.tuple #[]) ∧ (∃ f, QRow w' base 3 1 (.slice (some ⟨g, o, none⟩) n c) n (ivI f n) ∧ SortedTo f n ∧ (vals f n).Perm (vals f0 n)) ∧ Ag (· = g) w w' := by
  have HI := Lib.hid (insort_any base g o n c f0 w (by omega) hQ)
  have g1 : ¬ (20 : Int) ≤ (n : Int) := by omega
  have g2 : ¬ (20 : Int) < (n : Int) := by omega
  clear hQ
  go_enter Try.func105, Try.ntmps105
  go_upto_region 2 with (fail)
  go_loopw [7, 8] (fun s7 s8 wr => s7 = .int .i64 0 ∧ s8 = .int .i64 20 ∧ Hid (wr.heap = w.heap ∧ wr = w)) (fun _ _ _ => 0)
  case atStart => exact ⟨rfl, rfl, rfl, rfl⟩
  case round =>
    obtain ⟨rfl, rfl, hw⟩ := hrel
    obtain ⟨_, hw⟩ := hw.out
    replace hw := hw.symm
    subst hw
    go_upto_region 7 with (go_at_call 111; refine HI.out.mono ?_; rintro e w1 ⟨rfl, hx, hA⟩; have HX := Lib.hid hx; have HA := Lib.hid hA; clear hx hA)
    go_loopw [6] (fun s6 wr => s6 = .int .i64 20 ∧ Hid (wr.heap = w1.heap ∧ wr = w1)) (fun _ _ => 0)
    case atStart => exact ⟨rfl, rfl, rfl⟩
    case round =>
      obtain ⟨rfl, hw⟩ := hrel
      obtain ⟨_, hw⟩ := hw.out
      replace hw := hw.symm
      subst hw
      go_wp2
      go_end0
      exact ⟨rfl, HX.out, HA.out⟩
set_option maxRecDepth 100000 in
theorem sortst_any (base g o n c : Nat) (f0 : Nat → Int) (w : World) (hn : n ≤ 19) (hQ : QRow w base 3 1 (.slice (some ⟨g, o, none⟩) n c) n (ivI f0 n)) :
    Calls Try.prog 93 #[.slice (some ⟨g, o, none⟩) n c, .func (.func 65) #[] #[]] w fun e w' => e = .returned (.tuple #[]) ∧ (∃ f, QRow w' base 3 1 (.slice (some ⟨g, o, none⟩) n c) n (ivI f n) ∧ SortedTo f n ∧ (vals f n).Perm (vals f0 n)) ∧ Ag (· = g) w w' := by
  have HI := Lib.hid (stable_any base g o n c f0 w hn hQ)
  clear hQ
  go_enter Try.func93, Try.ntmps93
  go_wp2_with (go_at_call 105; refine HI.out.mono ?_; rintro e w1 ⟨rfl, hx, hA⟩; have HX := Lib.hid hx; have HA := Lib.hid hA; clear hx hA)
  go_end0
  exact ⟨rfl, HX.out, HA.out⟩
set_option maxRecDepth 100000 in
theorem clone_any (p : Option Addr) (n c : Nat) (f : Nat → Int) (w : World) (hn0 : 1 ≤ n) (hn : n ≤ 1000) (hc : n ≤ c) (hS : SrcI w p n f) :
    Calls Try.prog 92 #[.slice p n c] w fun e w' => (∃ g o c', e = .returned (.slice (some ⟨g, o, none⟩) n c') ∧ QRow w' w.heap.size 3 1 (.slice (some ⟨g, o, none⟩) n c') n (ivI f n)) ∧ Below w.heap.size w w' := by
  obtain ⟨i0, hi0, hz0, hz1, hz2⟩ := info_parts info3
  obtain ⟨b, o, rfl, hb, _⟩ := id hS (by omega)
  have HQ0 := Lib.hid (qrow_empty w 3 1 (Nat.le_refl w.heap.size))
  have HB0 : Hid (Below w.heap.size w (w.alloc (.cells #[] 3))) := (Below.refl _ _).alloc (Nat.le_refl _) _
  have HSZ : Hid ((w.alloc (.cells #[] 3)).heap.size = w.heap.size + 1) := by unfold Hid; simp
  have HS0 : Hid (Src (w.alloc (.cells #[] 3)) (some ⟨b, o, none⟩) n 1 (ivI f n)) := (hS.below HB0.out (Nat.le_refl _)).src
  have HO0 := Lib.hid (ivI_one f n)
  have hE : ∀ W (p : Option Addr) (m c : Nat), (binOp .eql 34 (.slice p m c) (.slice none 0 0)).run Try.prog W = .ok (.bool p.isNone) W := fun W p m c => Go.Lib.run_eql_slice_nil W 34 3 p m c 0 0 Try.underlying34
  clear hS
  go_enter Try.func92, Try.ntmps92
  go_wp2_with (at_builtin; go_must (refine wpList_append_qq _ rfl (.tmp 5) (.tmp 6) 34 rfl w.heap.size 3 i0 (.int .i64 0) 1 8 Try.underlying34 hi0 hz0 hz1 hz2 rfl (by decide) _ 0 [] rfl HQ0.out (some ⟨b, o, none⟩) n c (ivI f n) rfl HS0.out HO0.out (by unfold maxLen; omega) (by omega) (by rw [HSZ.out]; omega) ?_); intro v6 w6 hq6 hg6 ho6; rw [Nat.zero_add, List.nil_append] at hq6; have HQ6 := Lib.hid hq6; have HB6 : Hid (Below w.heap.size w w6) := Below.grown HB0.out hg6 (by rw [HSZ.out]; omega) (fun kk e => by cases e; exact Nat.le_refl _); clear hq6 hg6 ho6)
  obtain ⟨p6, c6, rfl⟩ := HQ6.out.isSlice
  obtain ⟨g6, o6, c7, e6, _⟩ := HQ6.out.at (by omega)
  go_ret
  refine ⟨?_, HB6.out⟩
  cases e6
  exact ⟨g6, o6, _, rfl, HQ6.out⟩
set_option maxRecDepth 100000 in
/-- a sorted copy -/
theorem sorted_any (p : Option Addr) (n c : Nat) (f0 : Nat → Int) (w : World) (hn0 : 1 ≤ n) (hn : n ≤ 19) (hc : n ≤ c) (hS : SrcI w p n f0) :
    Calls Try.prog 64 #[.slice p n c, .func (.func 65) #[] #[]] w fun e w' => (∃ g o c' f, e = .returned (.slice (some ⟨g, o, none⟩) n c') ∧ QRow w' w.heap.size 3 1 (.slice (some ⟨g, o, none⟩) n c') n (ivI f n) ∧ SortedTo f n ∧ (vals f n).Perm (vals f0 n)) ∧ Below w.heap.size w w' := by
  have HC := Lib.hid (clone_any p n c f0 w hn0 (by omega) hc hS)
  clear hS
  go_enter Try.func64, Try.ntmps64
  go_upto_region 2 with (go_at_call 92; refine HC.out.mono ?_; rintro e w1 ⟨⟨g, o, c', rfl, hq⟩, hB⟩; have HQ := Lib.hid hq; have HB := Lib.hid hB; clear hq hB)
  have HI := Lib.hid (sortst_any w.heap.size g o n c' f0 w1 hn HQ.out)
  have hgl := (HQ.out.lt g rfl).1
  go_wp2_with (go_at_call 93; refine HI.out.mono ?_; rintro e w2 ⟨rfl, hx, hA⟩; have HX := Lib.hid hx; have HA := Lib.hid hA; clear hx hA)
  obtain ⟨f, h1, h2, h3⟩ := HX.out
  go_ret
  exact ⟨⟨g, o, c', f, rfl, h1, h2, h3⟩, HA.out.below HB.out HB.out.size (fun k hk e => by omega)⟩
end Go.Proofs.Ytbioondlmgolkaa
namespace Go.Proofs.Ytbioondlmgolkaa
open Go.RowKit Go.Shelf

theorem and_low (a : Nat) (ha : a < 1048576) : bits .and .i64 (a : Int) 4294967295 = (a : Int) :=
  wrap_back a (BitVec.ofInt 64 (a : Int) &&& BitVec.ofInt 64 (4294967295 : Int)) (by
    have h2 : (BitVec.ofInt 64 (4294967295 : Int)).toNat = 4294967295 := by decide
    rw [BitVec.toNat_and, ofInt_small a ha, h2]
    have m : ∀ y, y &&& 4294967295 = y % 4294967296 := fun y => Nat.and_two_pow_sub_one_eq_mod y 32
    rw [m]; omega) ha
def sumN (h : Nat → Nat) : Nat → Nat
  | 0 => 0
  | k + 1 => sumN h k + h k
theorem sumN_le {h : Nat → Nat} {c : Nat} (hc : ∀ j, h j ≤ c) : ∀ n, sumN h n ≤ n * c
  | 0 => by simp [sumN]
  | n + 1 => by
    have h1 := sumN_le hc n
    have h2 := hc n
    unfold sumN
    rw [Nat.add_mul]; omega
set_option maxRecDepth 100000 in
set_option maxHeartbeats 2000000 in
theorem plus_any (p : Option Addr) (n c : Nat) (h : Nat → Nat) (w : World) (hn : n ≤ 20) (hs : ∀ j, h j ≤ 1000) (hS : SrcI w p n (fun j => (h j : Int))) :
    Calls Try.prog 63 #[.agg #[.int .i64 0, .int .i64 0], .slice p n c] w fun e w' => e = .returned (.agg #[.int .i64 0, .int .i64 (sumN h n : Int)]) ∧ Below w.heap.size w w' := by
  have HS := Lib.hid hS
  have HH := Lib.hid hs
  clear hS hs
  go_enter Try.func63, Try.ntmps63
  have HX0 : Hid (BoxN ((w.alloc (.cells #[.int .i64 0, .int .i64 0] 133)).alloc (.cells #[.int .i64 0, .int .i64 0] 133)) w.heap.size 133 #[.int .i64 0, .int .i64 0]) := (BoxN.new rfl).alloc _
  have HY0 : Hid (BoxN ((w.alloc (.cells #[.int .i64 0, .int .i64 0] 133)).alloc (.cells #[.int .i64 0, .int .i64 0] 133)) (w.heap.size + 1) 133 #[.int .i64 0, .int .i64 0]) := BoxN.new (by simp)
  have HB0 : Hid (Below w.heap.size w ((w.alloc (.cells #[.int .i64 0, .int .i64 0] 133)).alloc (.cells #[.int .i64 0, .int .i64 0] 133))) := ((Below.refl _ _).alloc (Nat.le_refl _) _).alloc (by simp) _
  go_upto_region 2 with (fail)
  generalize ((w.alloc (.cells #[.int .i64 0, .int .i64 0] 133)).alloc (.cells #[.int .i64 0, .int .i64 0] 133)) = X at *
  obtain ⟨b1, hb1⟩ : ∃ b1, Hid (b1 = w.heap.size) := ⟨_, rfl⟩
  obtain ⟨b2, hb2⟩ : ∃ b2, Hid (b2 = w.heap.size + 1) := ⟨_, rfl⟩
  rw [← hb2.out] at HY0 ⊢
  rw [← hb1.out] at HX0
  simp only [← hb1.out]
  have hne : b2 ≠ b1 := by rw [hb1.out, hb2.out]; omega
  have hlo : w.heap.size ≤ b1 := by rw [hb1.out]; exact Nat.le_refl _
  have hlo2 : w.heap.size ≤ b2 := by rw [hb2.out]; omega
  go_loopw [9] (fun s9 wr => ∃ i : Nat, i ≤ n ∧ s9 = .int .i64 (i : Int) ∧ Hid (BoxN wr b1 133 #[.int .i64 0, .int .i64 (sumN h i : Int)]) ∧ Hid (BoxN wr b2 133 #[.int .i64 0, .int .i64 0]) ∧ Hid (Below w.heap.size w wr)) (fun s9 _ => n - (intOf s9).toNat)
  case atStart => exact ⟨0, by omega, rfl, HX0, HY0, HB0⟩
  case round =>
    clear HX0 HY0 HB0
    obtain ⟨i, hi, rfl, hX, hY, hB⟩ := hrel
    have x0 := hX.out.cell 0
    have x1 := hX.out.cell 1
    have fx0 := hX.out.frozen 0
    have fx1 := hX.out.frozen 1
    have HSL := Lib.hid (sumN_le HH.out i)
    have hs20 : sumN h i ≤ 20000 := by have := HSL.out; omega
    by_cases hin : i < n
    · have g1 : (i : Int) < (n : Int) := by omega
      have g0 : (0 : Int) ≤ (i : Int) := by omega
      obtain ⟨b, o, rfl, hb, hc⟩ := (HS.out.below hB.out (Nat.le_refl _)) (by omega)
      have k1 : wr.cell? ⟨b, o + i, none⟩ = some (.int .i64 ((h i : Nat) : Int)) := hc i hin
      have hh := HH.out i
      have HSN : Hid (sumN h (i + 1) = sumN h i + h i) := rfl
      have ha := and_low (h i) (by omega)
      have hd : ((h i : Nat) : Int) / 4294967296 = 0 := by omega
      generalize h i = z at *
      generalize sumN h i = s at *
      clear hc
      have HX2 : Hid (BoxN ((wr.setCell ⟨b1, 0, none⟩ (.int .i64 0)).setCell ⟨b1, 1, none⟩ (.int .i64 ((s : Int) + (z : Int)))) b1 133 #[.int .i64 0, .int .i64 (sumN h (i + 1) : Int)]) := by
        rw [HSN.out]
        have := (hX.out.set 0 (.int .i64 0)).set 1 (.int .i64 ((s : Int) + (z : Int)))
        unfold Hid
        simpa using this
      have HY2 : Hid (BoxN ((wr.setCell ⟨b1, 0, none⟩ (.int .i64 0)).setCell ⟨b1, 1, none⟩ (.int .i64 ((s : Int) + (z : Int)))) b2 133 #[.int .i64 0, .int .i64 0]) := (hY.out.other (a := ⟨b1, 0, none⟩) hne _).other (a := ⟨b1, 1, none⟩) hne _
      have HB2 : Hid (Below w.heap.size w ((wr.setCell ⟨b1, 0, none⟩ (.int .i64 0)).setCell ⟨b1, 1, none⟩ (.int .i64 ((s : Int) + (z : Int))))) := (hB.out.setCell (p := ⟨b1, 0, none⟩) hlo _).setCell (p := ⟨b1, 1, none⟩) hlo _
      clear hX hY hB
      go_wp2
      exact ⟨⟨i + 1, by omega, int_eq (by omega), HX2, HY2, HB2⟩, by simp [intOf]; omega⟩
    · have g1 : ¬ (i : Int) < (n : Int) := by omega
      obtain rfl : n = i := by omega
      have ha := and_low (sumN h n) (by omega)
      have hd : ((sumN h n : Nat) : Int) / 4294967296 = 0 := by omega
      have y0 := hY.out.cell 0
      have y1 := hY.out.cell 1
      have fy0 := hY.out.frozen 0
      have fy1 := hY.out.frozen 1
      have HZ := Lib.hid ((((hY.out.other (a := ⟨b1, 0, none⟩) hne (.int .i64 0)).other (a := ⟨b1, 1, none⟩) hne (.int .i64 ((sumN h n : Nat) : Int))).set 0 (.int .i64 0)).set 1 (.int .i64 ((sumN h n : Nat) : Int)))
      have HBZ := Lib.hid ((((hB.out.setCell (p := ⟨b1, 0, none⟩) hlo (.int .i64 0)).setCell (p := ⟨b1, 1, none⟩) hlo (.int .i64 ((sumN h n : Nat) : Int))).setCell (p := ⟨b2, 0, none⟩) hlo2 (.int .i64 0)).setCell (p := ⟨b2, 1, none⟩) hlo2 (.int .i64 ((sumN h n : Nat) : Int)))
      have r0 := HZ.out.cell 0
      have r2 := (((hY.out.other (a := ⟨b1, 0, none⟩) hne (.int .i64 0)).other (a := ⟨b1, 1, none⟩) hne (.int .i64 ((sumN h n : Nat) : Int))).set 0 (.int .i64 0)).cell 0
      have r1 := HZ.out.cell 1
      clear hX hY hB
      go_wp2
      refine bodyPost_ret (v := .agg #[.int .i64 0, .int .i64 ((sumN h n : Nat) : Int)]) (by simp [results, Try.f63, go_sem, r0, r1, r2]) rfl ?_
      exact ⟨rfl, HBZ.out⟩
end Go.Proofs.Ytbioondlmgolkaa
namespace Go.Proofs.Ytbioondlmgolkaa
open Go.RowKit Go.Shelf

theorem guardW : Try.prog.eqGuardType Try.prog.depth 133 = false := by kernel_rfl
@[go_sem] theorem eqW (a b c d : Int) (w : World) : (Op.equalIn 10000 133 (.agg #[.int .i64 a, .int .i64 b]) (.agg #[.int .i64 c, .int .i64 d])).run Try.prog w = .ok (a == c && b == d) w := by
  rw [show (10000 : Nat) = 9999 + 1 from rfl]
  rw [run_equalIn_agg _ _ _ _ _ (by kernel_rfl) (by kernel_rfl)]
  rw [show (Try.prog.fieldsOf 133).toList = [{ name := "high", type := 2, offset := 0, embedded := false, tag := "", pkgPath := "forcola/score", byteOffset := 0 }, { name := "low", type := 2, offset := 1, embedded := false, tag := "", pkgPath := "forcola/score", byteOffset := 8 }] from by kernel_rfl]
  have e3 : Try.prog.underlying 2 = some (.int .i64) := by kernel_rfl
  have p3 : ∀ (x y : Value) w, (Go.part 2 #[x, y] 0).run Try.prog w = .ok x w := fun _ _ _ => by kernel_rfl
  have p4 : ∀ (x y : Value) w, (Go.part 2 #[x, y] 1).run Try.prog w = .ok y w := fun _ _ _ => by kernel_rfl
  have q3 : ∀ (a c : Int) w, (Op.equalIn 9999 2 (.int .i64 a) (.int .i64 c)).run Try.prog w = .ok (a == c) w := fun a c w => run_equalIn_int w 9998 2 _ _ _ _ e3
  simp only [Op.eqFields, Sem.run_bind, Sem.run_ite]
  rw [if_pos (by decide)]
  rw [p3, Result.andThen_ok, p3, Result.andThen_ok, q3, Result.andThen_ok]
  by_cases e : a = c
  · rw [if_neg (by simp [e]), if_pos (by decide), p4, Result.andThen_ok, p4, Result.andThen_ok, q3, Result.andThen_ok]
    by_cases e' : b = d
    · simp [e, e']
    · simp [e, e']
  · rw [if_pos (by simp [e])]; simp [e]
@[go_sem] theorem eqgW (op : BinOp) (x y : Operand) (xs ys : Array Value) (w : World) : (eqGuard op 133 x y (.agg xs) (.agg ys)).run Try.prog w = .ok () w := run_eqGuard_agg w op 133 x y xs ys guardW
set_option maxRecDepth 100000 in
theorem less_any (a b : Int) (w : World) : Calls Try.prog 66 #[.agg #[.int .i64 0, .int .i64 a], .agg #[.int .i64 0, .int .i64 b]] w fun e w' => e = .returned (.bool (decide (a < b))) ∧ Below w.heap.size w w' := by
  go_enter Try.func66, Try.ntmps66
  go_wp2
  go_ret
  exact ⟨rfl, ((Below.refl _ _).alloc (Nat.le_refl _) _).alloc (by simp) _⟩
theorem SrcI.same {w : World} {p : Option Addr} {m : Nat} {f f' : Nat → Int} (h : SrcI w p m f) (e : ∀ j, j < m → f j = f' j) : SrcI w p m f' := fun h0 => by
  obtain ⟨b, o, e1, h1, h2⟩ := h h0
  exact ⟨b, o, e1, h1, fun j hj => by rw [h2 j hj, e j hj]⟩
theorem srcI_one (W : World) (z : Int) : SrcI (W.alloc (.cells #[.int .i64 z] 3)) (some ⟨W.heap.size, 0, none⟩) 1 (fun _ => z) := fun _ => ⟨_, 0, rfl, by simp, fun j hj => by
  obtain rfl : j = 0 := by omega
  rw [Nat.zero_add, (BoxN.new (W := W) (t := 3) (vs := #[.int .i64 z]) rfl).cell]; rfl⟩
theorem sum_map (h : Nat → Nat) : ∀ k, ((List.range k).map h).sum = sumN h k
  | 0 => rfl
  | k + 1 => by rw [List.range_succ, List.map_append, List.sum_append, sum_map h k]; simp [sumN]
theorem half_of (k : Nat) (hk : k ≤ 12) : ∃ v : Nat, v ≤ 66 ∧ k * (k - 1) = 2 * v ∧ (k : Int) * ((k : Int) - 1) = ((2 * v : Nat) : Int) ∧ Int.tdiv ((2 * v : Nat) : Int) 2 = (v : Int) := by
  rcases (by omega : k = 0 ∨ k = 1 ∨ k = 2 ∨ k = 3 ∨ k = 4 ∨ k = 5 ∨ k = 6 ∨ k = 7 ∨ k = 8 ∨ k = 9 ∨ k = 10 ∨ k = 11 ∨ k = 12) with e | e | e | e | e | e | e | e | e | e | e | e | e <;> subst e
  · exact ⟨0, by decide, rfl, rfl, rfl⟩
  · exact ⟨0, by decide, rfl, rfl, rfl⟩
  · exact ⟨1, by decide, rfl, rfl, rfl⟩
  · exact ⟨3, by decide, rfl, rfl, rfl⟩
  · exact ⟨6, by decide, rfl, rfl, rfl⟩
  · exact ⟨10, by decide, rfl, rfl, rfl⟩
  · exact ⟨15, by decide, rfl, rfl, rfl⟩
  · exact ⟨21, by decide, rfl, rfl, rfl⟩
  · exact ⟨28, by decide, rfl, rfl, rfl⟩
  · exact ⟨36, by decide, rfl, rfl, rfl⟩
  · exact ⟨45, by decide, rfl, rfl, rfl⟩
  · exact ⟨55, by decide, rfl, rfl, rfl⟩
  · exact ⟨66, by decide, rfl, rfl, rfl⟩
/-- a tournament's scores -/
structure ScP (n : Nat) (cs : Nat → Nat) : Prop where
  le : ∀ j, cs j ≤ 12
  all : 2 * sumN cs n = n * (n - 1)
  low : ∀ (k : Nat) (ys : List Nat), k ≤ n → ys.Perm ((List.range n).map cs) → k * (k - 1) ≤ 2 * (ys.take k).sum
theorem ScP.sorted {n k : Nat} {cs : Nat → Nat} {f : Nat → Int} (H : ScP n cs) (hk : k ≤ n) (hp : (vals f n).Perm (vals (fun j => (cs j : Int)) n)) : ∃ h : Nat → Nat, (∀ j, h j ≤ 12) ∧ (∀ j, j < n → f j = (h j : Int)) ∧ k * (k - 1) ≤ 2 * sumN h k := by
  have hm : ∀ j, j < n → ∃ i, f j = (cs i : Int) := fun j hj => by
    have h1 : f j ∈ vals f n := List.mem_map.2 ⟨j, List.mem_range.2 hj, rfl⟩
    obtain ⟨i, _, e⟩ := List.mem_map.1 (hp.mem_iff.1 h1)
    exact ⟨i, e.symm⟩
  refine ⟨fun j => if j < n then (f j).toNat else 0, fun j => ?_, fun j hj => ?_, ?_⟩
  · dsimp only
    split
    · rename_i hj
      obtain ⟨i, e⟩ := hm j hj
      rw [e]; have := H.le i; omega
    · omega
  · obtain ⟨i, e⟩ := hm j hj
    show f j = (((if j < n then (f j).toNat else 0 : Nat)) : Int)
    rw [if_pos hj, e]; rfl
  · have h1 : ((List.range n).map fun j => (if j < n then (f j).toNat else 0 : Nat)).Perm ((List.range n).map cs) := by
      have h2 := hp.map Int.toNat
      unfold vals at h2
      rw [List.map_map, List.map_map] at h2
      have e1 : (List.range n).map (fun j => (if j < n then (f j).toNat else 0 : Nat)) = (List.range n).map (Int.toNat ∘ f) := List.map_congr_left fun j hj => by rw [if_pos (List.mem_range.1 hj)]; rfl
      rw [e1]
      exact h2
    have h3 := H.low k _ hk h1
    rw [← sum_map]
    rw [← List.map_take, List.take_range, Nat.min_eq_left hk] at h3
    exact h3
set_option maxRecDepth 100000 in
set_option maxHeartbeats 2000000 in
theorem isShort_no (p : Option Addr) (n c k : Nat) (cs : Nat → Nat) (w : World) (hn1 : 1 ≤ n) (hn12 : n ≤ 12) (hk : k ≤ n) (hc : n ≤ c) (H : ScP n cs) (hS : SrcI w p n (fun j => (cs j : Int))) :
    Calls Try.prog 31 #[.slice p n c, .int .i64 (k : Int)] w fun e w' => e = .returned (.bool false) ∧ Below w.heap.size w w' := by
  obtain ⟨vn, hv1, hv2, hv3, hv4⟩ := half_of n hn12
  have HV := Lib.hid hv2
  have HPL := Lib.hid (plus_any p n c cs w (by omega) (fun j => by have := H.le j; omega) hS)
  have HSO := Lib.hid (sorted_any p n c (fun j => (cs j : Int)) w hn1 (by omega) hc hS)
  have HH := Lib.hid H
  have HALL : Hid (sumN cs n = vn) := by have := H.all; unfold Hid; omega
  rw [HALL.out] at HPL
  clear hS H hv2
  by_cases hk0 : k = 0
  · have q0 : ((k : Int) == 0) = true := by simp [hk0]
    clear HSO
    go_enter Try.func31, Try.ntmps31
    have HPV := Lib.hid (fun W => plus_any (some ⟨W.heap.size, 0, none⟩) 1 1 (fun _ => vn) (W.alloc (.cells #[.int .i64 (vn : Int)] 3)) (by decide) (fun _ => by omega) (srcI_one W (vn : Int)))
    have HSZ : Hid (∀ W : World, Below W.heap.size W (W.alloc (.cells #[.int .i64 (vn : Int)] 3))) := fun W => (Below.refl _ _).alloc (Nat.le_refl _) _
    have hs1 : sumN (fun _ => vn) 1 = vn := by simp [sumN]
    rw [hs1] at HPV
    clear hs1
    go_wp2_with (first
      | (go_at_call 63; with_reducible refine HPL.out.mono ?_; rintro e w1 ⟨rfl, hB1⟩; have HB1 := Lib.hid hB1; have HP2 := Lib.hid (HPV.out w1); clear HPL HPV hB1)
      | (go_at_call 63; with_reducible refine HP2.out.mono ?_; rintro e w2 ⟨rfl, hB2⟩; have HB2 := Lib.hid (HB1.out.trans (((HSZ.out w1).trans (hB2.mono (HSZ.out w1).size)).mono HB1.out.size)); clear hB2))
    go_ret
    exact ⟨by simp, HB2.out⟩
  · have q0 : ((k : Int) == 0) = false := by rw [beq_eq_false_iff_ne]; omega
    clear HPL hv3 hv4
    obtain ⟨vk, hu1, hu2, hu3, hu4⟩ := half_of k (by omega)
    have HU := Lib.hid hu2
    clear hu2
    have HPV := Lib.hid (fun W => plus_any (some ⟨W.heap.size, 0, none⟩) 1 1 (fun _ => vk) (W.alloc (.cells #[.int .i64 (vk : Int)] 3)) (by decide) (fun _ => by omega) (srcI_one W (vk : Int)))
    have HSZ : Hid (∀ W : World, Below W.heap.size W (W.alloc (.cells #[.int .i64 (vk : Int)] 3))) := fun W => (Below.refl _ _).alloc (Nat.le_refl _) _
    have hs1 : sumN (fun _ => vk) 1 = vk := by simp [sumN]
    rw [hs1] at HPV
    clear hs1
    have HLS := Lib.hid less_any
    go_enter Try.func31, Try.ntmps31
    go_wp2_with (first
      | (go_at_call 64; refine HSO.out.mono ?_; rintro e w1 ⟨⟨g, o, c', f, rfl, hq, hso, hpe⟩, hB1⟩; have HSRC := Lib.hid (hq.srcI (ivI_get f n)); have hfit := hq.fits; obtain ⟨h, hh1, hh2, hh3⟩ := HH.out.sorted hk hpe; have HP1 := Lib.hid (plus_any (some ⟨g, o, none⟩) k c' h w1 (by omega) (fun j => by have := hh1 j; omega) ((HSRC.out.take hk).same fun j hj => hh2 j (by omega))); have HGE : Hid (vk ≤ sumN h k) := (by have := HU.out; unfold Hid; omega); have HB1 := Lib.hid hB1; have hfc := hfit.1; clear hq hso hpe hB1 hh1 hh2 hh3 hfit HSO; generalize sumN h k = sk at *)
      | (go_at_call 63; with_reducible refine HP1.out.mono ?_; rintro e w2 ⟨rfl, hB2⟩; have HB2 := Lib.hid (HB1.out.trans (hB2.mono HB1.out.size)); have HP2 := Lib.hid (HPV.out w2); clear HP1 HPV hB2)
      | (go_at_call 63; with_reducible refine HP2.out.mono ?_; rintro e w3 ⟨rfl, hB3⟩; have HB3 := Lib.hid (HB2.out.trans (((HSZ.out w2).trans (hB3.mono (HSZ.out w2).size)).mono HB2.out.size)); clear hB3 HP2)
      | (go_at_call 66; refine (HLS.out _ _ _).mono ?_; rintro e w4 ⟨rfl, hB4⟩; have HB4 := Lib.hid (HB3.out.trans (hB4.mono HB3.out.size)); clear hB4))
    go_ret
    have hge := HGE.out
    exact ⟨by simp; omega, HB4.out⟩
set_option maxRecDepth 100000 in
set_option maxHeartbeats 2000000 in
theorem Short_no (p : Option Addr) (n c : Nat) (cs : Nat → Nat) (w : World) (hn1 : 1 ≤ n) (hn12 : n ≤ 12) (hc : n ≤ c) (H : ScP n cs) (hS : SrcI w p n (fun j => (cs j : Int))) :
    Calls Try.prog 10 #[.slice p n c] w fun e w' => e = .returned (.tuple #[.int .i64 0, .bool false, .int .i64 0]) ∧ Below w.heap.size w w' := by
  have HI := Lib.hid (fun k W (hk : k ≤ n) (hB : Below w.heap.size w W) => isShort_no p n c k cs W hn1 hn12 hk hc H (hS.below hB (Nat.le_refl _)))
  have HCK : Hid (∀ W, Calls Try.prog 30 #[.slice p n c, .int .i64 12] W fun e w' => e = .returned (.int .i64 0) ∧ w' = W) := fun W => by
    have g1 : ¬ (12 : Int) < (n : Int) := by omega
    have g2 : ((n : Int) == 0) = false := by rw [beq_eq_false_iff_ne]; omega
    go_enter Try.func30, Try.ntmps30
    go_wp2
    go_ret
    exact ⟨rfl, rfl⟩
  clear hS H
  go_enter Try.func10, Try.ntmps10
  go_upto_region 5 with (go_at_call 30; refine (HCK.out _).mono ?_; rintro e w4 ⟨rfl, hw4⟩; replace hw4 := hw4.symm; subst hw4)
  go_loopw [6] (fun s6 wr => ∃ k : Nat, k ≤ n + 1 ∧ s6 = .int .i64 (k : Int) ∧ Hid (Below w.heap.size w wr)) (fun s6 _ => n + 1 - (intOf s6).toNat)
  case atStart => exact ⟨0, by omega, rfl, Below.refl _ _⟩
  case round =>
    obtain ⟨k, hk, rfl, hB⟩ := hrel
    by_cases hkn : k ≤ n
    · have g1 : (k : Int) ≤ (n : Int) := by omega
      have HI1 := Lib.hid (HI.out k wr hkn hB.out)
      go_wp2_with (go_at_call 31; refine HI1.out.mono ?_; rintro e w5 ⟨rfl, hB5⟩; have HB5 := Lib.hid (hB.out.trans (hB5.mono hB.out.size)); clear hB5)
      exact ⟨⟨k + 1, by omega, int_eq (by omega), HB5⟩, by simp [intOf]; omega⟩
    · have g1 : ¬ (k : Int) ≤ (n : Int) := by omega
      go_wp2
      refine bodyPost_ret (v := .tuple #[.int .i64 0, .bool false, .int .i64 0]) (by simp [results, Try.f10, go_sem]) rfl ?_
      exact ⟨rfl, hB.out⟩
end Go.Proofs.Ytbioondlmgolkaa
namespace Go.Proofs.Ytbioondlmgolkaa
open Go.RowKit Go.Shelf

theorem szTo_bs (p : Nat → Bool) (n : Nat) : ∀ k, szTo (bs p n) k = cnt p (min k n)
  | 0 => by rw [Nat.zero_min]; rfl
  | k + 1 => by
    show szTo (bs p n) k + tb (bs p n) k = _
    rw [szTo_bs p n k]
    unfold tb
    rw [bs_bit]
    by_cases h : k < n
    · rw [Nat.min_eq_left (by omega), Nat.min_eq_left (by omega)]
      show _ = cnt p k + (p k).toNat
      simp [h]
    · rw [Nat.min_eq_right (by omega), Nat.min_eq_right (by omega)]
      simp [h]
theorem size_bs {p : Nat → Bool} {n : Nat} (hn : n ≤ 64) : size (bs p n) = cnt p n := by
  unfold size
  rw [szTo_bs, Nat.min_eq_right hn]
theorem ScP.of {n : Nat} {t : Nat → Nat → Bool} (h : TourP n t) (hn : n ≤ 12) : ScP n (fun i => if i < n then cnt (t i) n else 0) where
  le := fun j => by
    split
    · exact Nat.le_trans (cnt_le _ _) hn
    · omega
  all := by
    have h1 := landau_all h
    rw [← sum_map, ← h1]
    congr 2
    exact List.map_congr_left fun i hi => by rw [if_pos (List.mem_range.1 hi)]
  low := fun k ys hk hp => landau_take h (hp.trans (by rw [List.map_congr_left (g := fun i => cnt (t i) n) fun i hi => by rw [if_pos (List.mem_range.1 hi)]])) hk
set_option maxRecDepth 100000 in
set_option maxHeartbeats 2000000 in
theorem scores_any (B n : Nat) (t : Nat → Nat → Bool) (w : World) (hn1 : 1 ≤ n) (hn : n ≤ 12) (hR : RegAt w B n t) :
    Calls Try.prog 29 #[.pointer (some ⟨B, 0, none⟩)] w fun e w' => (∃ p c, e = .returned (.slice p n c) ∧ QRow w' w.heap.size 3 1 (.slice p n c) n (ivI (fun i => ((cnt (t i) n : Nat) : Int)) n)) ∧ Below w.heap.size w w' := by
  obtain ⟨i0, hi0, hz0, hz1, hz2⟩ := info_parts info3
  have HR := Lib.hid hR
  have HRL : Hid (B < w.heap.size) := hR.lt
  have c0 := hR.cn
  have g12 : (n : Int) ≤ 12 := by omega
  have g0 : (0 : Int) ≤ (n : Int) := by omega
  clear hR
  go_enter Try.func29, Try.ntmps29
  go_wp2
  go_quiet (fail)
  have HRA : Hid (RegAt (w.drewN nq) B n t) := HR.out.dr nq
  have HB0 := Lib.hid (below_dr (Below.refl w.heap.size w) nq)
  clear c0 HR
  generalize w.drewN nq = wA at *
  go_upto_region 3 with (fail)
  go_loopw [3, 15] (fun s3 s15 wr => ∃ i : Nat, i ≤ n ∧ s15 = .int .i64 (i : Int) ∧ Hid (QRow wr w.heap.size 3 1 s3 i (ivI (fun i => ((cnt (t i) n : Nat) : Int)) i)) ∧ Hid (Below w.heap.size w wr) ∧ Hid (RegAt wr B n t)) (fun _ s15 _ => n - (intOf s15).toNat)
  case atStart => exact ⟨0, by omega, rfl, QRow.nil _ _ _ _, HB0, HRA⟩
  case round =>
    clear HB0 HRA
    obtain ⟨i, hi, rfl, hQ, hB, hR⟩ := hrel
    obtain ⟨p3, c3, rfl⟩ := hQ.out.isSlice
    have hwr : w.heap.size ≤ wr.heap.size := hB.out.size
    by_cases hin : i < n
    · have g1 : (i : Int) < (n : Int) := by omega
      have g2 : (0 : Int) ≤ (i : Int) := by omega
      have k1 := hR.out.cb i hin
      have hsm : bs (t i) n < 4096 := Nat.lt_of_lt_of_le (bs_lt _ n) (show 2 ^ n ≤ 2 ^ 12 from Nat.pow_le_pow_right (by decide) hn)
      have HON := Lib.hid (ones (bs (t i) n) wr (by unfold Hid; omega))
      rw [size_bs (by omega)] at HON
      have hu : IntKind.u64.wrap ((bs (t i) n : Nat) : Int) = ((bs (t i) n : Nat) : Int) := u64_same _ (by omega)
      have HSN : Hid (ivI (fun i => ((cnt (t i) n : Nat) : Int)) (i + 1) = ivI (fun i => ((cnt (t i) n : Nat) : Int)) i ++ [.int .i64 ((cnt (t i) n : Nat) : Int)]) := by unfold Hid ivI; rw [List.range_succ, List.map_append]; rfl
      generalize cnt (t i) n = cc at *
      generalize bs (t i) n = s at *
      have HQA := Lib.hid (hQ.out.alloc (.cells #[.int .i64 (cc : Int)] 3))
      have HLT := Lib.hid (fun kk (e : _ = some kk) => (hQ.out.lt kk e))
      have HRB := Lib.hid (hR.out)
      have HBl := Lib.hid HRL.out
      have HA1 : Hid (RegAt (wr.alloc (.cells #[.int .i64 (cc : Int)] 3)) B n t) := hR.out.below ((Below.refl wr.heap.size wr).alloc (Nat.le_refl _) _) hR.out.lt
      clear hR
      go_wp2_with (first
        | (go_at_call 62; refine HON.out.mono ?_; rintro e w4 ⟨rfl, hw4⟩; replace hw4 := hw4.symm; subst hw4)
        | (at_builtin; go_must (refine wpList_append_q _ rfl (.tmp 19) (.tmp 23) 34 rfl w.heap.size 3 i0 (.int .i64 0) 1 8 Try.underlying34 hi0 hz0 hz1 hz2 rfl (by decide) _ i (ivI (fun i => ((cnt (t i) n : Nat) : Int)) i) rfl HQA.out ⟨_, 0, none⟩ 1 1 [.int .i64 (cc : Int)] rfl rfl (cells_new1 _ _ _) (by simp [Value.oneCell']) (by unfold maxLen; omega) (by omega) (by simp; omega) ?_); intro v7 w7 hq7 hg7 ho7; have HQ7 : Hid (QRow w7 w.heap.size 3 1 v7 (i + 1) (ivI (fun i => ((cnt (t i) n : Nat) : Int)) (i + 1))) := (by rw [HSN.out]; exact hq7); have HB7 : Hid (Below w.heap.size w w7) := Below.grown (hB.out.alloc hwr _) hg7 (by simp; omega) (fun kk e => (HLT.out kk e).1); have HR7 : Hid (RegAt w7 B n t) := HA1.out.block (hg7.block B HA1.out.lt (fun e => by have := (HLT.out B e.symm).1; have := HRL.out; omega)) hg7.size; clear hq7 hg7 ho7))
      exact ⟨⟨i + 1, by omega, int_eq (by omega), HQ7, HB7, HR7⟩, by simp [intOf]; omega⟩
    · have g1 : ¬ (i : Int) < (n : Int) := by omega
      obtain rfl : n = i := by omega
      go_wp2
      go_ret
      exact ⟨⟨p3, c3, rfl, hQ.out⟩, hB.out⟩
set_option maxRecDepth 100000 in
theorem Scores_ok (la : Option Addr) (n lc : Nat) (t : Nat → Nat → Bool) (w : World) (hn1 : 1 ≤ n) (hn12 : n ≤ 12) (hP : TourP n t) (hT : TblI w la n (fun _ => n) t) :
    Calls Try.prog 9 #[.slice la n lc] w fun e w' => (∃ p c, e = .returned (.tuple #[.slice p n c, .int .i64 0]) ∧ QRow w' w.heap.size 3 1 (.slice p n c) n (ivI (fun i => ((cnt (t i) n : Nat) : Int)) n)) ∧ Below w.heap.size w w' := by
  have HO := Lib.hid (sopen_ok la n lc t w hn1 hn12 hP hT)
  have HS := Lib.hid (fun B W h => scores_any B n t W hn1 hn12 h)
  clear hP hT
  go_enter Try.func9, Try.ntmps9
  go_wp2_with (first
    | (go_at_call 28; refine HO.out.mono ?_; rintro e w1 ⟨B, rfl, hwB, hreg, hB1⟩; have HS1 := Lib.hid (HS.out B w1 hreg); have HB1 := Lib.hid hB1; clear hreg hB1 hwB)
    | (go_at_call 29; refine HS1.out.mono ?_; rintro e w2 ⟨⟨p, c, rfl, hq⟩, hB2⟩; have HQ := Lib.hid (hq.mono HB1.out.size); have HB2 := Lib.hid (HB1.out.trans (hB2.mono HB1.out.size)); clear hq hB2))
  refine bodyPost_ret (v := .tuple #[.slice p n c, .int .i64 0]) (by simp [results, Try.f9, go_sem]) rfl ?_
  exact ⟨⟨p, c, rfl, HQ.out⟩, HB2.out⟩
end Go.Proofs.Ytbioondlmgolkaa
namespace Go.Proofs.Ytbioondlmgolkaa
open Go.RowKit Go.Shelf

theorem ivI_congr {f g : Nat → Int} {m : Nat} (h : ∀ j, j < m → f j = g j) : ivI f m = ivI g m := by
  unfold ivI
  exact List.map_congr_left fun j hj => by rw [h j (List.mem_range.1 hj)]
theorem ivI_snoc (f : Nat → Int) (m : Nat) (z : Int) : ivI f m ++ [.int .i64 z] = ivI (fun j => if j = m then z else f j) (m + 1) := by
  unfold ivI
  rw [List.range_succ, List.map_append]
  congr 1
  · exact List.map_congr_left fun j hj => by
      show _ = Value.int .i64 (if j = m then z else f j)
      rw [if_neg (by have := List.mem_range.1 hj; omega)]
  · simp
end Go.Proofs.Ytbioondlmgolkaa
namespace Go.Proofs.Ytbioondlmgolkaa

/-- how many of the first -/
def cn (p : Nat → Bool) : Nat → Nat
  | 0 => 0
  | n + 1 => cn p n + if p n then 1 else 0
def key (n : Nat) (r : Nat → Nat → Bool) (x : Nat) : Nat := n + cn (fun i => r i x) n - cn (fun u => r x u) n
end Go.Proofs.Ytbioondlmgolkaa
namespace Go.Proofs.Ytbioondlmgolkaa
open Go.RowKit Go.Shelf

set_option maxRecDepth 100000 in
set_option maxHeartbeats 1000000 in
theorem Check_any (la : Option Addr) (n lc : Nat) (ln : Nat → Nat) (r : Nat → Nat → Bool) (w : World) (hn : n ≤ 1099511627776) (hT : TblI w la n ln r) :
    Calls Try.prog 21 #[.slice la n lc] w fun e w' => ChkA n ln r e ∧ Below w.heap.size w w' := by
  have HC := Lib.hid (open_any la n lc ln r _ hn hT)
  clear hT
  go_enter Try.func21, Try.ntmps21
  go_upto_region 2 with (go_at_call 47; refine HC.out.mono ?_; rintro e w1 ⟨ha, hB1⟩; have HB1 := Lib.hid hB1; clear hB1; rcases ha with ⟨rfl, hno⟩ | ⟨B, rfl, hok, hB, hO⟩)
  · have HNO := Lib.hid hno
    clear hno
    go_wp2
    go_ret
    exact ⟨.inr ⟨rfl, HNO.out⟩, HB1.out⟩
  · have HOK := Lib.hid hok
    clear hok hB hO
    go_wp2
    go_ret
    exact ⟨.inl ⟨rfl, HOK.out⟩, HB1.out⟩
end Go.Proofs.Ytbioondlmgolkaa
namespace Go.Proofs.Ytbioondlmgolkaa
open Go.RowKit Go.Shelf
attribute [local go_sem] Oper.semAt_some
/-- overlapping elements have the same before and after them -/
def Weak (n : Nat) (r : Nat → Nat → Bool) : Prop := ∀ x y, x < n → y < n → Ovl r x y → bef n r x = bef n r y ∧ aft n r x = aft n r y
def SameP {n : Nat} {r : Nat → Nat → Bool} (pre : List (OvX n r)) : Prop := ∀ z ∈ pre, bef n r z.1.1 = bef n r z.1.2 ∧ aft n r z.1.1 = aft n r z.1.2
abbrev ExV (ra rb : Nat) (k : Nat) : Prop := k = ra ∨ k = rb
/-- what holds between two rounds -/
structure V3 (w W : World) (ra rb ob B n : Nat) (r : Nat → Nat → Bool) : Prop where
  bl : Below w.heap.size w W
  oa : BoxN W ra 34 #[.slice none 0 0]
  o2 : BoxN W rb 25 #[.int .i64 0]
  ob : Boxed W ob 90 (.pointer (some ⟨B, 0, none⟩))
  or : OrdAt W B n r
theorem V3.own {w A C : World} {ra rb ob B n K : Nat} {r : Nat → Nat → Bool} (hw : w.heap.size ≤ K) (ha : ra < K) (hb : rb < K) (ho : ob < K) (hB : B < K) (h : V3 w A ra rb ob B n r) {row : Option Nat} (hg : A.grownBy C row) (hr : ∀ k, row = some k → K ≤ k) : V3 w C ra rb ob B n r := by
  have hne : ∀ {k}, k < K → some k ≠ row := fun hk e => by have := hr _ e.symm; omega
  have hBl : Below w.heap.size A C := ⟨hg.os, hg.tape, hg.output, hg.size, fun k hk => hg.block k (Nat.lt_of_lt_of_le hk h.bl.size) (hne (by omega))⟩
  have hb2 : C.heap[B]? = A.heap[B]? := hg.block B h.or.lt (hne hB)
  exact ⟨h.bl.trans hBl, h.oa.kept hg (hne ha), h.o2.kept hg (hne hb), h.ob.kept hg (hne ho), ⟨Nat.lt_of_lt_of_le h.or.lt hg.size, (World.cell?_of_block hb2).trans h.or.cn, fun j hj => (World.cell?_of_block hb2).trans (h.or.cb j hj), fun j hj => (World.cell?_of_block hb2).trans (h.or.ca j hj)⟩⟩
theorem V3.dr {w A : World} {ra rb ob B n : Nat} {r : Nat → Nat → Bool} (h : V3 w A ra rb ob B n r) (q : Nat) : V3 w (A.drewN q) ra rb ob B n r := ⟨below_dr h.bl q, h.oa, h.o2, h.ob, h.or.dr q⟩
theorem kfV {X C : World} {ra rb K : Nat} (ha : ra < K) (hb : rb < K) (h : Ag (ExV ra rb) X C) : KeepsFrom K X C := KeepsFrom.of_ag h (fun k o hk _ _ e => by rcases e with e | e <;> omega)
theorem koV {X C : World} {ra rb cb B n : Nat} {r : Nat → Nat → Bool} (h1 : rb < B) (h2 : ra < B) (h3 : rb < cb) (h4 : ra < cb) (h : Ag (ExV ra rb) X C) : KeepsOv cb B n r X C := fun hI => hI.block (h.block B hI.1.lt (fun e => by rcases e with e | e <;> omega)) (h.block _ hI.2.2 (fun e => by rcases e with e | e <;> omega)) h.size
/-- when a pair has been found -/
def V3x (w W : World) (ra rb n : Nat) (r : Nat → Nat → Bool) : Prop := ¬ Weak n r ∧ Below w.heap.size w W ∧ BoxN W ra 34 #[.slice none 0 0] ∧ BoxN W rb 25 #[.int .i64 4]
theorem V3x.own {w A C : World} {ra rb n K : Nat} {r : Nat → Nat → Bool} (hw : w.heap.size ≤ K) (ha : ra < K) (hb : rb < K) (h : V3x w A ra rb n r) {row : Option Nat} (hg : A.grownBy C row) (hr : ∀ k, row = some k → K ≤ k) : V3x w C ra rb n r := by
  have hne : ∀ {k}, k < K → some k ≠ row := fun hk e => by have := hr _ e.symm; omega
  obtain ⟨h1, h2, h3, h4⟩ := h
  have hBl : Below w.heap.size A C := ⟨hg.os, hg.tape, hg.output, hg.size, fun k hk => hg.block k (Nat.lt_of_lt_of_le hk h2.size) (hne (by omega))⟩
  exact ⟨h1, h2.trans hBl, h3.kept hg (hne ha), h4.kept hg (hne hb)⟩
/-- what Levels answers -/
def LevA (n : Nat) (ln : Nat → Nat) (r : Nat → Nat → Bool) (base : Nat) (e : Ending) (w' : World) : Prop :=
  (e = .returned (.tuple #[.slice none 0 0, .int .i64 100]) ∧ ¬ TabOK n ln r) ∨
  (e = .returned (.tuple #[.slice none 0 0, .int .i64 4]) ∧ TabOK n ln r ∧ ¬ Weak n r) ∨
  (∃ v L, e = .returned (.tuple #[v, .int .i64 0]) ∧ TabOK n ln r ∧ Weak n r ∧ SetsL n r L ∧ QRow w' base 3 1 v n (ivI (la (canonPs n r L)) n))
set_option maxRecDepth 100000 in
set_option maxHeartbeats 4000000 in
theorem Levels_in (ta : Option Addr) (n lc : Nat) (ln : Nat → Nat) (r : Nat → Nat → Bool) (w : World) (hok : TabOK n ln r) (hT : TblI w ta n ln r) :
    CallsIn Fence.wide 26 Try.prog 23 #[.slice ta n lc] w fun e w' => LevA n ln r w.heap.size e w' ∧ Below w.heap.size w w' := by
  have HB0 : Hid (Below w.heap.size w (w.alloc (.cells #[.slice none 0 0] 34))) := (Below.refl _ _).alloc (Nat.le_refl _) _
  have HX0 : Hid (BoxN (w.alloc (.cells #[.slice none 0 0] 34)) w.heap.size 34 #[.slice none 0 0]) := BoxN.new rfl
  have HOK := Lib.hid hok
  have HT := Lib.hid (hT.below HB0.out (Nat.le_refl _))
  clear hT hok
  obtain ⟨X, hX⟩ : ∃ X, Hid (X = w.alloc (.cells #[.slice none 0 0] 34)) := ⟨_, rfl⟩
  rw [← hX.out] at HB0 HX0 HT
  have hsX := HX0.out.lt
  have HB1 : Hid (Below X.heap.size X (X.alloc (.cells #[.int .i64 0] 25))) := (Below.refl _ _).alloc (Nat.le_refl _) _
  have HX1 : Hid (BoxN (X.alloc (.cells #[.int .i64 0] 25)) X.heap.size 25 #[.int .i64 0]) := BoxN.new rfl
  have HC := Lib.hid (open_any ta n lc ln r _ (by have := HOK.out.n12; omega) (HT.out.below HB1.out (Nat.le_refl _)))
  clear HT
  refine callsIn_of_wp_marks Try.func23 rfl trivial ?_ rfl
  simp only [Try.ntmps23, List.size_toArray, List.length_cons, List.length_nil, Nat.reduceAdd, Nat.reduceSub, Array.replicate_succ, Array.replicate_zero, List.push_toArray, List.append_toArray, List.nil_append, List.cons_append]
  refine wpIn_wide.2 ?_
  go_upto_region 1 with (fail)
  rw [← hX.out]
  have e1 : w.heap.size + 1 = X.heap.size := by rw [hX.out]; simp
  have HB2 := Lib.hid (HB0.out.trans (HB1.out.mono HB0.out.size))
  have HX2 := Lib.hid (HX0.out.below HB1.out hsX)
  have hY := HX1.out.lt
  have hY2 := HX2.out.lt
  simp only [e1]
  generalize X.alloc (.cells #[.int .i64 0] 25) = Y at *
  obtain ⟨rb, hbb⟩ : ∃ rb, Hid (rb = X.heap.size) := ⟨_, rfl⟩
  rw [← hbb.out] at HX1 hY ⊢
  obtain ⟨ra, hba⟩ : ∃ ra, Hid (ra = w.heap.size) := ⟨_, rfl⟩
  rw [← hba.out] at HX2 hY2 ⊢
  have hwY : w.heap.size ≤ Y.heap.size := HB2.out.size
  have HAB : Hid (ra < rb) := by rw [hba.out, hbb.out]; unfold Hid; omega
  have HLE : Hid (w.heap.size ≤ ra ∧ w.heap.size ≤ rb) := by rw [hba.out, hbb.out]; unfold Hid; omega
  clear HX0 HB0 HB1 e1
  go_upto_region 2 with (go_at_call 47; refine HC.out.mono ?_; rintro e w1 ⟨ha, hB1⟩; have HB3 := Lib.hid (HB2.out.trans (hB1.mono hwY)); have HXA := Lib.hid (HX2.out.below hB1 hY2); have HXB := Lib.hid (HX1.out.below hB1 hY); have hw1s := hB1.size; clear hB1; rcases ha with ⟨rfl, hno⟩ | ⟨B, rfl, hok, hB, hO⟩)
  · exact absurd HOK.out hno
  · have HO := Lib.hid hO
    have hw1 : w.heap.size ≤ w1.heap.size := HB3.out.size
    clear HC hO hok HX1 HX2
    have HV0 : Hid (V3 w (w1.alloc (.cells #[.pointer (some ⟨B, 0, none⟩)] 90)) ra rb w1.heap.size B n r) := ⟨HB3.out.alloc hw1 _, HXA.out.alloc _, HXB.out.alloc _, boxed_at rfl, HO.out.below ((Below.refl _ _).alloc (Nat.le_refl _) _) (Nat.le_refl _)⟩
    have hWs : (w1.alloc (.cells #[.pointer (some ⟨B, 0, none⟩)] 90)).heap.size = w1.heap.size + 1 := by simp
    generalize w1.alloc (.cells #[.pointer (some ⟨B, 0, none⟩)] 90) = W2 at *
    obtain ⟨ob, hob⟩ : ∃ ob, Hid (ob = w1.heap.size) := ⟨_, rfl⟩
    rw [← hob.out] at HV0 hWs ⊢
    have hBob : B < ob := by rw [hob.out]; exact HO.out.lt
    have hrbB : rb < B := by have := hY; omega
    have hraB : ra < B := by have := HAB.out; omega
    have c0 := HV0.out.ob.cell
    have HC70 := Lib.hid (overlaps_any B)
    go_wp2_with (go_at_call 51; refine (HC70.out _).mono ?_; rintro e w4 ⟨rfl, hw4⟩; subst hw4)
    have hV1 : V3 w (W2.alloc (.cells #[.pointer (some ⟨B, 0, none⟩)] 90)) ra rb ob B n r := ⟨HV0.out.bl.alloc HV0.out.bl.size _, HV0.out.oa.alloc _, HV0.out.o2.alloc _, HV0.out.ob.alloc _, HV0.out.or.below ((Below.refl _ _).alloc (Nat.le_refl _) _) (Nat.le_refl _)⟩
    have x4 : Boxed (W2.alloc (.cells #[.pointer (some ⟨B, 0, none⟩)] 90)) W2.heap.size 90 (.pointer (some ⟨B, 0, none⟩)) := boxed_at rfl
    have hUs : (W2.alloc (.cells #[.pointer (some ⟨B, 0, none⟩)] 90)).heap.size = W2.heap.size + 1 := by simp
    generalize W2.alloc (.cells #[.pointer (some ⟨B, 0, none⟩)] 90) = U at *
    have HV1 := Lib.hid hV1
    have HN := HOK.out.n12
    rw [hWs] at x4 hUs
    have hwK : w.heap.size ≤ U.heap.size := HV1.out.bl.size
    have HS : Hid (U.heap.size = ob + 1 + 1) := hUs
    clear hV1 HXA HXB HV0 c0 hUs
    refine (wpIn_wide (n := 26)).1 ?_
    refine rf_two (α := OvX n r) (u1 := fun x => .int .i64 (x.1.1 : Int)) (u2 := fun x => .int .i64 (x.1.2 : Int)) (by decide) (gf := 81) (lb := #[.pointer (some ⟨ob + 1, 0, none⟩)]) rfl (enters_of Try.func81 (by kernel_rfl) rfl)
      (ov_stops 25 (by decide) (ob + 1) B n r HN U ⟨HV1.out.or, x4.cell, x4.lt⟩) keepsOv_t (keepsOv_b (by rw [HS.out]; omega) HV1.out.or.lt) (fun W => KeepsOv.refl W) (by simp) (by simp) (by decide) (by decide)
      (fun pre W => V3 w W ra rb ob B n r ∧ Hid (SameP pre))
      (fun c pre W => c = .ret ∧ V3x w W ra rb n r) ?hI ?hIx ?h0 ?body ?done ?stop
    case hI =>
      intro pre A C row hs hg hr
      exact ⟨hs.1.own (K := U.heap.size) hwK (by rw [HS.out]; omega) (by rw [HS.out]; omega) (by rw [HS.out]; omega) (by rw [HS.out]; omega) hg (fun k e => (hr k e).1), hs.2⟩
    case hIx =>
      intro c pre A C row hs hg hr
      exact ⟨hs.1, hs.2.own (K := U.heap.size) hwK (by rw [HS.out]; omega) (by rw [HS.out]; omega) hg (fun k e => (hr k e).1)⟩
    case h0 => exact ⟨HV1.out, fun z hz => by cases hz⟩
    case body =>
      rintro lf pre x Z ⟨hV, hpre⟩ _
      simp only [List.setIfInBounds_toArray, List.set_cons_zero, List.set_cons_succ]
      obtain ⟨a, ha⟩ : ∃ a, x.1.1 = a := ⟨_, rfl⟩
      obtain ⟨d, hd⟩ : ∃ d, x.1.2 = d := ⟨_, rfl⟩
      have han : a < n := by rw [← ha]; exact x.2.1
      have hdn : d < n := by rw [← hd]; exact x.2.2.1
      have HOV : Hid (Ovl r a d) := by rw [← ha, ← hd]; exact x.2.2.2
      rw [ha, hd]
      have HXA := Lib.hid ha
      have HXD := Lib.hid hd
      clear ha hd
      have c0 := hV.ob.cell
      have HV := Lib.hid hV
      have l1 := hV.or.cb a han
      have l2 := hV.or.cb d hdn
      have l3 := hV.or.ca a han
      have l4 := hV.or.ca d hdn
      clear hV x4
      have ga : (a : Int) < 12 := by omega
      have ga0 : (0 : Int) ≤ (a : Int) := by omega
      have gd : (d : Int) < 12 := by omega
      have gd0 : (0 : Int) ≤ (d : Int) := by omega
      have HI : Hid (∀ z, z ∈ pre → bef n r z.1.1 = bef n r z.1.2 ∧ aft n r z.1.1 = aft n r z.1.2) := hpre.out
      obtain ⟨v1, hv1⟩ : ∃ v1, bef n r a = v1 := ⟨_, rfl⟩
      obtain ⟨v2, hv2⟩ : ∃ v2, bef n r d = v2 := ⟨_, rfl⟩
      obtain ⟨v3, hv3⟩ : ∃ v3, aft n r a = v3 := ⟨_, rfl⟩
      obtain ⟨v4, hv4⟩ : ∃ v4, aft n r d = v4 := ⟨_, rfl⟩
      have HWK : Hid (Weak n r → v1 = v2 ∧ v3 = v4) := fun hW => by
        have := hW a d han hdn HOV.out
        rw [hv1, hv2, hv3, hv4] at this; exact this
      have HSAME : Hid (v1 = v2 → v3 = v4 → bef n r a = bef n r d ∧ aft n r a = aft n r d) := fun h1 h2 => by rw [hv1, hv2, hv3, hv4]; exact ⟨h1, h2⟩
      rw [hv1] at l1
      rw [hv2] at l2
      rw [hv3] at l3
      rw [hv4] at l4
      clear hv1 hv2 hv3 hv4 hpre
      by_cases e1 : v1 = v2
      · have q1 : ((v1 : Int) != (v2 : Int)) = false := by rw [e1]; simp
        by_cases e2 : v3 = v4
        · have q2 : ((v3 : Int) != (v4 : Int)) = false := by rw [e2]; simp
          have HSM := Lib.hid (HSAME.out e1 e2)
          clear HSAME HWK e1 e2
          gi_wp2
          refine quietR_lit (by kernel_rfl) (by kernel_rfl) (by kernel_rfl) ?_
          repeat (gi_big_quiet_step (fail))
          refine wpQuietIn_nil ?_
          rintro _ ⟨nq, rfl⟩
          have HAX : Ag (ExV ra rb) Z (Z.drewN nq) := (Ag.refl _ Z).drewN nq
          have HAXH := Lib.hid HAX
          clear l1 l2 l3 l4 HAX
          gi_wp2
          refine ⟨kfV (by rw [HS.out]; omega) (by rw [HS.out]; omega) HAXH.out, koV hrbB hraB (by omega) (by omega) HAXH.out, HV.out.dr nq, fun z hz => ?_⟩
          rcases List.mem_append.1 hz with hz | hz
          · exact HI.out z hz
          · rw [List.mem_singleton] at hz
            subst hz
            rw [HXA.out, HXD.out]
            exact HSM.out
        · have q2 : ((v3 : Int) != (v4 : Int)) = true := by rw [bne_iff_ne]; omega
          have HNW : Hid (¬ Weak n r) := fun hW => e2 (HWK.out hW).2
          have hra : ra < Z.heap.size := HV.out.oa.lt
          have hrb : rb < Z.heap.size := HV.out.o2.lt
          gi_wp2
          refine quietR_lit (by kernel_rfl) (by kernel_rfl) (by kernel_rfl) ?_
          repeat (gi_big_quiet_step (fail))
          refine wpQuietIn_nil ?_
          rintro _ ⟨nq, rfl⟩
          have xa : BoxN (Z.drewN nq) ra 34 #[.slice none 0 0] := HV.out.oa
          have xb : BoxN (Z.drewN nq) rb 25 #[.int .i64 0] := HV.out.o2
          have HAX : Ag (ExV ra rb) Z (((Z.drewN nq).setCell ⟨ra, 0, none⟩ (.slice none 0 0)).setCell ⟨rb, 0, none⟩ (.int .i64 4)) := (((Ag.refl _ Z).drewN nq).set ⟨ra, 0, none⟩ _ (.inr (.inl rfl))).set ⟨rb, 0, none⟩ _ (.inr (.inr rfl))
          have HABn : ra ≠ rb := by have := HAB.out; omega
          have HABm : ¬ rb = ra := fun e => HABn e.symm
          have xa2 := xa.set 0 (.slice none 0 0)
          have xb2 := xb.other (a := ⟨ra, 0, none⟩) (fun e => HABn e.symm) (.slice none 0 0)
          have xa3 := xa2.other (a := ⟨rb, 0, none⟩) HABn (.int .i64 4)
          have xb3 := xb2.set 0 (.int .i64 4)
          have f1 := xa.frozen 0
          have f2 := xb2.frozen 0
          have k1 : (Z.drewN nq).cell? ⟨ra, 0, none⟩ = some (.slice none 0 0) := by rw [xa.cell]; rfl
          have k2 : ((Z.drewN nq).setCell ⟨ra, 0, none⟩ (.slice none 0 0)).cell? ⟨rb, 0, none⟩ = some (.int .i64 0) := by rw [xb2.cell]; rfl
          have XX := Lib.hid xa3
          have XY := Lib.hid xb3
          have HAXH := Lib.hid HAX
          clear l1 l2 l3 l4 xa xb xa2 xb2 xa3 xb3 HAX
          generalize Z.drewN nq = V at *
          gi_wp2
          refine ⟨kfV (by rw [HS.out]; omega) (by rw [HS.out]; omega) HAXH.out, rfl, HNW.out, HAXH.out.below HV.out.bl HV.out.bl.size (fun k hk e => by have h1 := HLE.out; rcases e with e | e <;> omega), XX.out, XY.out⟩
      · have q1 : ((v1 : Int) != (v2 : Int)) = true := by rw [bne_iff_ne]; omega
        have HNW : Hid (¬ Weak n r) := fun hW => e1 (HWK.out hW).1
        have hra : ra < Z.heap.size := HV.out.oa.lt
        have hrb : rb < Z.heap.size := HV.out.o2.lt
        gi_wp2
        refine quietR_lit (by kernel_rfl) (by kernel_rfl) (by kernel_rfl) ?_
        repeat (gi_big_quiet_step (fail))
        refine wpQuietIn_nil ?_
        rintro _ ⟨nq, rfl⟩
        have xa : BoxN (Z.drewN nq) ra 34 #[.slice none 0 0] := HV.out.oa
        have xb : BoxN (Z.drewN nq) rb 25 #[.int .i64 0] := HV.out.o2
        have HAX : Ag (ExV ra rb) Z (((Z.drewN nq).setCell ⟨ra, 0, none⟩ (.slice none 0 0)).setCell ⟨rb, 0, none⟩ (.int .i64 4)) := (((Ag.refl _ Z).drewN nq).set ⟨ra, 0, none⟩ _ (.inr (.inl rfl))).set ⟨rb, 0, none⟩ _ (.inr (.inr rfl))
        have HABn : ra ≠ rb := by have := HAB.out; omega
        have HABm : ¬ rb = ra := fun e => HABn e.symm
        have xa2 := xa.set 0 (.slice none 0 0)
        have xb2 := xb.other (a := ⟨ra, 0, none⟩) (fun e => HABn e.symm) (.slice none 0 0)
        have xa3 := xa2.other (a := ⟨rb, 0, none⟩) HABn (.int .i64 4)
        have xb3 := xb2.set 0 (.int .i64 4)
        have f1 := xa.frozen 0
        have f2 := xb2.frozen 0
        have k1 : (Z.drewN nq).cell? ⟨ra, 0, none⟩ = some (.slice none 0 0) := by rw [xa.cell]; rfl
        have k2 : ((Z.drewN nq).setCell ⟨ra, 0, none⟩ (.slice none 0 0)).cell? ⟨rb, 0, none⟩ = some (.int .i64 0) := by rw [xb2.cell]; rfl
        have XX := Lib.hid xa3
        have XY := Lib.hid xb3
        have HAXH := Lib.hid HAX
        clear l1 l2 l3 l4 xa xb xa2 xb2 xa3 xb3 HAX
        generalize Z.drewN nq = V at *
        gi_wp2
        refine ⟨kfV (by rw [HS.out]; omega) (by rw [HS.out]; omega) HAXH.out, rfl, HNW.out, HAXH.out.below HV.out.bl HV.out.bl.size (fun k hk e => by have h1 := HLE.out; rcases e with e | e <;> omega), XX.out, XY.out⟩
    case done =>
      rintro D xs W3 hD hall ⟨hV, hsame⟩ hK
      have HW : Hid (Weak n r) := fun x y hx hy ho => by
        obtain ⟨z, hz, e⟩ := hall x y hx hy ho
        have := hsame.out z hz
        rw [e] at this
        exact this
      have HV := Lib.hid hV
      have hws : w.heap.size ≤ W3.heap.size := hV.bl.size
      have c0 := hV.ob.cell
      have HI := Lib.hid (ivals_any B n r W3 HOK.out.n1 HOK.out.n12 hV.or)
      have HKD := Lib.hid hK
      have hDlt : D < W3.heap.size := (Array.getElem?_eq_some_iff.1 hK).1
      clear hall hsame hV hK x4
      go_upto_region 11 with (go_at_call 52; refine HI.out.mono ?_; rintro e w3 ⟨v3, L, rfl, hSL, hq3, hB3⟩; obtain ⟨p3, c3, rfl⟩ := hq3.isSlice; have HSL := Lib.hid hSL; have HP3 := Lib.hid (hq3.pairs' (canonPs_len n r L).symm); have HB4 := Lib.hid hB3; clear hSL hq3 hB3)
      obtain ⟨i0, hi0, hz0, hz1, hz2⟩ := info_parts info3
      have hDw : D < w3.heap.size := Nat.lt_of_lt_of_le hDlt HB4.out.size
      have hww3 : w.heap.size ≤ w3.heap.size := Nat.le_trans hws HB4.out.size
      go_loopw [8, 54] (fun s8 s54 wr => ∃ i : Nat, i ≤ n ∧ s54 = .int .i64 (i : Int) ∧ QRow wr w3.heap.size 3 1 s8 i (ivI (la (canonPs n r L)) i) ∧ Hid (Below w3.heap.size w3 wr)) (fun _ s54 _ => n - (intOf s54).toNat)
      case atStart => exact ⟨0, by omega, rfl, QRow.nil _ _ _ _, Below.refl _ _⟩
      case round =>
        obtain ⟨i, hi, rfl, hq, hB⟩ := hrel
        by_cases hin : i < n
        · have g1 : (i : Int) < (n : Int) := by omega
          have g0 : (0 : Int) ≤ (i : Int) := by omega
          obtain ⟨b, o, rfl, hb, k1, k2⟩ := HP3.out.at (k := i) (by rw [canonPs_len]; exact hin)
          have k1 := (hB.out.cell (p := ⟨b, o + i * 2, none⟩) hb).trans k1
          have k2 := (hB.out.cell (p := ⟨b, o + i * 2 + 1, none⟩) hb).trans k2
          have hsz : w3.heap.size ≤ wr.heap.size := hB.out.size
          have HSN : Hid (ivI (la (canonPs n r L)) (i + 1) = ivI (la (canonPs n r L)) i ++ [.int .i64 (la (canonPs n r L) i)]) := by
            unfold Hid
            rw [ivI_snoc]
            exact ivI_congr fun j hj => by
              by_cases e : j = i
              · subst e; simp
              · simp [e]
          obtain ⟨x, hx⟩ : ∃ x, la (canonPs n r L) i = x := ⟨_, rfl⟩
          obtain ⟨y, hy⟩ : ∃ y, ua (canonPs n r L) i = y := ⟨_, rfl⟩
          rw [hx] at k1 HSN
          rw [hy] at k2
          have HQA := Lib.hid ((hq.alloc (.cells #[.int .i64 x, .int .i64 y] 107)).alloc (.cells #[.int .i64 x] 3))
          have HBA := Lib.hid (((hB.out.alloc hsz (.cells #[.int .i64 x, .int .i64 y] 107))).alloc (by simp; omega) (.cells #[.int .i64 x] 3))
          have HLT := Lib.hid (fun kk (e : _ = some kk) => (hq.lt kk e).1)
          have hcn := cells_new1 (wr.alloc (.cells #[.int .i64 x, .int .i64 y] 107)) 3 (.int .i64 x)
          rw [World.size_alloc] at hcn
          have HCN := Lib.hid hcn
          clear hcn hq
          go_wp2_with (at_builtin; go_must (refine wpList_append_q _ rfl (.tmp 58) (.tmp 61) 34 rfl w3.heap.size 3 i0 (.int .i64 0) 1 8 Try.underlying34 hi0 hz0 hz1 hz2 rfl (by decide) _ i (ivI (la (canonPs n r L)) i) rfl HQA.out ⟨_, 0, none⟩ 1 1 [.int .i64 x] rfl rfl HCN.out (by simp [Value.oneCell']) (by unfold maxLen; omega) (by omega) (by simp; omega) ?_); intro v7 w7 hq7 hg7 ho7; have HQ7 : Hid (QRow w7 w3.heap.size 3 1 v7 (i + 1) (ivI (la (canonPs n r L)) (i + 1))) := (by rw [HSN.out]; exact hq7); have HB7 : Hid (Below w3.heap.size w3 w7) := Below.grown HBA.out hg7 (by simp; omega) (fun kk e => HLT.out kk e); clear hq7 hg7 ho7)
          exact ⟨⟨i + 1, by omega, int_eq (by omega), HQ7.out, HB7⟩, by simp [intOf]; omega⟩
        · have g1 : ¬ (i : Int) < (n : Int) := by omega
          obtain rfl : n = i := by omega
          obtain ⟨p8, c8, rfl⟩ := hq.isSlice
          have HQ := Lib.hid hq
          have hKs := HS.out
          have hBall : Below W3.heap.size W3 wr := HB4.out.trans (hB.out.mono HB4.out.size)
          have xa := HV.out.oa.below hBall HV.out.oa.lt
          have xb := HV.out.o2.below hBall HV.out.o2.lt
          have hABn : ra ≠ rb := by have := HAB.out; omega
          have xa2 := xa.set 0 (.slice p8 n c8)
          have xb2 := xb.other (a := ⟨ra, 0, none⟩) (fun e => hABn e.symm) (.slice p8 n c8)
          have xa3 := xa2.other (a := ⟨rb, 0, none⟩) hABn (.int .i64 0)
          have xb3 := xb2.set 0 (.int .i64 0)
          have f1 := xa.frozen 0
          have f2 := xb2.frozen 0
          have k1 : wr.cell? ⟨ra, 0, none⟩ = some (.slice none 0 0) := by rw [xa.cell]; rfl
          have k2 : (wr.setCell ⟨ra, 0, none⟩ (.slice p8 n c8)).cell? ⟨rb, 0, none⟩ = some (.int .i64 0) := by rw [xb2.cell]; rfl
          have hKY : wr.heap[D]? = some (.deferred (some [])) := (hBall.block D hDlt).trans HKD.out
          have HAG : Hid (Ag (fun k => k = ra ∨ k = rb ∨ k = D) wr (((wr.setCell ⟨ra, 0, none⟩ (.slice p8 n c8)).setCell ⟨rb, 0, none⟩ (.int .i64 0)).putObj D (.deferred none))) := (((Ag.refl _ wr).set ⟨ra, 0, none⟩ _ (.inr (.inl rfl))).set ⟨rb, 0, none⟩ _ (.inr (.inr (.inl rfl)))).grown (grownBy_putObj' _ D _) (fun k e => .inr (.inr (.inr (by simpa using e.symm))))
          have hAG1 : Ag (fun k => k = ra ∨ k = rb) wr ((wr.setCell ⟨ra, 0, none⟩ (.slice p8 n c8)).setCell ⟨rb, 0, none⟩ (.int .i64 0)) := ((Ag.refl _ wr).set ⟨ra, 0, none⟩ _ (.inr (.inl rfl))).set ⟨rb, 0, none⟩ _ (.inr (.inr rfl))
          have HKZ := Lib.hid (hAG1.obj hKY (fun e => by rcases e with e | e <;> omega))
          have q0 := (xa3.kept (grownBy_putObj' _ D (.deferred none)) (by simp; omega)).cell 0
          have q1 := (xb3.kept (grownBy_putObj' _ D (.deferred none)) (by simp; omega)).cell 0
          have HBW := Lib.hid (HV.out.bl.trans (hBall.mono hws))
          clear hq xa xb xa2 xb2 xa3 xb3 hAG1 hKY
          go_wp2
          refine ⟨by simp, .inl ⟨_, _, rfl, run_takeDeferred HKZ.out, ?_⟩⟩
          refine ⟨.tuple #[.slice p8 n c8, .int .i64 0], by simp [results, Try.f23, go_sem, q0, q1], .inr (.inr ⟨_, L, rfl, HOK.out, HW.out, HSL.out, ?_⟩), HAG.out.below HBW.out HBW.out.size (fun k hk e => by have := HLE.out; rcases e with e | e | e <;> omega)⟩
          exact (HAG.out.qrow HQ.out (fun k e h => by have := (HQ.out.lt k e).1; have := HLE.out; have := hww3; rcases h with h | h | h <;> omega)).mono hww3
    case stop =>
      rintro D c pre W3 hD - ⟨rfl, hx⟩ hK
      obtain ⟨hnw, hbl, xa, xb⟩ := hx
      have HNW := Lib.hid hnw
      have HBL := Lib.hid hbl
      have hKs := HS.out
      have q0 := (xa.kept (grownBy_putObj' _ D (.deferred none)) (by simp; omega)).cell 0
      have q1 := (xb.kept (grownBy_putObj' _ D (.deferred none)) (by simp; omega)).cell 0
      clear hnw hbl
      gi_wp2
      refine ⟨by simp, .inl ⟨_, _, rfl, run_takeDeferred hK, ?_⟩⟩
      refine ⟨.tuple #[.slice none 0 0, .int .i64 4], by simp [results, Try.f23, go_sem, q0, q1], .inr (.inl ⟨rfl, HOK.out, HNW.out⟩), ?_⟩
      exact ((Ag.refl (fun k => k = D) W3).grown (grownBy_putObj' _ D _) (fun k e => .inr (by simpa using e.symm))).below HBL.out HBL.out.size (fun k hk e => by omega)
end Go.Proofs.Ytbioondlmgolkaa
namespace Go.Proofs.Ytbioondlmgolkaa
open Go.RowKit

/-- the k-th match of round r of the circle -/
def cir (n r k : Nat) : Nat × Nat :=
  if k = 0 then (if r % 2 = 1 then (r, n - 1) else (n - 1, r))
  else if k % 2 = 0 then ((r + (n - 1) - k) % (n - 1), (r + k) % (n - 1)) else ((r + k) % (n - 1), (r + (n - 1) - k) % (n - 1))
def unord (p : Nat × Nat) : Nat × Nat := (min p.1 p.2, max p.1 p.2)
/-- a schedule of n boats: its matches by round and place -/
structure SchP (n : Nat) (m : Nat → Nat → Nat × Nat) : Prop where
  rng : ∀ r k, r < n - 1 → k < n / 2 → (m r k).1 < n ∧ (m r k).2 < n ∧ (m r k).1 ≠ (m r k).2
  met : ∀ r k r' k', r < n - 1 → k < n / 2 → r' < n - 1 → k' < n / 2 → unord (m r k) = unord (m r' k') → r = r' ∧ k = k'
  one : ∀ r k k', r < n - 1 → k < n / 2 → k' < n / 2 → k ≠ k' → (m r k).1 ≠ (m r k').1 ∧ (m r k).1 ≠ (m r k').2 ∧ (m r k).2 ≠ (m r k').1 ∧ (m r k).2 ≠ (m r k').2
def TurnP (m m' : Nat → Nat → Nat × Nat) : Prop := ∀ r k, m' r k = m r k ∨ m' r k = ((m r k).2, (m r k).1)
theorem TurnP.refl (m : Nat → Nat → Nat × Nat) : TurnP m m := fun _ _ => .inl rfl
theorem unord_turn (p : Nat × Nat) : unord (p.2, p.1) = unord p := by unfold unord; simp only [Nat.min_comm, Nat.max_comm]
theorem TurnP.un {m m' : Nat → Nat → Nat × Nat} (h : TurnP m m') (r k : Nat) : unord (m' r k) = unord (m r k) := by
  rcases h r k with e | e
  · rw [e]
  · rw [e, unord_turn]
theorem SchP.turn {n : Nat} {m m' : Nat → Nat → Nat × Nat} (h : SchP n m) (t : TurnP m m') : SchP n m' where
  rng := fun r k hr hk => by
    have h1 := h.rng r k hr hk
    rcases t r k with e | e
    · rw [e]; exact h1
    · rw [e]; exact ⟨h1.2.1, h1.1, h1.2.2.symm⟩
  met := fun r k r' k' hr hk hr' hk' e => h.met r k r' k' hr hk hr' hk' (by rw [← t.un, ← t.un]; exact e)
  one := fun r k k' hr hk hk' hne => by
    have h1 := h.one r k k' hr hk hk' hne
    rcases t r k with e | e <;> rcases t r k' with e' | e' <;> rw [e, e']
    · exact h1
    · exact ⟨h1.2.1, h1.1, h1.2.2.2, h1.2.2.1⟩
    · exact ⟨h1.2.2.1, h1.2.2.2, h1.1, h1.2.1⟩
    · exact ⟨h1.2.2.2, h1.2.2.1, h1.2.1, h1.1⟩
def allN (n : Nat) (p : Nat → Bool) : Bool := (List.range n).all p
theorem allN_iff {n : Nat} {p : Nat → Bool} : allN n p = true ↔ ∀ x, x < n → p x = true := by simp [allN]
def schB (n : Nat) : Bool := allN (n - 1) fun r => allN (n / 2) fun k => decide ((cir n r k).1 < n) && decide ((cir n r k).2 < n) && !decide ((cir n r k).1 = (cir n r k).2) &&
  (allN (n - 1) fun r' => allN (n / 2) fun k' => !(decide (min (cir n r k).1 (cir n r k).2 = min (cir n r' k').1 (cir n r' k').2) && decide (max (cir n r k).1 (cir n r k).2 = max (cir n r' k').1 (cir n r' k').2)) || (decide (r = r') && decide (k = k'))) &&
  (allN (n / 2) fun k' => decide (k = k') || (!decide ((cir n r k).1 = (cir n r k').1) && !decide ((cir n r k).1 = (cir n r k').2) && !decide ((cir n r k).2 = (cir n r k').1) && !decide ((cir n r k).2 = (cir n r k').2)))
theorem schB_sch {n : Nat} (h : schB n = true) : SchP n (cir n) := by
  unfold schB at h
  have key : ∀ r k, r < n - 1 → k < n / 2 → _ := fun r k hr hk => (allN_iff.1 ((allN_iff.1 h) r hr)) k hk
  refine ⟨fun r k hr hk => ?_, fun r k r' k' hr hk hr' hk' e => ?_, fun r k k' hr hk hk' hne => ?_⟩
  · have := key r k hr hk
    simp only [Bool.and_eq_true, decide_eq_true_eq, Bool.not_eq_true', decide_eq_false_iff_not] at this
    exact ⟨this.1.1.1.1, this.1.1.1.2, this.1.1.2⟩
  · have := key r k hr hk
    simp only [Bool.and_eq_true] at this
    have := (allN_iff.1 ((allN_iff.1 this.1.2) r' hr')) k' hk'
    unfold unord at e
    simp only [Prod.mk.injEq] at e
    simpa [e.1, e.2] using this
  · have := key r k hr hk
    simp only [Bool.and_eq_true] at this
    have := (allN_iff.1 this.2) k' hk'
    simpa [hne, and_assoc] using this
set_option maxRecDepth 100000 in
theorem sch12 : schB 12 = true := by decide +kernel
set_option maxRecDepth 100000 in
theorem sch10 : schB 10 = true := by decide +kernel
set_option maxRecDepth 100000 in
theorem sch8 : schB 8 = true := by decide +kernel
set_option maxRecDepth 100000 in
theorem sch6 : schB 6 = true := by decide +kernel
set_option maxRecDepth 100000 in
theorem sch4 : schB 4 = true := by decide +kernel
set_option maxRecDepth 100000 in
theorem sch2 : schB 2 = true := by decide +kernel
theorem cir_sch {n : Nat} (h : n = 2 ∨ n = 4 ∨ n = 6 ∨ n = 8 ∨ n = 10 ∨ n = 12) : SchP n (cir n) := by
  rcases h with e | e | e | e | e | e
  · subst e; exact schB_sch sch2
  · subst e; exact schB_sch sch4
  · subst e; exact schB_sch sch6
  · subst e; exact schB_sch sch8
  · subst e; exact schB_sch sch10
  · subst e; exact schB_sch sch12
end Go.Proofs.Ytbioondlmgolkaa
namespace Go.Proofs.Ytbioondlmgolkaa
open Go.RowKit Go.Shelf

theorem infoP : (Try.prog.info? 28).map (fun i => (i.zero, i.size, i.bytes)) = some (some (.agg #[.int .i64 0, .int .i64 0]), 2, 16) := by kernel_rfl
theorem infoR : (Try.prog.info? 22).map (fun i => (i.zero, i.size, i.bytes)) = some (some (.slice none 0 0), 1, 24) := by kernel_rfl
theorem underR : Try.prog.underlying 22 = some (.slice 28) := by kernel_rfl
theorem underS : Try.prog.underlying 24 = some (.slice 22) := by kernel_rfl
/-- the first matches of a round, as pairs of integers -/
def rowL (m : Nat → Nat → Nat × Nat) (r k : Nat) : List (Int × Int) := (List.range k).map fun i => (((m r i).1 : Int), ((m r i).2 : Int))
theorem rowL_len (m : Nat → Nat → Nat × Nat) (r k : Nat) : (rowL m r k).length = k := by simp [rowL]
theorem rowL_snoc (m : Nat → Nat → Nat × Nat) (r k : Nat) : rowL m r (k + 1) = rowL m r k ++ [(((m r k).1 : Int), ((m r k).2 : Int))] := by unfold rowL; rw [List.range_succ, List.map_append]; rfl
theorem cells_snoc2 (m : Nat → Nat → Nat × Nat) (r k : Nat) : pairCells (rowL m r (k + 1)) = pairCells (rowL m r k) ++ [.int .i64 ((m r k).1 : Int), .int .i64 ((m r k).2 : Int)] := by rw [rowL_snoc, pairCells_append]; rfl
/-- k rounds of h matches, that the call has made -/
def SchR (W : World) (base : Nat) (v : Value) (k h : Nat) (m : Nat → Nat → Nat × Nat) : Prop := ∃ xs, QRow W base 22 1 v k xs ∧ (∀ r, r < k → ∃ p c, xs[r]? = some (.slice p h c) ∧ QRow W base 28 2 (.slice p h c) h (pairCells (rowL m r h))) ∧ ∀ r r' x x' b, r < k → r' < k → xs[r]? = some x → xs[r']? = some x' → x.ownBlock = some b → x'.ownBlock = some b → r = r'
theorem SchR.nil (W : World) (base h : Nat) (m : Nat → Nat → Nat × Nat) : SchR W base (.slice none 0 0) 0 h m := ⟨[], QRow.nil _ _ _ _, fun r hr => by omega, fun r _ _ _ _ hr => by omega⟩
theorem SchR.isSlice {W : World} {base : Nat} {v : Value} {k h : Nat} {m : Nat → Nat → Nat × Nat} (H : SchR W base v k h m) : ∃ p c, v = .slice p k c := H.elim fun _ h => h.1.isSlice
theorem SchR.below {n base : Nat} {w W : World} {v : Value} {k h : Nat} {m : Nat → Nat → Nat × Nat} (H : SchR w base v k h m) (hB : Below n w W) (hn : w.heap.size ≤ n) : SchR W base v k h m := by
  obtain ⟨xs, h1, h2, h5⟩ := H
  refine ⟨xs, h1.below hB fun k' hk' => Nat.lt_of_lt_of_le (h1.lt k' hk').2 hn, fun r hr => ?_, h5⟩
  obtain ⟨p, c, h3, h4⟩ := h2 r hr
  exact ⟨p, c, h3, h4.below hB fun k' hk' => Nat.lt_of_lt_of_le (h4.lt k' hk').2 hn⟩
theorem SchR.push {W W' : World} {base : Nat} {v v' : Value} {k h : Nat} {m : Nat → Nat → Nat × Nat} {xs : List Value} {p : Option Addr} {c : Nat}
    (h2 : ∀ r, r < k → ∃ p c, xs[r]? = some (.slice p h c) ∧ QRow W base 28 2 (.slice p h c) h (pairCells (rowL m r h))) (h1 : QRow W base 22 1 v k xs)
    (hq : QRow W base 28 2 (.slice p h c) h (pairCells (rowL m k h))) (hg : W.grownBy W' v.ownBlock) (h3 : QRow W' base 22 1 v' (k + 1) (xs ++ [.slice p h c]))
    (hD : ∀ r r' x x' b, r < k → r' < k → xs[r]? = some x → xs[r']? = some x' → x.ownBlock = some b → x'.ownBlock = some b → r = r') (hN : ∀ r x b, r < k → xs[r]? = some x → x.ownBlock = some b → (Value.slice p h c).ownBlock ≠ some b) : SchR W' base v' (k + 1) h m := by
  have hxl := h1.1
  have hat : ∀ r x, r < k + 1 → (xs ++ [Value.slice p h c])[r]? = some x → (r < k ∧ xs[r]? = some x) ∨ (r = k ∧ x = .slice p h c) := fun r x hr hx => by
    by_cases e : r = k
    · subst e
      rw [List.getElem?_append_right (by omega)] at hx
      rw [show r - xs.length = 0 by omega] at hx
      exact .inr ⟨rfl, by simpa using hx.symm⟩
    · rw [List.getElem?_append_left (by omega)] at hx
      exact .inl ⟨by omega, hx⟩
  refine ⟨_, h3, fun r hr => ?_, fun r r' x x' b hr hr' hx hx' hb hb' => ?_⟩
  rotate_left
  · rcases hat r x hr hx with ⟨h4, h5⟩ | ⟨rfl, rfl⟩
    · rcases hat r' x' hr' hx' with ⟨h6, h7⟩ | ⟨rfl, rfl⟩
      · exact hD r r' x x' b h4 h6 h5 h7 hb hb'
      · exact absurd hb' (hN r x b h4 h5 hb)
    · rcases hat r' x' hr' hx' with ⟨h6, h7⟩ | ⟨rfl, rfl⟩
      · exact absurd hb (hN r' x' b h6 h7 hb')
      · rfl
  by_cases e : r = k
  · subst e
    refine ⟨p, c, ?_, hq.kept hg (ne_or (hq.ne h1 (by decide)))⟩
    rw [List.getElem?_append_right (by omega)]; simp [hxl]
  · obtain ⟨p', c', h4, h5⟩ := h2 r (by omega)
    refine ⟨p', c', ?_, h5.kept hg (ne_or (h5.ne h1 (by decide)))⟩
    rw [List.getElem?_append_left (by omega)]; exact h4
theorem cir_0 {n r : Nat} (h : r % 2 = 1) : cir n r 0 = (r, n - 1) := by unfold cir; rw [if_pos rfl, if_pos h]
theorem cir_0' {n r : Nat} (h : ¬ r % 2 = 1) : cir n r 0 = (n - 1, r) := by unfold cir; rw [if_pos rfl, if_neg h]
theorem cir_e {n r k : Nat} (h0 : k ≠ 0) (h : k % 2 = 0) : cir n r k = ((r + (n - 1) - k) % (n - 1), (r + k) % (n - 1)) := by unfold cir; rw [if_neg h0, if_pos h]
theorem cir_o {n r k : Nat} (h0 : k ≠ 0) (h : ¬ k % 2 = 0) : cir n r k = ((r + k) % (n - 1), (r + (n - 1) - k) % (n - 1)) := by unfold cir; rw [if_neg h0, if_neg h]
theorem qrow_new2 (W : World) (t : TypeId) (u v : Value) {base : Nat} (hb : base ≤ W.heap.size) : QRow (W.alloc (.cells #[u, v] t)) base t 2 (.slice (some ⟨W.heap.size, 0, none⟩) 1 1) 1 [u, v] :=
  ⟨rfl, .inr ⟨W.heap.size, 0, 1, #[u, v], rfl, hb, World.alloc_heap_new W _, Nat.le_refl _, by decide, by simp, fun j hj => by
    rcases (show j = 0 ∨ j = 1 by omega) with rfl | rfl <;> rfl⟩⟩
set_option maxRecDepth 100000 in
set_option maxHeartbeats 4000000 in
theorem Circle_ok (n : Nat) (w : World) (h2 : 2 ≤ n) (h16 : n ≤ 16) (hev : n % 2 = 0) :
    Calls Try.prog 7 #[.int .i64 (n : Int)] w fun e w' => ∃ v, e = .returned (.tuple #[v, .int .i64 0]) ∧ SchR w' w.heap.size v (n - 1) (n / 2) (cir n) ∧ Below w.heap.size w w' := by
  obtain ⟨i0, hi0, hz0, hz1, hz2⟩ := info_parts infoP
  obtain ⟨i1, hi1, hy0, hy1, hy2⟩ := info_parts infoR
  have HIR := Lib.hid (isRight_yes n w h2 h16 hev)
  obtain ⟨h, hh⟩ : ∃ h, Hid (n / 2 = h) := ⟨_, rfl⟩
  have hdiv : Int.tdiv (n : Int) 2 = (h : Int) := by have := hh.out; rw [Int.tdiv_eq_ediv_of_nonneg (by omega)]; omega
  have HN2 : Hid (n = 2 * h) := by have := hh.out; unfold Hid; omega
  rw [hh.out]
  obtain ⟨n1, hn1⟩ : ∃ n1, Hid (n - 1 = n1) := ⟨_, rfl⟩
  have HN1 : Hid (n = n1 + 1) := by have := hn1.out; unfold Hid; omega
  have hsub : (n : Int) - 1 = (n1 : Int) := by have := hn1.out; omega
  have hn16 : n1 ≤ 15 := by have := hn1.out; omega
  have hh8 : h ≤ 8 := by have := HN2.out; omega
  clear hev
  rw [hn1.out]
  go_enter Try.func7, Try.ntmps7
  go_upto_region 5 with (go_at_call 25; refine HIR.out.mono ?_; rintro e w4 ⟨rfl, hw4⟩; replace hw4 := hw4.symm; subst hw4; try dsimp only)
  go_loopw [4, 16] (fun s4 s16 wr => ∃ r : Nat, r ≤ n1 ∧ s16 = .int .i64 (r : Int) ∧ Hid (SchR wr w.heap.size s4 r h (cir n)) ∧ Hid (Below w.heap.size w wr)) (fun _ s16 _ => n1 - (intOf s16).toNat)
  case atStart => exact ⟨0, by omega, rfl, SchR.nil _ _ _ _, Below.refl _ _⟩
  case round =>
    obtain ⟨r, hr, rfl, hS, hB⟩ := hrel
    obtain ⟨p4, c4, rfl⟩ := hS.out.isSlice
    by_cases hrn : r < n1
    · have g1 : (r : Int) < (n1 : Int) := by omega
      have g0 : (0 : Int) ≤ (r : Int) := by omega
      obtain ⟨wo, hwo⟩ : ∃ wo, Hid (wo = wr) := ⟨_, rfl⟩
      rw [← hwo.out] at hS hB ⊢
      clear hwo
      by_cases hodd : r % 2 = 1
      · have hrem : Int.tmod (r : Int) 2 = 1 := by rw [Int.tmod_eq_emod_of_nonneg (by omega)]; omega
        go_upto_region 12 with (fail)
        have HQ0 := Lib.hid (qrow_new2 (wo.alloc (.cells #[.int .i64 (r : Int), .int .i64 (n1 : Int)] 28)) 28 (.int .i64 (r : Int)) (.int .i64 (n1 : Int)) (base := wo.heap.size) (by simp))
        have HBX : Hid (Below wo.heap.size wo ((wo.alloc (.cells #[.int .i64 (r : Int), .int .i64 (n1 : Int)] 28)).alloc (.cells #[.int .i64 (r : Int), .int .i64 (n1 : Int)] 28))) := ((Below.refl _ _).alloc (Nat.le_refl _) _).alloc (by simp) _
        have HSZ : Hid ((wo.alloc (.cells #[.int .i64 (r : Int), .int .i64 (n1 : Int)] 28)).heap.size = wo.heap.size + 1) := by unfold Hid; simp
        rw [HSZ.out] at HQ0
        generalize ((wo.alloc (.cells #[.int .i64 (r : Int), .int .i64 (n1 : Int)] 28)).alloc (.cells #[.int .i64 (r : Int), .int .i64 (n1 : Int)] 28)) = X at *
        clear HSZ
        have HQ1 : Hid (QRow X wo.heap.size 28 2 (.slice (some ⟨wo.heap.size + 1, 0, none⟩) 1 1) 1 (pairCells (rowL (cir n) r 1))) := by
          rw [show rowL (cir n) r 1 = [(((r : Nat) : Int), ((n1 : Nat) : Int))] by unfold rowL; rw [show List.range 1 = [0] from rfl]; simp only [List.map_cons, List.map_nil]; rw [cir_0 hodd, hn1.out]]
          exact HQ0.out
        clear HQ0
        go_loopw [7, 8] (fun s7 s8 wr => ∃ k : Nat, 1 ≤ k ∧ k ≤ h ∧ s8 = .int .i64 (k : Int) ∧ Hid (QRow wr wo.heap.size 28 2 s7 k (pairCells (rowL (cir n) r k))) ∧ Hid (Below wo.heap.size wo wr)) (fun _ s8 _ => h - (intOf s8).toNat)
        case atStart => exact ⟨1, by omega, by have := HN2.out; omega, rfl, HQ1, HBX⟩
        case round =>
          clear HQ1 HBX hrem
          obtain ⟨k, hk1, hk, rfl, hQ, hBo⟩ := hrel
          obtain ⟨p7, c7, rfl⟩ := hQ.out.isSlice
          have hwo : wo.heap.size ≤ wr.heap.size := hBo.out.size
          by_cases hkh : k < h
          · have g2 : (k : Int) < (h : Int) := by omega
            have HE1 : Hid (Int.tmod ((r : Int) + (k : Int)) (n1 : Int) = (((r + k) % n1 : Nat) : Int)) := by unfold Hid; rw [Int.tmod_eq_emod_of_nonneg (by omega)]; rfl
            have HE2 : Hid (Int.tmod ((r : Int) - (k : Int) + (n : Int) - 1) (n1 : Int) = (((r + n1 - k) % n1 : Nat) : Int)) := by
              have h1 := HN1.out
              have h2 := HN2.out
              unfold Hid
              rw [show (r : Int) - (k : Int) + (n : Int) - 1 = ((r + n1 - k : Nat) : Int) by omega, Int.tmod_eq_emod_of_nonneg (by omega)]; rfl
            have e1 := HE1.out
            have e2 := HE2.out
            have HCE : Hid (k % 2 = 0 → cir n r k = ((r + n1 - k) % n1, (r + k) % n1)) := fun h => by rw [cir_e (by omega) h, hn1.out]
            have HCO : Hid (¬ k % 2 = 0 → cir n r k = ((r + k) % n1, (r + n1 - k) % n1)) := fun h => by rw [cir_o (by omega) h, hn1.out]
            have ha : (r + k) % n1 < n1 := Nat.mod_lt _ (by omega)
            have hb : (r + n1 - k) % n1 < n1 := Nat.mod_lt _ (by omega)
            have hn0 : ((n1 : Int) == 0) = false := by rw [beq_eq_false_iff_ne]; omega
            have hn0' : (n1 : Int) ≠ 0 := by omega
            generalize (r + k) % n1 = a at *
            generalize (r + n1 - k) % n1 = b at *
            clear HE1 HE2
            go_wp2
            go_quiet (fail)
            have hQ' : Hid (QRow (wr.drewN nq) wo.heap.size 28 2 (.slice p7 k c7) k (pairCells (rowL (cir n) r k))) := hQ.out
            have hBo' := Lib.hid (below_dr hBo.out nq)
            clear hQ hBo hwo
            have hQ := hQ'
            have hBo := hBo'
            clear hQ' hBo'
            generalize wr.drewN nq = wA at *
            have hwo : wo.heap.size ≤ wA.heap.size := hBo.out.size
            clear e1 e2
            have HLT := Lib.hid (fun kk (e : _ = some kk) => (hQ.out.lt kk e).1)
            by_cases hev : k % 2 = 0
            · have hrem : Int.tmod (k : Int) 2 = 0 := by rw [Int.tmod_eq_emod_of_nonneg (by omega)]; omega
              have HSN : Hid (pairCells (rowL (cir n) r (k + 1)) = pairCells (rowL (cir n) r k) ++ [.int .i64 (b : Int), .int .i64 (a : Int)]) := by rw [cells_snoc2, HCE.out hev]; rfl
              have HQA := Lib.hid (hQ.out.alloc (.cells #[.int .i64 (b : Int), .int .i64 (a : Int)] 28))
              clear HCE HCO hev
              go_wp2_with (at_builtin; go_must (refine wpList_append_q _ rfl (.tmp 58) (.tmp 62) 22 rfl wo.heap.size 28 i0 _ 2 16 underR hi0 hz0 hz1 hz2 rfl (by decide) _ k (pairCells (rowL (cir n) r k)) rfl HQA.out ⟨wA.heap.size, 0, none⟩ 1 1 [.int .i64 (b : Int), .int .i64 (a : Int)] rfl rfl (cells_newB _ _ _ _) (by simp [Value.oneCell']) (by unfold maxLen; omega) (by omega) (by simp; omega) ?_); intro v7 w7 hq7 hg7 ho7; have HQ7 : Hid (QRow w7 wo.heap.size 28 2 v7 (k + 1) (pairCells (rowL (cir n) r (k + 1)))) := (by rw [HSN.out]; exact hq7); have HB7 : Hid (Below wo.heap.size wo w7) := Below.grown (hBo.out.alloc hwo _) hg7 (by simp; omega) (fun kk e => HLT.out kk e); clear hq7 hg7 ho7)
              exact ⟨⟨k + 1, by omega, by omega, int_eq (by omega), HQ7, HB7⟩, by simp [intOf]; omega⟩
            · have hrem : Int.tmod (k : Int) 2 = 1 := by rw [Int.tmod_eq_emod_of_nonneg (by omega)]; omega
              have HSN : Hid (pairCells (rowL (cir n) r (k + 1)) = pairCells (rowL (cir n) r k) ++ [.int .i64 (a : Int), .int .i64 (b : Int)]) := by rw [cells_snoc2, HCO.out hev]; rfl
              have HQA := Lib.hid (hQ.out.alloc (.cells #[.int .i64 (a : Int), .int .i64 (b : Int)] 28))
              clear HCE HCO hev
              go_wp2_with (at_builtin; go_must (refine wpList_append_q _ rfl (.tmp 58) (.tmp 62) 22 rfl wo.heap.size 28 i0 _ 2 16 underR hi0 hz0 hz1 hz2 rfl (by decide) _ k (pairCells (rowL (cir n) r k)) rfl HQA.out ⟨wA.heap.size, 0, none⟩ 1 1 [.int .i64 (a : Int), .int .i64 (b : Int)] rfl rfl (cells_newB _ _ _ _) (by simp [Value.oneCell']) (by unfold maxLen; omega) (by omega) (by simp; omega) ?_); intro v7 w7 hq7 hg7 ho7; have HQ7 : Hid (QRow w7 wo.heap.size 28 2 v7 (k + 1) (pairCells (rowL (cir n) r (k + 1)))) := (by rw [HSN.out]; exact hq7); have HB7 : Hid (Below wo.heap.size wo w7) := Below.grown (hBo.out.alloc hwo _) hg7 (by simp; omega) (fun kk e => HLT.out kk e); clear hq7 hg7 ho7)
              exact ⟨⟨k + 1, by omega, by omega, int_eq (by omega), HQ7, HB7⟩, by simp [intOf]; omega⟩
          · have g2 : ¬ (k : Int) < (h : Int) := by omega
            obtain rfl : h = k := by omega
            clear g2 hkh hk hk1
            obtain ⟨xs, h1o, h2o, h5o⟩ := hS.out
            have HBW := Lib.hid (hB.out.trans (hBo.out.mono hB.out.size))
            have hww : w.heap.size ≤ wr.heap.size := HBW.out.size
            have h1 := h1o.below hBo.out (fun k' hk' => (h1o.lt k' hk').2)
            have HDD := Lib.hid h5o
            have HNN : Hid (∀ r' x b, r' < r → xs[r']? = some x → x.ownBlock = some b → (Value.slice p7 h c7).ownBlock ≠ some b) := fun r' x b hr' hx hb e => by
              obtain ⟨p, c, e1, e2⟩ := h2o r' hr'
              rw [hx] at e1
              cases e1
              have h6 := (e2.lt b hb).2
              have h7 := (hQ.out.lt b e).1
              omega
            have H1A := Lib.hid (h1.alloc (.cells #[.slice p7 h c7] 22))
            have H2A : Hid (∀ r', r' < r → ∃ p c, xs[r']? = some (.slice p h c) ∧ QRow (wr.alloc (.cells #[.slice p7 h c7] 22)) w.heap.size 28 2 (.slice p h c) h (pairCells (rowL (cir n) r' h))) := fun r' hr' => by
              obtain ⟨p, c, e1, e2⟩ := h2o r' hr'
              exact ⟨p, c, e1, (e2.below hBo.out (fun k' hk' => (e2.lt k' hk').2)).alloc _⟩
            have HQA := Lib.hid ((hQ.out.mono hB.out.size).alloc (.cells #[.slice p7 h c7] 22))
            have HLT := Lib.hid (fun kk (e : _ = some kk) => (h1.lt kk e).1)
            clear h1 h1o h2o h5o
            go_wp2_with (at_builtin; go_must (refine wpList_append_q _ rfl (.tmp 64) (.tmp 66) 24 rfl w.heap.size 22 i1 (.slice none 0 0) 1 24 underS hi1 hy0 hy1 hy2 rfl (by decide) _ r xs rfl H1A.out ⟨_, 0, none⟩ 1 1 [.slice p7 h c7] rfl rfl (cells_new1 _ _ _) (by simp [Value.oneCell']) (by unfold maxLen; omega) (by omega) (by simp; omega) ?_); intro v5 w5 hq5 hg5 ho5; have HR5 : Hid (SchR w5 w.heap.size v5 (r + 1) h (cir n)) := SchR.push H2A.out H1A.out HQA.out hg5 hq5 HDD.out HNN.out; have HB5 : Hid (Below w.heap.size w w5) := Below.grown (HBW.out.alloc hww _) hg5 (by simp; omega) (fun kk e => HLT.out kk e); clear hq5 hg5 ho5)
            exact ⟨⟨r + 1, by omega, int_eq (by omega), HR5, HB5⟩, by simp [intOf]; omega⟩
      · have hrem : Int.tmod (r : Int) 2 = 0 := by rw [Int.tmod_eq_emod_of_nonneg (by omega)]; omega
        go_upto_region 12 with (fail)
        have HQ0 := Lib.hid (qrow_new2 (wo.alloc (.cells #[.int .i64 (n1 : Int), .int .i64 (r : Int)] 28)) 28 (.int .i64 (n1 : Int)) (.int .i64 (r : Int)) (base := wo.heap.size) (by simp))
        have HBX : Hid (Below wo.heap.size wo ((wo.alloc (.cells #[.int .i64 (n1 : Int), .int .i64 (r : Int)] 28)).alloc (.cells #[.int .i64 (n1 : Int), .int .i64 (r : Int)] 28))) := ((Below.refl _ _).alloc (Nat.le_refl _) _).alloc (by simp) _
        have HSZ : Hid ((wo.alloc (.cells #[.int .i64 (n1 : Int), .int .i64 (r : Int)] 28)).heap.size = wo.heap.size + 1) := by unfold Hid; simp
        rw [HSZ.out] at HQ0
        generalize ((wo.alloc (.cells #[.int .i64 (n1 : Int), .int .i64 (r : Int)] 28)).alloc (.cells #[.int .i64 (n1 : Int), .int .i64 (r : Int)] 28)) = X at *
        clear HSZ
        have HQ1 : Hid (QRow X wo.heap.size 28 2 (.slice (some ⟨wo.heap.size + 1, 0, none⟩) 1 1) 1 (pairCells (rowL (cir n) r 1))) := by
          rw [show rowL (cir n) r 1 = [(((n1 : Nat) : Int), ((r : Nat) : Int))] by unfold rowL; rw [show List.range 1 = [0] from rfl]; simp only [List.map_cons, List.map_nil]; rw [cir_0' hodd, hn1.out]]
          exact HQ0.out
        clear HQ0
        go_loopw [7, 8] (fun s7 s8 wr => ∃ k : Nat, 1 ≤ k ∧ k ≤ h ∧ s8 = .int .i64 (k : Int) ∧ Hid (QRow wr wo.heap.size 28 2 s7 k (pairCells (rowL (cir n) r k))) ∧ Hid (Below wo.heap.size wo wr)) (fun _ s8 _ => h - (intOf s8).toNat)
        case atStart => exact ⟨1, by omega, by have := HN2.out; omega, rfl, HQ1, HBX⟩
        case round =>
          clear HQ1 HBX hrem
          obtain ⟨k, hk1, hk, rfl, hQ, hBo⟩ := hrel
          obtain ⟨p7, c7, rfl⟩ := hQ.out.isSlice
          have hwo : wo.heap.size ≤ wr.heap.size := hBo.out.size
          by_cases hkh : k < h
          · have g2 : (k : Int) < (h : Int) := by omega
            have HE1 : Hid (Int.tmod ((r : Int) + (k : Int)) (n1 : Int) = (((r + k) % n1 : Nat) : Int)) := by unfold Hid; rw [Int.tmod_eq_emod_of_nonneg (by omega)]; rfl
            have HE2 : Hid (Int.tmod ((r : Int) - (k : Int) + (n : Int) - 1) (n1 : Int) = (((r + n1 - k) % n1 : Nat) : Int)) := by
              have h1 := HN1.out
              have h2 := HN2.out
              unfold Hid
              rw [show (r : Int) - (k : Int) + (n : Int) - 1 = ((r + n1 - k : Nat) : Int) by omega, Int.tmod_eq_emod_of_nonneg (by omega)]; rfl
            have e1 := HE1.out
            have e2 := HE2.out
            have HCE : Hid (k % 2 = 0 → cir n r k = ((r + n1 - k) % n1, (r + k) % n1)) := fun h => by rw [cir_e (by omega) h, hn1.out]
            have HCO : Hid (¬ k % 2 = 0 → cir n r k = ((r + k) % n1, (r + n1 - k) % n1)) := fun h => by rw [cir_o (by omega) h, hn1.out]
            have ha : (r + k) % n1 < n1 := Nat.mod_lt _ (by omega)
            have hb : (r + n1 - k) % n1 < n1 := Nat.mod_lt _ (by omega)
            have hn0 : ((n1 : Int) == 0) = false := by rw [beq_eq_false_iff_ne]; omega
            have hn0' : (n1 : Int) ≠ 0 := by omega
            generalize (r + k) % n1 = a at *
            generalize (r + n1 - k) % n1 = b at *
            clear HE1 HE2
            go_wp2
            go_quiet (fail)
            have hQ' : Hid (QRow (wr.drewN nq) wo.heap.size 28 2 (.slice p7 k c7) k (pairCells (rowL (cir n) r k))) := hQ.out
            have hBo' := Lib.hid (below_dr hBo.out nq)
            clear hQ hBo hwo
            have hQ := hQ'
            have hBo := hBo'
            clear hQ' hBo'
            generalize wr.drewN nq = wA at *
            have hwo : wo.heap.size ≤ wA.heap.size := hBo.out.size
            clear e1 e2
            have HLT := Lib.hid (fun kk (e : _ = some kk) => (hQ.out.lt kk e).1)
            by_cases hev : k % 2 = 0
            · have hrem : Int.tmod (k : Int) 2 = 0 := by rw [Int.tmod_eq_emod_of_nonneg (by omega)]; omega
              have HSN : Hid (pairCells (rowL (cir n) r (k + 1)) = pairCells (rowL (cir n) r k) ++ [.int .i64 (b : Int), .int .i64 (a : Int)]) := by rw [cells_snoc2, HCE.out hev]; rfl
              have HQA := Lib.hid (hQ.out.alloc (.cells #[.int .i64 (b : Int), .int .i64 (a : Int)] 28))
              clear HCE HCO hev
              go_wp2_with (at_builtin; go_must (refine wpList_append_q _ rfl (.tmp 58) (.tmp 62) 22 rfl wo.heap.size 28 i0 _ 2 16 underR hi0 hz0 hz1 hz2 rfl (by decide) _ k (pairCells (rowL (cir n) r k)) rfl HQA.out ⟨wA.heap.size, 0, none⟩ 1 1 [.int .i64 (b : Int), .int .i64 (a : Int)] rfl rfl (cells_newB _ _ _ _) (by simp [Value.oneCell']) (by unfold maxLen; omega) (by omega) (by simp; omega) ?_); intro v7 w7 hq7 hg7 ho7; have HQ7 : Hid (QRow w7 wo.heap.size 28 2 v7 (k + 1) (pairCells (rowL (cir n) r (k + 1)))) := (by rw [HSN.out]; exact hq7); have HB7 : Hid (Below wo.heap.size wo w7) := Below.grown (hBo.out.alloc hwo _) hg7 (by simp; omega) (fun kk e => HLT.out kk e); clear hq7 hg7 ho7)
              exact ⟨⟨k + 1, by omega, by omega, int_eq (by omega), HQ7, HB7⟩, by simp [intOf]; omega⟩
            · have hrem : Int.tmod (k : Int) 2 = 1 := by rw [Int.tmod_eq_emod_of_nonneg (by omega)]; omega
              have HSN : Hid (pairCells (rowL (cir n) r (k + 1)) = pairCells (rowL (cir n) r k) ++ [.int .i64 (a : Int), .int .i64 (b : Int)]) := by rw [cells_snoc2, HCO.out hev]; rfl
              have HQA := Lib.hid (hQ.out.alloc (.cells #[.int .i64 (a : Int), .int .i64 (b : Int)] 28))
              clear HCE HCO hev
              go_wp2_with (at_builtin; go_must (refine wpList_append_q _ rfl (.tmp 58) (.tmp 62) 22 rfl wo.heap.size 28 i0 _ 2 16 underR hi0 hz0 hz1 hz2 rfl (by decide) _ k (pairCells (rowL (cir n) r k)) rfl HQA.out ⟨wA.heap.size, 0, none⟩ 1 1 [.int .i64 (a : Int), .int .i64 (b : Int)] rfl rfl (cells_newB _ _ _ _) (by simp [Value.oneCell']) (by unfold maxLen; omega) (by omega) (by simp; omega) ?_); intro v7 w7 hq7 hg7 ho7; have HQ7 : Hid (QRow w7 wo.heap.size 28 2 v7 (k + 1) (pairCells (rowL (cir n) r (k + 1)))) := (by rw [HSN.out]; exact hq7); have HB7 : Hid (Below wo.heap.size wo w7) := Below.grown (hBo.out.alloc hwo _) hg7 (by simp; omega) (fun kk e => HLT.out kk e); clear hq7 hg7 ho7)
              exact ⟨⟨k + 1, by omega, by omega, int_eq (by omega), HQ7, HB7⟩, by simp [intOf]; omega⟩
          · have g2 : ¬ (k : Int) < (h : Int) := by omega
            obtain rfl : h = k := by omega
            clear g2 hkh hk hk1
            obtain ⟨xs, h1o, h2o, h5o⟩ := hS.out
            have HBW := Lib.hid (hB.out.trans (hBo.out.mono hB.out.size))
            have hww : w.heap.size ≤ wr.heap.size := HBW.out.size
            have h1 := h1o.below hBo.out (fun k' hk' => (h1o.lt k' hk').2)
            have HDD := Lib.hid h5o
            have HNN : Hid (∀ r' x b, r' < r → xs[r']? = some x → x.ownBlock = some b → (Value.slice p7 h c7).ownBlock ≠ some b) := fun r' x b hr' hx hb e => by
              obtain ⟨p, c, e1, e2⟩ := h2o r' hr'
              rw [hx] at e1
              cases e1
              have h6 := (e2.lt b hb).2
              have h7 := (hQ.out.lt b e).1
              omega
            have H1A := Lib.hid (h1.alloc (.cells #[.slice p7 h c7] 22))
            have H2A : Hid (∀ r', r' < r → ∃ p c, xs[r']? = some (.slice p h c) ∧ QRow (wr.alloc (.cells #[.slice p7 h c7] 22)) w.heap.size 28 2 (.slice p h c) h (pairCells (rowL (cir n) r' h))) := fun r' hr' => by
              obtain ⟨p, c, e1, e2⟩ := h2o r' hr'
              exact ⟨p, c, e1, (e2.below hBo.out (fun k' hk' => (e2.lt k' hk').2)).alloc _⟩
            have HQA := Lib.hid ((hQ.out.mono hB.out.size).alloc (.cells #[.slice p7 h c7] 22))
            have HLT := Lib.hid (fun kk (e : _ = some kk) => (h1.lt kk e).1)
            clear h1 h1o h2o h5o
            go_wp2_with (at_builtin; go_must (refine wpList_append_q _ rfl (.tmp 64) (.tmp 66) 24 rfl w.heap.size 22 i1 (.slice none 0 0) 1 24 underS hi1 hy0 hy1 hy2 rfl (by decide) _ r xs rfl H1A.out ⟨_, 0, none⟩ 1 1 [.slice p7 h c7] rfl rfl (cells_new1 _ _ _) (by simp [Value.oneCell']) (by unfold maxLen; omega) (by omega) (by simp; omega) ?_); intro v5 w5 hq5 hg5 ho5; have HR5 : Hid (SchR w5 w.heap.size v5 (r + 1) h (cir n)) := SchR.push H2A.out H1A.out HQA.out hg5 hq5 HDD.out HNN.out; have HB5 : Hid (Below w.heap.size w w5) := Below.grown (HBW.out.alloc hww _) hg5 (by simp; omega) (fun kk e => HLT.out kk e); clear hq5 hg5 ho5)
            exact ⟨⟨r + 1, by omega, int_eq (by omega), HR5, HB5⟩, by simp [intOf]; omega⟩
    · have g1 : ¬ (r : Int) < (n1 : Int) := by omega
      obtain rfl : n1 = r := by omega
      go_wp2
      refine bodyPost_ret (v := .tuple #[.slice p4 n1 c4, .int .i64 0]) (by simp [results, Try.f7, go_sem]) rfl ?_
      exact ⟨_, rfl, hS.out, hB.out⟩
end Go.Proofs.Ytbioondlmgolkaa
namespace Go.Proofs.Ytbioondlmgolkaa
open Go.RowKit Go.Shelf
attribute [local go_sem] Oper.semAt_some

/-- a schedule as it lies in memory, all of it below K -/
def SchK (W : World) (K : Nat) (p : Option Addr) (k h : Nat) (m : Nat → Nat → Nat × Nat) : Prop :=
  K ≤ W.heap.size ∧ (k ≠ 0 → ∃ b o, p = some ⟨b, o, none⟩ ∧ b < K ∧ ∀ r, r < k → ∃ q c, W.cell? ⟨b, o + r, none⟩ = some (.slice q h c) ∧
    (h ≠ 0 → ∃ b' o', q = some ⟨b', o', none⟩ ∧ b' < K ∧ ∀ i, i < h → W.cell? ⟨b', o' + i * 2, none⟩ = some (.int .i64 ((m r i).1 : Int)) ∧ W.cell? ⟨b', o' + i * 2 + 1, none⟩ = some (.int .i64 ((m r i).2 : Int))))
def KeepsM (K : Nat) (A A' : World) : Prop := A.heap.size ≤ A'.heap.size ∧ ∀ j, j < K → A'.heap[j]? = A.heap[j]?
theorem KeepsM.refl {K : Nat} (W : World) : KeepsM K W W := ⟨Nat.le_refl _, fun _ _ => rfl⟩
theorem keepsM_t {K : Nat} {A B C : World} (h : KeepsM K A B) (k : KeepsM K B C) : KeepsM K A C := ⟨Nat.le_trans h.1 k.1, fun j hj => (k.2 j hj).trans (h.2 j hj)⟩
theorem KeepsM.of_below {K n : Nat} {A B : World} (h : Below n A B) (hK : K ≤ n) : KeepsM K A B := ⟨h.size, fun j hj => h.block j (by omega)⟩
theorem keepsM_b {K : Nat} {w : World} (h1 : K ≤ w.heap.size) (W : World) (l : Nat) (o o' : Obj) (hl : w.heap.size ≤ l) (_h : W.heap[l]? = some o) (_ : o.isCells = false) (_ : o.isWalk = false) : KeepsM K W (W.putObj l o') := by
  have hg := grownBy_putObj' W l o'
  exact ⟨hg.size, fun j hj => by
    by_cases e : j < W.heap.size
    · exact hg.block j e (fun e2 => by cases e2; omega)
    · exact absurd (Array.getElem?_eq_some_iff.1 _h).1 (by omega)⟩
/-- and one more block -/
def KeepsG (K Bg : Nat) (A A' : World) : Prop := KeepsM K A A' ∧ A'.heap[Bg]? = A.heap[Bg]?
theorem keepsG_t {K Bg : Nat} {A B C : World} (h : KeepsG K Bg A B) (k : KeepsG K Bg B C) : KeepsG K Bg A C := ⟨keepsM_t h.1 k.1, k.2.trans h.2⟩
theorem KeepsG.of_below {K Bg n : Nat} {A B : World} (h : Below n A B) (hK : K ≤ n) (hB : Bg < n) : KeepsG K Bg A B := ⟨KeepsM.of_below h hK, h.block Bg hB⟩
theorem keepsG_b {K Bg : Nat} {w : World} (h1 : K ≤ w.heap.size) (h2 : Bg < w.heap.size) (W : World) (l : Nat) (o o' : Obj) (hl : w.heap.size ≤ l) (_h : W.heap[l]? = some o) (e1 : o.isCells = false) (e2 : o.isWalk = false) : KeepsG K Bg W (W.putObj l o') :=
  ⟨keepsM_b h1 W l o o' hl _h e1 e2, by
    have hg := grownBy_putObj' W l o'
    have := (Array.getElem?_eq_some_iff.1 _h).1
    exact hg.block Bg (by omega) (fun e2 => by cases e2; omega)⟩
theorem SchK.keep {W W' : World} {K : Nat} {p : Option Addr} {k h : Nat} {m : Nat → Nat → Nat × Nat} (H : SchK W K p k h m) (hk : KeepsM K W W') : SchK W' K p k h m := by
  refine ⟨Nat.le_trans H.1 hk.1, fun h0 => ?_⟩
  obtain ⟨b, o, e, hb, hr⟩ := H.2 h0
  refine ⟨b, o, e, hb, fun r hr' => ?_⟩
  obtain ⟨q, c, h1, h2⟩ := hr r hr'
  refine ⟨q, c, (World.cell?_of_block (a := ⟨b, o + r, none⟩) (hk.2 b hb)).trans h1, fun hh => ?_⟩
  obtain ⟨b', o', e', hb', h3⟩ := h2 hh
  exact ⟨b', o', e', hb', fun i hi => ⟨(World.cell?_of_block (a := ⟨b', o' + i * 2, none⟩) (hk.2 b' hb')).trans (h3 i hi).1, (World.cell?_of_block (a := ⟨b', o' + i * 2 + 1, none⟩) (hk.2 b' hb')).trans (h3 i hi).2⟩⟩
/-- what the iterator reads -/
structure MtIn (Bg K : Nat) (p : Option Addr) (c k h : Nat) (m : Nat → Nat → Nat × Nat) (W : World) : Prop where
  sch : SchK W K p k h m
  box : W.cell? ⟨Bg, 0, none⟩ = some (.slice p k c)
  lt : Bg < W.heap.size
theorem MtIn.keep {Bg K : Nat} {p : Option Addr} {c k h : Nat} {m : Nat → Nat → Nat × Nat} {W W' : World} (H : MtIn Bg K p c k h m W) (hk : KeepsG K Bg W W') : MtIn Bg K p c k h m W' :=
  ⟨H.sch.keep hk.1, (World.cell?_of_block (a := ⟨Bg, 0, none⟩) hk.2).trans H.box, Nat.lt_of_lt_of_le H.lt hk.1.1⟩
abbrev MtX (k h : Nat) : Type := {q : Nat × Nat // q.1 < k ∧ q.2 < h}
def mtE (m : Nat → Nat → Nat × Nat) {k h : Nat} (x : MtX k h) : Array Value := #[.int .i64 (x.1.1 : Int), .agg #[.int .i64 ((m x.1.1 x.1.2).1 : Int), .int .i64 ((m x.1.1 x.1.2).2 : Int)]]
/-- rounds and places in order -/
def allQ (k h : Nat) : List (Nat × Nat) := (List.range k).flatMap fun r => (List.range h).map fun i => (r, i)
theorem allQ_succ (k h : Nat) : allQ (k + 1) h = allQ k h ++ (List.range h).map fun i => (k, i) := by unfold allQ; rw [List.range_succ, List.flatMap_append]; simp
/-- a beginning of all matches -/
def VP {k h : Nat} (pre : List (MtX k h)) : Prop := ∃ s, allQ k h = pre.map (·.1) ++ s
theorem allQ_nodup (k h : Nat) : (allQ k h).Nodup := by
  unfold allQ List.Nodup
  rw [List.pairwise_flatMap]
  refine ⟨fun r hr => ?_, ?_⟩
  · rw [List.pairwise_map]
    exact List.Pairwise.imp (fun hab e => hab (by simpa using e)) List.nodup_range
  · refine List.Pairwise.imp ?_ List.nodup_range
    intro a b hab x hx y hy e
    obtain ⟨i, _, rfl⟩ := List.mem_map.1 hx
    obtain ⟨j, _, rfl⟩ := List.mem_map.1 hy
    exact hab (by simpa using congrArg Prod.fst e)
theorem VP.init {k h : Nat} {pre : List (MtX k h)} {x : MtX k h} (H : VP (pre ++ [x])) : VP pre := by
  obtain ⟨s, e⟩ := H
  exact ⟨x.1 :: s, by rw [e]; simp⟩
theorem VP.fresh {k h : Nat} {pre : List (MtX k h)} {x : MtX k h} (H : VP (pre ++ [x])) : x.1 ∉ pre.map (·.1) := fun hm => by
  obtain ⟨s, e⟩ := H
  have hn := allQ_nodup k h
  rw [e, List.map_append, List.append_assoc] at hn
  exact (List.nodup_append.1 hn).2.2 _ hm _ (by simp) rfl
theorem allQ_pre {k h r i : Nat} (hr : r < k) (hi : i ≤ h) : ∃ s, allQ k h = (allQ r h ++ (List.range i).map fun i => (r, i)) ++ s := by
  have h1 : ∀ d, ∃ s, allQ (r + 1 + d) h = allQ (r + 1) h ++ s := by
    intro d
    induction d with
    | zero => exact ⟨[], by simp⟩
    | succ d ih =>
      obtain ⟨s, e⟩ := ih
      exact ⟨s ++ (List.range h).map fun i => (r + 1 + d, i), by rw [show r + 1 + (d + 1) = r + 1 + d + 1 from rfl, allQ_succ, e, List.append_assoc]⟩
  obtain ⟨s, e⟩ := h1 (k - (r + 1))
  rw [show r + 1 + (k - (r + 1)) = k by omega] at e
  refine ⟨((List.range h).drop i).map (fun i => (r, i)) ++ s, ?_⟩
  rw [e, allQ_succ]
  simp only [List.append_assoc]
  congr 1
  rw [← List.append_assoc]
  congr 1
  rw [← List.map_append]
  congr 1
  rw [show List.range i = (List.range h).take i by rw [List.take_range, Nat.min_eq_left hi], List.take_append_drop]
set_option maxRecDepth 100000 in
set_option maxHeartbeats 4000000 in
theorem mt_in (N : Nat) (hN : 1 ≤ N) (l Bg K c k h : Nat) (p : Option Addr) (m : Nat → Nat → Nat × Nat) (hk : k ≤ 15) (hh : h ≤ 8) (J Jx : List (MtX k h) → World → Prop)
    (hOwn : ∀ pre (A A' : World), J pre A → Below A.heap.size A A' → J pre A')
    (hY : ∀ pre x W, J pre W → pre.length < 200 → YieldAt Fence.wide (N - 1) Try.prog l (mtE m x) W fun e W' =>
      (e = .returned (.bool true) ∧ J (pre ++ [x]) W' ∧ KeepsG K Bg W W') ∨ (e = .returned (.bool false) ∧ Jx (pre ++ [x]) W'))
    (W : World) (hI : MtIn Bg K p c k h m W) (h0 : J [] W) :
    CallsIn Fence.wide N Try.prog 87 #[.func (.yield l) #[] #[], .pointer (some ⟨Bg, 0, none⟩)] W fun e W' => (∃ v, e = .returned v) ∧
      ((∃ ys : List (MtX k h), ys.map (·.1) = allQ k h ∧ J ys W') ∨ (∃ pre, VP pre ∧ Jx pre W')) := by
  have HOWN := Lib.hid hOwn
  clear hOwn
  refine callsIn_of_wp Try.func87 rfl trivial ?_ rfl
  simp only [Try.ntmps87, List.size_toArray, List.length_cons, List.length_nil, Nat.reduceAdd, Nat.reduceSub, Array.replicate_succ, Array.replicate_zero, List.push_toArray, List.append_toArray, List.nil_append, List.cons_append]
  have r0 := hI.box
  gi_wp2
  gi_loopw [9] (fun s9 wr => ∃ (r : Nat) (pre : List (MtX k h)), r ≤ k ∧ s9 = .int .i64 (r : Int) ∧ J pre wr ∧ Hid (pre.map (·.1) = allQ r h) ∧ pre.length ≤ r * 8 ∧ Hid (MtIn Bg K p c k h m wr)) (fun s9 _ => k - (intOf s9).toNat)
  case atStart => exact ⟨0, [], by omega, rfl, h0, rfl, Nat.zero_le _, hI⟩
  case round =>
    clear r0 hI h0
    obtain ⟨r, pre, hr, rfl, hJ, hS, hlen, hIn⟩ := hrel
    by_cases hrk : r < k
    · have g1 : (r : Int) < (k : Int) := by omega
      have g0 : (0 : Int) ≤ (r : Int) := by omega
      obtain ⟨b, o, rfl, hb, hrows⟩ := hIn.out.sch.2 (by omega)
      obtain ⟨q, cq, k1, _⟩ := hrows r hrk
      clear hrows
      obtain ⟨wo, hwo⟩ : ∃ wo, Hid (wo = wr) := ⟨_, rfl⟩
      rw [← hwo.out] at hJ hIn k1 ⊢
      clear hwo
      have HQ0 : Hid (∀ W, MtIn Bg K (some ⟨b, o, none⟩) c k h m W → W.cell? ⟨b, o + r, none⟩ = some (.slice q h cq) → h ≠ 0 → ∃ b' o', q = some ⟨b', o', none⟩ ∧ b' < K ∧ ∀ i, i < h → W.cell? ⟨b', o' + i * 2, none⟩ = some (.int .i64 ((m r i).1 : Int)) ∧ W.cell? ⟨b', o' + i * 2 + 1, none⟩ = some (.int .i64 ((m r i).2 : Int))) := fun W hW hc hh0 => by
        obtain ⟨b1, o1, e1, _, hr1⟩ := hW.sch.2 (by omega)
        cases e1
        obtain ⟨q2, c2, h1, h2⟩ := hr1 r hrk
        rw [h1] at hc
        cases hc
        exact h2 hh0
      have HBK : Hid (∀ W W', KeepsM K W W' → W.cell? ⟨b, o + r, none⟩ = some (.slice q h cq) → W'.cell? ⟨b, o + r, none⟩ = some (.slice q h cq)) := fun W W' hkp hc => (World.cell?_of_block (a := ⟨b, o + r, none⟩) (hkp.2 b hb)).trans hc
      have HK1 := Lib.hid k1
      gi_wp2
      gi_loopw [16] (fun s16 wq => ∃ (i : Nat) (pre : List (MtX k h)), i ≤ h ∧ s16 = .int .i64 (i : Int) ∧ J pre wq ∧ Hid (pre.map (·.1) = allQ r h ++ (List.range i).map fun i => (r, i)) ∧ pre.length ≤ r * 8 + i ∧ Hid (MtIn Bg K (some ⟨b, o, none⟩) c k h m wq) ∧ Hid (wq.cell? ⟨b, o + r, none⟩ = some (.slice q h cq))) (fun s16 _ => h - (intOf s16).toNat)
      case atStart => exact ⟨0, pre, by omega, rfl, hJ, by unfold Hid; rw [hS.out]; simp, by omega, hIn, HK1⟩
      case round =>
        clear hJ hS hIn hlen k1 HK1
        obtain ⟨i, pre, hi, rfl, hJ, hS, hlen, hIn, HK1⟩ := hrel
        by_cases hih : i < h
        · have g2 : (i : Int) < (h : Int) := by omega
          have g3 : (0 : Int) ≤ (i : Int) := by omega
          obtain ⟨b', o', rfl, hb', hcs⟩ := HQ0.out wr hIn.out HK1.out (by omega)
          have c1 := (hcs i hih).1
          have c2 := (hcs i hih).2
          have HJA : Hid (J pre (wr.alloc (.cells #[.int .i64 ((m r i).1 : Int), .int .i64 ((m r i).2 : Int)] 28))) := HOWN.out pre wr _ hJ ((Below.refl _ _).alloc (Nat.le_refl _) _)
          have HIA : Hid (MtIn Bg K (some ⟨b, o, none⟩) c k h m (wr.alloc (.cells #[.int .i64 ((m r i).1 : Int), .int .i64 ((m r i).2 : Int)] 28))) := hIn.out.keep (KeepsG.of_below ((Below.refl wr.heap.size wr).alloc (Nat.le_refl _) _) hIn.out.sch.1 hIn.out.lt)
          have HKA := Lib.hid (HBK.out wr (wr.alloc (.cells #[.int .i64 ((m r i).1 : Int), .int .i64 ((m r i).2 : Int)] 28)) (KeepsM.of_below ((Below.refl wr.heap.size wr).alloc (Nat.le_refl _) _) hIn.out.sch.1) HK1.out)
          obtain ⟨fn, tmps, assign, body, hyl, hR⟩ := hY pre ⟨(r, i), hrk, hih⟩ _ HJA.out (by omega)
          have HR := Lib.hid hR
          have hy2 : (Instr.yield l #[.int .i64 (r : Int), .agg #[.int .i64 ((m r i).1 : Int), .int .i64 ((m r i).2 : Int)]]).run Try.prog (wr.alloc (.cells #[.int .i64 ((m r i).1 : Int), .int .i64 ((m r i).2 : Int)] 28)) = .ok (.round l fn tmps assign body) (wr.alloc (.cells #[.int .i64 ((m r i).1 : Int), .int .i64 ((m r i).2 : Int)] 28)) := hyl
          have HSN : Hid ((pre ++ [(⟨(r, i), hrk, hih⟩ : MtX k h)]).map (·.1) = allQ r h ++ (List.range (i + 1)).map fun i => (r, i)) := by
            unfold Hid; rw [List.map_append, hS.out, List.range_succ, List.map_append, List.append_assoc]; rfl
          have HVP : Hid (VP (pre ++ [(⟨(r, i), hrk, hih⟩ : MtX k h)])) := by
            obtain ⟨s, e⟩ := allQ_pre (h := h) hrk (show i + 1 ≤ h by omega)
            exact ⟨s, by rw [e, HSN.out]⟩
          have hlen2 : (pre ++ [(⟨(r, i), hrk, hih⟩ : MtX k h)]).length ≤ r * 8 + (i + 1) := by simp; omega
          generalize (⟨(r, i), hrk, hih⟩ : MtX k h) = xx at *
          clear hyl hR hS hJ hIn hcs HK1
          generalize (m r i).1 = u at *
          generalize (m r i).2 = v at *
          gi_wp2
          refine HR.out.mono ?_
          rintro e W3 (⟨rfl, hJ3, hk3⟩ | ⟨rfl, hJx3⟩)
          · have hI3 := Lib.hid (HIA.out.keep hk3)
            have hK3 := Lib.hid (HBK.out _ _ hk3.1 HKA.out)
            clear c1 c2 hy2
            gi_wp2
            exact ⟨⟨i + 1, pre ++ [xx], by omega, int_eq (by omega), hJ3, HSN, hlen2, hI3, hK3⟩, by simp [intOf]; omega⟩
          · clear c1 c2 hy2
            gi_wp2
            refine bodyPost_ret (results_none rfl _ _ _) rfl ?_
            exact ⟨⟨_, rfl⟩, .inr ⟨_, HVP.out, hJx3⟩⟩
        · have g2 : ¬ (i : Int) < (h : Int) := by omega
          obtain rfl : h = i := by omega
          have HSN : Hid (pre.map (·.1) = allQ (r + 1) h) := by rw [allQ_succ]; exact hS
          gi_wp2
          exact ⟨⟨r + 1, pre, by omega, int_eq (by omega), hJ, HSN, by omega, hIn⟩, by simp [intOf]; omega⟩
    · have g1 : ¬ (r : Int) < (k : Int) := by omega
      obtain rfl : k = r := by omega
      gi_wp2
      go_end0
      exact ⟨⟨_, rfl⟩, .inl ⟨pre, hS.out, hJ⟩⟩
theorem matchesf_any (p : Option Addr) (k c : Nat) (w : World) :
    Calls Try.prog 56 #[.slice p k c] w fun e w' => e = .returned (.func (.func 87) #[] #[.pointer (some ⟨w.heap.size, 0, none⟩)]) ∧ w' = w.alloc (.cells #[.slice p k c] 24) := by
  go_enter Try.func56, Try.ntmps56
  go_wp2
  go_ret
  exact ⟨by simp, rfl⟩
theorem mt_stops (N : Nat) (hN : 1 ≤ N) (Bg K c k h : Nat) (p : Option Addr) (m : Nat → Nat → Nat × Nat) (hk : k ≤ 15) (hh : h ≤ 8) (w : World) (hI : MtIn Bg K p c k h m w) :
    SeqStopsK Fence.wide N Try.prog 87 #[.pointer (some ⟨Bg, 0, none⟩)] (mtE m (k := k) (h := h)) (KeepsG K Bg) (fun ys => ys.map (·.1) = allQ k h) VP 200 w := fun l J Jx W hW hJ _ hY h0 =>
  mt_in N hN l Bg K c k h p m hk hh J Jx (fun pre A A' h hB => hJ pre A A' none h ⟨hB.os, hB.tape, hB.output, hB.size, fun k hk _ => hB.block k hk⟩ (fun r e => by cases e)) hY W (hI.keep (KeepsG.of_below hW hI.sch.1 hI.lt)) h0
/-- the law of a loop over the matches whose match is boxed -/
theorem rf_box2 {k h : Nat} {m : Nat → Nat → Nat × Nat} {n : Nat} {g : Operand} {t1 t2 d1 d2 : Nat} {i1 i2 : Nat} {ty1 ty2 ty3 : TypeId} {p1 p2 p3 : String} {aft1 : Array Edge} {e1 e2 : Edge} {body : Code} {Q : Exit → Act → World → Prop} {a : Act} {w : World}
    (h1 : 1 ≤ n) {gf : Nat} {lb : Array Value} (hg : a.eval g = .func (.func gf) #[] lb) (eg : ∀ args w, (callFunc gf args).run Try.prog w = .ok (.enter gf args) w)
    {K Bg : Nat} {S Sp : List (MtX k h) → Prop} {N : Nat} (hseq : SeqStopsK Fence.wide (n - 1) Try.prog gf lb (mtE m (k := k) (h := h)) (KeepsG K Bg) S Sp N w) (hKw : K ≤ w.heap.size) (hBw : Bg < w.heap.size)
    (ht1 : t1 < a.tmps.size) (ht2 : t2 < a.tmps.size) (hd2 : d2 < a.tmps.size) (ht12 : t1 ≠ t2) (htd : t2 ≠ d1) (htd2 : t2 ≠ d2) (I : List (MtX k h) → World → Prop) (Ix : Code → List (MtX k h) → World → Prop) (hI : OwnFrom w.heap.size I) (hIx : ∀ c, OwnFrom w.heap.size (Ix c)) (hIs : ∀ pre W, I pre W → w.heap.size ≤ W.heap.size) (h0 : I [] w)
    (hbody : ∀ (l : Nat) (pre : List (MtX k h)) (x : MtX k h) (W : World) (B8 : Nat), I pre W → w.heap.size ≤ B8 → BoxN W B8 28 #[.int .i64 ((m x.1.1 x.1.2).1 : Int), .int .i64 ((m x.1.1 x.1.2).2 : Int)] → pre.length < N →
      body.wpIn (Fence.wide.inRound l) (n - 1 - 1) Try.prog (ownPostG w.heap.size (KeepsG K Bg) I Ix (pre ++ [x]) W) { tmps := (((a.tmps.setIfInBounds t1 (.int .i64 (x.1.1 : Int))).setIfInBounds t2 (.agg #[.int .i64 ((m x.1.1 x.1.2).1 : Int), .int .i64 ((m x.1.1 x.1.2).2 : Int)])).setIfInBounds d1 (.int .i64 (x.1.1 : Int))).setIfInBounds d2 (.pointer (some ⟨B8, 0, none⟩)), defers := [] } W)
    (hdone : ∀ (D : Nat) (xs : List (MtX k h)) (W : World), w.heap.size ≤ D → S xs → I xs W → W.heap[D]? = some (.deferred (some [])) → Q .normal { a with defers := { target := .collected D, args := #[] } :: a.defers } W)
    (hstop : ∀ (D : Nat) (c : Code) (pre : List (MtX k h)) (W : World), w.heap.size ≤ D → Sp pre → Ix c pre W → W.heap[D]? = some (.deferred (some [])) → c.wpIn Fence.wide n Try.prog Q { a with defers := { target := .collected D, args := #[] } :: a.defers } W) :
    (Code.rangeFunc g #[t1, t2] ((Code.region i1 #[{ dst := some d1, op := Op.assign (Operand.tmp t1), type := ty1, pos := p1, after := aft1, guard := none }] false).seq (Code.region i2 #[{ dst := some d2, op := Op.alloc 28, type := ty2, pos := p2, after := #[], guard := none }, { dst := none, op := Op.store 28 (Operand.tmp d2) (Operand.tmp t2), type := ty3, pos := p3, after := #[e1, e2], guard := none }] false)) body).wpIn Fence.wide n Try.prog Q a w := by
  refine wpIn_rangeFunc_ownH rfl h1 hg trivial eg hseq (fun h k => keepsG_t h k) (keepsG_b hKw hBw) (Below.refl _ _) (fun _ => rfl) I Ix hI hIx h0
    (fun x a' W => ∃ B8, a' = { tmps := (((a.tmps.setIfInBounds t1 (.int .i64 (x.1.1 : Int))).setIfInBounds t2 (.agg #[.int .i64 ((m x.1.1 x.1.2).1 : Int), .int .i64 ((m x.1.1 x.1.2).2 : Int)])).setIfInBounds d1 (.int .i64 (x.1.1 : Int))).setIfInBounds d2 (.pointer (some ⟨B8, 0, none⟩)), defers := [] } ∧ w.heap.size ≤ B8 ∧ BoxN W B8 28 #[.int .i64 ((m x.1.1 x.1.2).1 : Int), .int .i64 ((m x.1.1 x.1.2).2 : Int)])
    (fun x a' _ A C row hs hg hr => ?_) ?_ (fun l pre x a' W _ _ hi ha hl => ?_) hdone hstop
  · obtain ⟨B8, e, hb, hx⟩ := hs
    refine ⟨B8, e, hb, hx.kept hg (fun e2 => ?_)⟩
    obtain ⟨_, o, ho, hc⟩ := hr B8 e2.symm
    rw [show A.heap[B8]? = _ from hx] at ho
    cases ho
    cases hc
  · intro l pre x W KK hi hK
    have hsz := hIs pre W hi
    obtain ⟨u, hu⟩ : ∃ u, (m x.1.1 x.1.2).1 = u := ⟨_, rfl⟩
    obtain ⟨v, hv⟩ : ∃ v, (m x.1.1 x.1.2).2 = v := ⟨_, rfl⟩
    have e : (Array.zip #[t1, t2] (mtE m x)).foldl (fun t (p, v) => t.setIfInBounds p v) a.tmps = (a.tmps.setIfInBounds t1 (.int .i64 (x.1.1 : Int))).setIfInBounds t2 (.agg #[.int .i64 (u : Int), .int .i64 (v : Int)]) := by unfold mtE; rw [hu, hv]; simp
    rw [e]
    rw [hu, hv] at hK
    have hv1 : ((a.tmps.setIfInBounds t1 (Value.int .i64 (x.1.1 : Int))).setIfInBounds t2 (.agg #[.int .i64 (u : Int), .int .i64 (v : Int)])).getD t1 undef = .int .i64 (x.1.1 : Int) := by
      rw [Array.getD_eq_getD_getElem?, Array.getElem?_setIfInBounds_ne ht12.symm, Array.getElem?_setIfInBounds_self_of_lt ht1]; rfl
    have hv2 : ∀ q : Value, ((((a.tmps.setIfInBounds t1 (Value.int .i64 (x.1.1 : Int))).setIfInBounds t2 (.agg #[.int .i64 (u : Int), .int .i64 (v : Int)])).setIfInBounds d1 (.int .i64 (x.1.1 : Int))).setIfInBounds d2 q).getD t2 undef = .agg #[.int .i64 (u : Int), .int .i64 (v : Int)] := fun q => by
      rw [Array.getD_eq_getD_getElem?, Array.getElem?_setIfInBounds_ne htd2.symm, Array.getElem?_setIfInBounds_ne htd.symm, Array.getElem?_setIfInBounds_self_of_lt (by simpa using ht2)]; rfl
    have hv3 : ∀ q : Value, ((((a.tmps.setIfInBounds t1 (Value.int .i64 (x.1.1 : Int))).setIfInBounds t2 (.agg #[.int .i64 (u : Int), .int .i64 (v : Int)])).setIfInBounds d1 (.int .i64 (x.1.1 : Int))).setIfInBounds d2 q).getD d2 undef = q := fun q => by
      rw [Array.getD_eq_getD_getElem?, Array.getElem?_setIfInBounds_self_of_lt (by simpa using hd2)]; rfl
    have hKA := Lib.hid (hK _ (W.alloc (.cells #[.int .i64 (u : Int), .int .i64 (v : Int)] 28)) ⟨by simp, fun kk o _ ho _ => (World.grownBy_alloc W _ none).block kk (Array.getElem?_eq_some_iff.1 ho).1 (by simp) |>.trans ho⟩ (KeepsG.of_below ((Below.refl W.heap.size W).alloc (Nat.le_refl _) _) (by omega) (by omega)) (hI.alloc _ hi) ⟨W.heap.size, rfl, by omega, BoxN.new rfl⟩)
    clear hK
    gi_wp2
    exact hKA.out
  · obtain ⟨B8, rfl, hb, hx⟩ := ha
    exact hbody l pre x W B8 hi hb hx hl
end Go.Proofs.Ytbioondlmgolkaa
