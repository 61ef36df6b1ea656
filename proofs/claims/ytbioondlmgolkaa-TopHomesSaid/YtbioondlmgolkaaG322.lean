/- A sorted copy of a few integers: walks. Sums of a few numbers, and what is less: walks. What is a violation of a list of scores: a tournament's scores have none. Walks. The scores of a tournament: walks. -/
import Derived.Test.YtbioondlmgolkaaSp
import Derived.Test.YtbioondlmgolkaaG309
import Derived.Lib.LazyBuf
import Derived.Test.YtbioondlmgolkaaEq
import Derived.Test.YtbioondlmgolkaaG310
import Derived.Test.YtbioondlmgolkaaG313
set_option linter.unusedVariables false
set_option linter.unusedSimpArgs false
namespace Go.Proofs.Ytbioondlmgolkaa
open Go.RowKit Go.Shelf

theorem qrow_empty (W : World) (t : TypeId) (sz : Nat) {base : Nat} (hb : base ≤ W.heap.size) : QRow (W.alloc (.cells #[] t)) base t sz (.slice (some ⟨W.heap.size, 0, none⟩) 0 0) 0 [] :=
  ⟨by simp, .inr ⟨W.heap.size, 0, 0, #[], rfl, hb, World.alloc_heap_new W _, Nat.le_refl _, by decide, by simp, fun j hj => by omega⟩⟩
set_option maxRecDepth 100000 in
theorem stable_any (base g o n c : Nat) (f0 : Nat → Int) (w : World) (hn : n ≤ 19) (hQ : QRow w base 3 1 (.slice (some ⟨g, o, none⟩) n c) n (ivI f0 n)) :
    Calls Try.prog 105 #[.slice (some ⟨g, o, none⟩) n c, .int .i64 (n : Int), .func (.func 65) #[] #[]] w fun e w' => e = .returned (.tuple #[]) ∧ (∃ f, QRow w' base 3 1 (.slice (some ⟨g, o, none⟩) n c) n (ivI f n) ∧ SortedTo f n ∧ (vals f n).Perm (vals f0 n)) ∧ Ag (· = g) w w' := by
  have HI := Lib.hid (insort_any base g o n c f0 w (by omega) hQ)
  have g1 : ¬ (20 : Int) ≤ (n : Int) := by omega
  have g2 : ¬ (20 : Int) < (n : Int) := by omega
  clear hQ
  go_enter Try.func105, Try.ntmps105
  go_upto_region 2 with (fail)
  go_loopw [7, 8] (fun s7 s8 wr => s7 = .int .i64 0 ∧ s8 = .int .i64 20 ∧ Hid (wr.heap = w.heap ∧ wr = w)) (fun _ _ _ => 0)
  case atStart => exact ⟨rfl, rfl, rfl, rfl⟩
  case round =>
    obtain ⟨rfl, rfl, hw⟩ := hrel
    obtain ⟨_, hw⟩ := hw.out
    replace hw := hw.symm
    subst hw
    go_upto_region 7 with (go_at_call 111; refine HI.out.mono ?_; rintro e w1 ⟨rfl, hx, hA⟩; have HX := Lib.hid hx; have HA := Lib.hid hA; clear hx hA)
    go_loopw [6] (fun s6 wr => s6 = .int .i64 20 ∧ Hid (wr.heap = w1.heap ∧ wr = w1)) (fun _ _ => 0)
    case atStart => exact ⟨rfl, rfl, rfl⟩
    case round =>
      obtain ⟨rfl, hw⟩ := hrel
      obtain ⟨_, hw⟩ := hw.out
      replace hw := hw.symm
      subst hw
      go_wp2
      go_end0
      exact ⟨rfl, HX.out, HA.out⟩
set_option maxRecDepth 100000 in
theorem sortst_any (base g o n c : Nat) (f0 : Nat → Int) (w : World) (hn : n ≤ 19) (hQ : QRow w base 3 1 (.slice (some ⟨g, o, none⟩) n c) n (ivI f0 n)) :
    Calls Try.prog 93 #[.slice (some ⟨g, o, none⟩) n c, .func (.func 65) #[] #[]] w fun e w' => e = .returned (.tuple #[]) ∧ (∃ f, QRow w' base 3 1 (.slice (some ⟨g, o, none⟩) n c) n (ivI f n) ∧ SortedTo f n ∧ (vals f n).Perm (vals f0 n)) ∧ Ag (· = g) w w' := by
  have HI := Lib.hid (stable_any base g o n c f0 w hn hQ)
  clear hQ
  go_enter Try.func93, Try.ntmps93
  go_wp2_with (go_at_call 105; refine HI.out.mono ?_; rintro e w1 ⟨rfl, hx, hA⟩; have HX := Lib.hid hx; have HA := Lib.hid hA; clear hx hA)
  go_end0
  exact ⟨rfl, HX.out, HA.out⟩
set_option maxRecDepth 100000 in
theorem clone_any (p : Option Addr) (n c : Nat) (f : Nat → Int) (w : World) (hn0 : 1 ≤ n) (hn : n ≤ 1000) (hc : n ≤ c) (hS : SrcI w p n f) :
    Calls Try.prog 92 #[.slice p n c] w fun e w' => (∃ g o c', e = .returned (.slice (some ⟨g, o, none⟩) n c') ∧ QRow w' w.heap.size 3 1 (.slice (some ⟨g, o, none⟩) n c') n (ivI f n)) ∧ Below w.heap.size w w' := by
  obtain ⟨i0, hi0, hz0, hz1, hz2⟩ := info_parts info3
  obtain ⟨b, o, rfl, hb, _⟩ := id hS (by omega)
  have HQ0 := Lib.hid (qrow_empty w 3 1 (Nat.le_refl w.heap.size))
  have HB0 : Hid (Below w.heap.size w (w.alloc (.cells #[] 3))) := (Below.refl _ _).alloc (Nat.le_refl _) _
  have HSZ : Hid ((w.alloc (.cells #[] 3)).heap.size = w.heap.size + 1) := by unfold Hid; simp
  have HS0 : Hid (Src (w.alloc (.cells #[] 3)) (some ⟨b, o, none⟩) n 1 (ivI f n)) := (hS.below HB0.out (Nat.le_refl _)).src
  have HO0 := Lib.hid (ivI_one f n)
  have hE : ∀ W (p : Option Addr) (m c : Nat), (binOp .eql 34 (.slice p m c) (.slice none 0 0)).run Try.prog W = .ok (.bool p.isNone) W := fun W p m c => Go.Lib.run_eql_slice_nil W 34 3 p m c 0 0 Try.underlying34
  clear hS
  go_enter Try.func92, Try.ntmps92
  go_wp2_with (at_builtin; go_must (refine wpList_append_qq _ rfl (.tmp 5) (.tmp 6) 34 rfl w.heap.size 3 i0 (.int .i64 0) 1 8 Try.underlying34 hi0 hz0 hz1 hz2 rfl (by decide) _ 0 [] rfl HQ0.out (some ⟨b, o, none⟩) n c (ivI f n) rfl HS0.out HO0.out (by unfold maxLen; omega) (by omega) (by rw [HSZ.out]; omega) ?_); intro v6 w6 hq6 hg6 ho6; rw [Nat.zero_add, List.nil_append] at hq6; have HQ6 := Lib.hid hq6; have HB6 : Hid (Below w.heap.size w w6) := Below.grown HB0.out hg6 (by rw [HSZ.out]; omega) (fun kk e => by cases e; exact Nat.le_refl _); clear hq6 hg6 ho6)
  obtain ⟨p6, c6, rfl⟩ := HQ6.out.isSlice
  obtain ⟨g6, o6, c7, e6, _⟩ := HQ6.out.at (by omega)
  go_ret
  refine ⟨?_, HB6.out⟩
  cases e6
  exact ⟨g6, o6, _, rfl, HQ6.out⟩
set_option maxRecDepth 100000 in
/-- a sorted copy -/
theorem sorted_any (p : Option Addr) (n c : Nat) (f0 : Nat → Int) (w : World) (hn0 : 1 ≤ n) (hn : n ≤ 19) (hc : n ≤ c) (hS : SrcI w p n f0) :
    Calls Try.prog 64 #[.slice p n c, .func (.func 65) #[] #[]] w fun e w' => (∃ g o c' f, e = .returned (.slice (some ⟨g, o, none⟩) n c') ∧ QRow w' w.heap.size 3 1 (.slice (some ⟨g, o, none⟩) n c') n (ivI f n) ∧ SortedTo f n ∧ (vals f n).Perm (vals f0 n)) ∧ Below w.heap.size w w' := by
  have HC := Lib.hid (clone_any p n c f0 w hn0 (by omega) hc hS)
  clear hS
  go_enter Try.func64, Try.ntmps64
  go_upto_region 2 with (go_at_call 92; refine HC.out.mono ?_; rintro e w1 ⟨⟨g, o, c', rfl, hq⟩, hB⟩; have HQ := Lib.hid hq; have HB := Lib.hid hB; clear hq hB)
  have HI := Lib.hid (sortst_any w.heap.size g o n c' f0 w1 hn HQ.out)
  have hgl := (HQ.out.lt g rfl).1
  go_wp2_with (go_at_call 93; refine HI.out.mono ?_; rintro e w2 ⟨rfl, hx, hA⟩; have HX := Lib.hid hx; have HA := Lib.hid hA; clear hx hA)
  obtain ⟨f, h1, h2, h3⟩ := HX.out
  go_ret
  exact ⟨⟨g, o, c', f, rfl, h1, h2, h3⟩, HA.out.below HB.out HB.out.size (fun k hk e => by omega)⟩
end Go.Proofs.Ytbioondlmgolkaa
namespace Go.Proofs.Ytbioondlmgolkaa
open Go.RowKit Go.Shelf

theorem and_low (a : Nat) (ha : a < 1048576) : bits .and .i64 (a : Int) 4294967295 = (a : Int) :=
  wrap_back a (BitVec.ofInt 64 (a : Int) &&& BitVec.ofInt 64 (4294967295 : Int)) (by
    have h2 : (BitVec.ofInt 64 (4294967295 : Int)).toNat = 4294967295 := by decide
    rw [BitVec.toNat_and, ofInt_small a ha, h2]
    have m : ∀ y, y &&& 4294967295 = y % 4294967296 := fun y => Nat.and_two_pow_sub_one_eq_mod y 32
    rw [m]; omega) ha
def sumN (h : Nat → Nat) : Nat → Nat
  | 0 => 0
  | k + 1 => sumN h k + h k
theorem sumN_le {h : Nat → Nat} {c : Nat} (hc : ∀ j, h j ≤ c) : ∀ n, sumN h n ≤ n * c
  | 0 => by simp [sumN]
  | n + 1 => by
    have h1 := sumN_le hc n
    have h2 := hc n
    unfold sumN
    rw [Nat.add_mul]; omega
set_option maxRecDepth 100000 in
set_option maxHeartbeats 2000000 in
theorem plus_any (p : Option Addr) (n c : Nat) (h : Nat → Nat) (w : World) (hn : n ≤ 20) (hs : ∀ j, h j ≤ 1000) (hS : SrcI w p n (fun j => (h j : Int))) :
    Calls Try.prog 63 #[.agg #[.int .i64 0, .int .i64 0], .slice p n c] w fun e w' => e = .returned (.agg #[.int .i64 0, .int .i64 (sumN h n : Int)]) ∧ Below w.heap.size w w' := by
  have HS := Lib.hid hS
  have HH := Lib.hid hs
  clear hS hs
  go_enter Try.func63, Try.ntmps63
  have HX0 : Hid (BoxN ((w.alloc (.cells #[.int .i64 0, .int .i64 0] 133)).alloc (.cells #[.int .i64 0, .int .i64 0] 133)) w.heap.size 133 #[.int .i64 0, .int .i64 0]) := (BoxN.new rfl).alloc _
  have HY0 : Hid (BoxN ((w.alloc (.cells #[.int .i64 0, .int .i64 0] 133)).alloc (.cells #[.int .i64 0, .int .i64 0] 133)) (w.heap.size + 1) 133 #[.int .i64 0, .int .i64 0]) := BoxN.new (by simp)
  have HB0 : Hid (Below w.heap.size w ((w.alloc (.cells #[.int .i64 0, .int .i64 0] 133)).alloc (.cells #[.int .i64 0, .int .i64 0] 133))) := ((Below.refl _ _).alloc (Nat.le_refl _) _).alloc (by simp) _
  go_upto_region 2 with (fail)
  generalize ((w.alloc (.cells #[.int .i64 0, .int .i64 0] 133)).alloc (.cells #[.int .i64 0, .int .i64 0] 133)) = X at *
  obtain ⟨b1, hb1⟩ : ∃ b1, Hid (b1 = w.heap.size) := ⟨_, rfl⟩
  obtain ⟨b2, hb2⟩ : ∃ b2, Hid (b2 = w.heap.size + 1) := ⟨_, rfl⟩
  rw [← hb2.out] at HY0 ⊢
  rw [← hb1.out] at HX0
  simp only [← hb1.out]
  have hne : b2 ≠ b1 := by rw [hb1.out, hb2.out]; omega
  have hlo : w.heap.size ≤ b1 := by rw [hb1.out]; exact Nat.le_refl _
  have hlo2 : w.heap.size ≤ b2 := by rw [hb2.out]; omega
  go_loopw [9] (fun s9 wr => ∃ i : Nat, i ≤ n ∧ s9 = .int .i64 (i : Int) ∧ Hid (BoxN wr b1 133 #[.int .i64 0, .int .i64 (sumN h i : Int)]) ∧ Hid (BoxN wr b2 133 #[.int .i64 0, .int .i64 0]) ∧ Hid (Below w.heap.size w wr)) (fun s9 _ => n - (intOf s9).toNat)
  case atStart => exact ⟨0, by omega, rfl, HX0, HY0, HB0⟩
  case round =>
    clear HX0 HY0 HB0
    obtain ⟨i, hi, rfl, hX, hY, hB⟩ := hrel
    have x0 := hX.out.cell 0
    have x1 := hX.out.cell 1
    have fx0 := hX.out.frozen 0
    have fx1 := hX.out.frozen 1
    have HSL := Lib.hid (sumN_le HH.out i)
    have hs20 : sumN h i ≤ 20000 := by have := HSL.out; omega
    by_cases hin : i < n
    · have g1 : (i : Int) < (n : Int) := by omega
      have g0 : (0 : Int) ≤ (i : Int) := by omega
      obtain ⟨b, o, rfl, hb, hc⟩ := (HS.out.below hB.out (Nat.le_refl _)) (by omega)
      have k1 : wr.cell? ⟨b, o + i, none⟩ = some (.int .i64 ((h i : Nat) : Int)) := hc i hin
      have hh := HH.out i
      have HSN : Hid (sumN h (i + 1) = sumN h i + h i) := rfl
      have ha := and_low (h i) (by omega)
      have hd : ((h i : Nat) : Int) / 4294967296 = 0 := by omega
      generalize h i = z at *
      generalize sumN h i = s at *
      clear hc
      have HX2 : Hid (BoxN ((wr.setCell ⟨b1, 0, none⟩ (.int .i64 0)).setCell ⟨b1, 1, none⟩ (.int .i64 ((s : Int) + (z : Int)))) b1 133 #[.int .i64 0, .int .i64 (sumN h (i + 1) : Int)]) := by
        rw [HSN.out]
        have := (hX.out.set 0 (.int .i64 0)).set 1 (.int .i64 ((s : Int) + (z : Int)))
        unfold Hid
        simpa using this
      have HY2 : Hid (BoxN ((wr.setCell ⟨b1, 0, none⟩ (.int .i64 0)).setCell ⟨b1, 1, none⟩ (.int .i64 ((s : Int) + (z : Int)))) b2 133 #[.int .i64 0, .int .i64 0]) := (hY.out.other (a := ⟨b1, 0, none⟩) hne _).other (a := ⟨b1, 1, none⟩) hne _
      have HB2 : Hid (Below w.heap.size w ((wr.setCell ⟨b1, 0, none⟩ (.int .i64 0)).setCell ⟨b1, 1, none⟩ (.int .i64 ((s : Int) + (z : Int))))) := (hB.out.setCell (p := ⟨b1, 0, none⟩) hlo _).setCell (p := ⟨b1, 1, none⟩) hlo _
      clear hX hY hB
      go_wp2
      exact ⟨⟨i + 1, by omega, int_eq (by omega), HX2, HY2, HB2⟩, by simp [intOf]; omega⟩
    · have g1 : ¬ (i : Int) < (n : Int) := by omega
      obtain rfl : n = i := by omega
      have ha := and_low (sumN h n) (by omega)
      have hd : ((sumN h n : Nat) : Int) / 4294967296 = 0 := by omega
      have y0 := hY.out.cell 0
      have y1 := hY.out.cell 1
      have fy0 := hY.out.frozen 0
      have fy1 := hY.out.frozen 1
      have HZ := Lib.hid ((((hY.out.other (a := ⟨b1, 0, none⟩) hne (.int .i64 0)).other (a := ⟨b1, 1, none⟩) hne (.int .i64 ((sumN h n : Nat) : Int))).set 0 (.int .i64 0)).set 1 (.int .i64 ((sumN h n : Nat) : Int)))
      have HBZ := Lib.hid ((((hB.out.setCell (p := ⟨b1, 0, none⟩) hlo (.int .i64 0)).setCell (p := ⟨b1, 1, none⟩) hlo (.int .i64 ((sumN h n : Nat) : Int))).setCell (p := ⟨b2, 0, none⟩) hlo2 (.int .i64 0)).setCell (p := ⟨b2, 1, none⟩) hlo2 (.int .i64 ((sumN h n : Nat) : Int)))
      have r0 := HZ.out.cell 0
      have r2 := (((hY.out.other (a := ⟨b1, 0, none⟩) hne (.int .i64 0)).other (a := ⟨b1, 1, none⟩) hne (.int .i64 ((sumN h n : Nat) : Int))).set 0 (.int .i64 0)).cell 0
      have r1 := HZ.out.cell 1
      clear hX hY hB
      go_wp2
      refine bodyPost_ret (v := .agg #[.int .i64 0, .int .i64 ((sumN h n : Nat) : Int)]) (by simp [results, Try.f63, go_sem, r0, r1, r2]) rfl ?_
      exact ⟨rfl, HBZ.out⟩
end Go.Proofs.Ytbioondlmgolkaa
namespace Go.Proofs.Ytbioondlmgolkaa
open Go.RowKit Go.Shelf

theorem guardW : Try.prog.eqGuardType Try.prog.depth 133 = false := by kernel_rfl
@[go_sem] theorem eqW (a b c d : Int) (w : World) : (Op.equalIn 10000 133 (.agg #[.int .i64 a, .int .i64 b]) (.agg #[.int .i64 c, .int .i64 d])).run Try.prog w = .ok (a == c && b == d) w := by
  rw [show (10000 : Nat) = 9999 + 1 from rfl]
  rw [run_equalIn_agg _ _ _ _ _ (by kernel_rfl) (by kernel_rfl)]
  rw [show (Try.prog.fieldsOf 133).toList = [{ name := "high", type := 2, offset := 0, embedded := false, tag := "", pkgPath := "forcola/score", byteOffset := 0 }, { name := "low", type := 2, offset := 1, embedded := false, tag := "", pkgPath := "forcola/score", byteOffset := 8 }] from by kernel_rfl]
  have e3 : Try.prog.underlying 2 = some (.int .i64) := by kernel_rfl
  have p3 : ∀ (x y : Value) w, (Go.part 2 #[x, y] 0).run Try.prog w = .ok x w := fun _ _ _ => by kernel_rfl
  have p4 : ∀ (x y : Value) w, (Go.part 2 #[x, y] 1).run Try.prog w = .ok y w := fun _ _ _ => by kernel_rfl
  have q3 : ∀ (a c : Int) w, (Op.equalIn 9999 2 (.int .i64 a) (.int .i64 c)).run Try.prog w = .ok (a == c) w := fun a c w => run_equalIn_int w 9998 2 _ _ _ _ e3
  simp only [Op.eqFields, Sem.run_bind, Sem.run_ite]
  rw [if_pos (by decide)]
  rw [p3, Result.andThen_ok, p3, Result.andThen_ok, q3, Result.andThen_ok]
  by_cases e : a = c
  · rw [if_neg (by simp [e]), if_pos (by decide), p4, Result.andThen_ok, p4, Result.andThen_ok, q3, Result.andThen_ok]
    by_cases e' : b = d
    · simp [e, e']
    · simp [e, e']
  · rw [if_pos (by simp [e])]; simp [e]
@[go_sem] theorem eqgW (op : BinOp) (x y : Operand) (xs ys : Array Value) (w : World) : (eqGuard op 133 x y (.agg xs) (.agg ys)).run Try.prog w = .ok () w := run_eqGuard_agg w op 133 x y xs ys guardW
set_option maxRecDepth 100000 in
theorem less_any (a b : Int) (w : World) : Calls Try.prog 66 #[.agg #[.int .i64 0, .int .i64 a], .agg #[.int .i64 0, .int .i64 b]] w fun e w' => e = .returned (.bool (decide (a < b))) ∧ Below w.heap.size w w' := by
  go_enter Try.func66, Try.ntmps66
  go_wp2
  go_ret
  exact ⟨rfl, ((Below.refl _ _).alloc (Nat.le_refl _) _).alloc (by simp) _⟩
theorem SrcI.same {w : World} {p : Option Addr} {m : Nat} {f f' : Nat → Int} (h : SrcI w p m f) (e : ∀ j, j < m → f j = f' j) : SrcI w p m f' := fun h0 => by
  obtain ⟨b, o, e1, h1, h2⟩ := h h0
  exact ⟨b, o, e1, h1, fun j hj => by rw [h2 j hj, e j hj]⟩
theorem srcI_one (W : World) (z : Int) : SrcI (W.alloc (.cells #[.int .i64 z] 3)) (some ⟨W.heap.size, 0, none⟩) 1 (fun _ => z) := fun _ => ⟨_, 0, rfl, by simp, fun j hj => by
  obtain rfl : j = 0 := by omega
  rw [Nat.zero_add, (BoxN.new (W := W) (t := 3) (vs := #[.int .i64 z]) rfl).cell]; rfl⟩
theorem sum_map (h : Nat → Nat) : ∀ k, ((List.range k).map h).sum = sumN h k
  | 0 => rfl
  | k + 1 => by rw [List.range_succ, List.map_append, List.sum_append, sum_map h k]; simp [sumN]
theorem half_of (k : Nat) (hk : k ≤ 12) : ∃ v : Nat, v ≤ 66 ∧ k * (k - 1) = 2 * v ∧ (k : Int) * ((k : Int) - 1) = ((2 * v : Nat) : Int) ∧ Int.tdiv ((2 * v : Nat) : Int) 2 = (v : Int) := by
  rcases (by omega : k = 0 ∨ k = 1 ∨ k = 2 ∨ k = 3 ∨ k = 4 ∨ k = 5 ∨ k = 6 ∨ k = 7 ∨ k = 8 ∨ k = 9 ∨ k = 10 ∨ k = 11 ∨ k = 12) with e | e | e | e | e | e | e | e | e | e | e | e | e <;> subst e
  · exact ⟨0, by decide, rfl, rfl, rfl⟩
  · exact ⟨0, by decide, rfl, rfl, rfl⟩
  · exact ⟨1, by decide, rfl, rfl, rfl⟩
  · exact ⟨3, by decide, rfl, rfl, rfl⟩
  · exact ⟨6, by decide, rfl, rfl, rfl⟩
  · exact ⟨10, by decide, rfl, rfl, rfl⟩
  · exact ⟨15, by decide, rfl, rfl, rfl⟩
  · exact ⟨21, by decide, rfl, rfl, rfl⟩
  · exact ⟨28, by decide, rfl, rfl, rfl⟩
  · exact ⟨36, by decide, rfl, rfl, rfl⟩
  · exact ⟨45, by decide, rfl, rfl, rfl⟩
  · exact ⟨55, by decide, rfl, rfl, rfl⟩
  · exact ⟨66, by decide, rfl, rfl, rfl⟩
/-- a tournament's scores -/
structure ScP (n : Nat) (cs : Nat → Nat) : Prop where
  le : ∀ j, cs j ≤ 12
  all : 2 * sumN cs n = n * (n - 1)
  low : ∀ (k : Nat) (ys : List Nat), k ≤ n → ys.Perm ((List.range n).map cs) → k * (k - 1) ≤ 2 * (ys.take k).sum
theorem ScP.sorted {n k : Nat} {cs : Nat → Nat} {f : Nat → Int} (H : ScP n cs) (hk : k ≤ n) (hp : (vals f n).Perm (vals (fun j => (cs j : Int)) n)) : ∃ h : Nat → Nat, (∀ j, h j ≤ 12) ∧ (∀ j, j < n → f j = (h j : Int)) ∧ k * (k - 1) ≤ 2 * sumN h k := by
  have hm : ∀ j, j < n → ∃ i, f j = (cs i : Int) := fun j hj => by
    have h1 : f j ∈ vals f n := List.mem_map.2 ⟨j, List.mem_range.2 hj, rfl⟩
    obtain ⟨i, _, e⟩ := List.mem_map.1 (hp.mem_iff.1 h1)
    exact ⟨i, e.symm⟩
  refine ⟨fun j => if j < n then (f j).toNat else 0, fun j => ?_, fun j hj => ?_, ?_⟩
  · dsimp only
    split
    · rename_i hj
      obtain ⟨i, e⟩ := hm j hj
      rw [e]; have := H.le i; omega
    · omega
  · obtain ⟨i, e⟩ := hm j hj
    show f j = (((if j < n then (f j).toNat else 0 : Nat)) : Int)
    rw [if_pos hj, e]; rfl
  · have h1 : ((List.range n).map fun j => (if j < n then (f j).toNat else 0 : Nat)).Perm ((List.range n).map cs) := by
      have h2 := hp.map Int.toNat
      unfold vals at h2
      rw [List.map_map, List.map_map] at h2
      have e1 : (List.range n).map (fun j => (if j < n then (f j).toNat else 0 : Nat)) = (List.range n).map (Int.toNat ∘ f) := List.map_congr_left fun j hj => by rw [if_pos (List.mem_range.1 hj)]; rfl
      rw [e1]
      exact h2
    have h3 := H.low k _ hk h1
    rw [← sum_map]
    rw [← List.map_take, List.take_range, Nat.min_eq_left hk] at h3
    exact h3
set_option maxRecDepth 100000 in
set_option maxHeartbeats 2000000 in
theorem isShort_no (p : Option Addr) (n c k : Nat) (cs : Nat → Nat) (w : World) (hn1 : 1 ≤ n) (hn12 : n ≤ 12) (hk : k ≤ n) (hc : n ≤ c) (H : ScP n cs) (hS : SrcI w p n (fun j => (cs j : Int))) :
    Calls Try.prog 31 #[.slice p n c, .int .i64 (k : Int)] w fun e w' => e = .returned (.bool false) ∧ Below w.heap.size w w' := by
  obtain ⟨vn, hv1, hv2, hv3, hv4⟩ := half_of n hn12
  have HV := Lib.hid hv2
  have HPL := Lib.hid (plus_any p n c cs w (by omega) (fun j => by have := H.le j; omega) hS)
  have HSO := Lib.hid (sorted_any p n c (fun j => (cs j : Int)) w hn1 (by omega) hc hS)
  have HH := Lib.hid H
  have HALL : Hid (sumN cs n = vn) := by have := H.all; unfold Hid; omega
  rw [HALL.out] at HPL
  clear hS H hv2
  by_cases hk0 : k = 0
  · have q0 : ((k : Int) == 0) = true := by simp [hk0]
    clear HSO
    go_enter Try.func31, Try.ntmps31
    have HPV := Lib.hid (fun W => plus_any (some ⟨W.heap.size, 0, none⟩) 1 1 (fun _ => vn) (W.alloc (.cells #[.int .i64 (vn : Int)] 3)) (by decide) (fun _ => by omega) (srcI_one W (vn : Int)))
    have HSZ : Hid (∀ W : World, Below W.heap.size W (W.alloc (.cells #[.int .i64 (vn : Int)] 3))) := fun W => (Below.refl _ _).alloc (Nat.le_refl _) _
    have hs1 : sumN (fun _ => vn) 1 = vn := by simp [sumN]
    rw [hs1] at HPV
    clear hs1
    go_wp2_with (first
      | (go_at_call 63; with_reducible refine HPL.out.mono ?_; rintro e w1 ⟨rfl, hB1⟩; have HB1 := Lib.hid hB1; have HP2 := Lib.hid (HPV.out w1); clear HPL HPV hB1)
      | (go_at_call 63; with_reducible refine HP2.out.mono ?_; rintro e w2 ⟨rfl, hB2⟩; have HB2 := Lib.hid (HB1.out.trans (((HSZ.out w1).trans (hB2.mono (HSZ.out w1).size)).mono HB1.out.size)); clear hB2))
    go_ret
    exact ⟨by simp, HB2.out⟩
  · have q0 : ((k : Int) == 0) = false := by rw [beq_eq_false_iff_ne]; omega
    clear HPL hv3 hv4
    obtain ⟨vk, hu1, hu2, hu3, hu4⟩ := half_of k (by omega)
    have HU := Lib.hid hu2
    clear hu2
    have HPV := Lib.hid (fun W => plus_any (some ⟨W.heap.size, 0, none⟩) 1 1 (fun _ => vk) (W.alloc (.cells #[.int .i64 (vk : Int)] 3)) (by decide) (fun _ => by omega) (srcI_one W (vk : Int)))
    have HSZ : Hid (∀ W : World, Below W.heap.size W (W.alloc (.cells #[.int .i64 (vk : Int)] 3))) := fun W => (Below.refl _ _).alloc (Nat.le_refl _) _
    have hs1 : sumN (fun _ => vk) 1 = vk := by simp [sumN]
    rw [hs1] at HPV
    clear hs1
    have HLS := Lib.hid less_any
    go_enter Try.func31, Try.ntmps31
    go_wp2_with (first
      | (go_at_call 64; refine HSO.out.mono ?_; rintro e w1 ⟨⟨g, o, c', f, rfl, hq, hso, hpe⟩, hB1⟩; have HSRC := Lib.hid (hq.srcI (ivI_get f n)); have hfit := hq.fits; obtain ⟨h, hh1, hh2, hh3⟩ := HH.out.sorted hk hpe; have HP1 := Lib.hid (plus_any (some ⟨g, o, none⟩) k c' h w1 (by omega) (fun j => by have := hh1 j; omega) ((HSRC.out.take hk).same fun j hj => hh2 j (by omega))); have HGE : Hid (vk ≤ sumN h k) := (by have := HU.out; unfold Hid; omega); have HB1 := Lib.hid hB1; have hfc := hfit.1; clear hq hso hpe hB1 hh1 hh2 hh3 hfit HSO; generalize sumN h k = sk at *)
      | (go_at_call 63; with_reducible refine HP1.out.mono ?_; rintro e w2 ⟨rfl, hB2⟩; have HB2 := Lib.hid (HB1.out.trans (hB2.mono HB1.out.size)); have HP2 := Lib.hid (HPV.out w2); clear HP1 HPV hB2)
      | (go_at_call 63; with_reducible refine HP2.out.mono ?_; rintro e w3 ⟨rfl, hB3⟩; have HB3 := Lib.hid (HB2.out.trans (((HSZ.out w2).trans (hB3.mono (HSZ.out w2).size)).mono HB2.out.size)); clear hB3 HP2)
      | (go_at_call 66; refine (HLS.out _ _ _).mono ?_; rintro e w4 ⟨rfl, hB4⟩; have HB4 := Lib.hid (HB3.out.trans (hB4.mono HB3.out.size)); clear hB4))
    go_ret
    have hge := HGE.out
    exact ⟨by simp; omega, HB4.out⟩
set_option maxRecDepth 100000 in
set_option maxHeartbeats 2000000 in
theorem Short_no (p : Option Addr) (n c : Nat) (cs : Nat → Nat) (w : World) (hn1 : 1 ≤ n) (hn12 : n ≤ 12) (hc : n ≤ c) (H : ScP n cs) (hS : SrcI w p n (fun j => (cs j : Int))) :
    Calls Try.prog 10 #[.slice p n c] w fun e w' => e = .returned (.tuple #[.int .i64 0, .bool false, .int .i64 0]) ∧ Below w.heap.size w w' := by
  have HI := Lib.hid (fun k W (hk : k ≤ n) (hB : Below w.heap.size w W) => isShort_no p n c k cs W hn1 hn12 hk hc H (hS.below hB (Nat.le_refl _)))
  have HCK : Hid (∀ W, Calls Try.prog 30 #[.slice p n c, .int .i64 12] W fun e w' => e = .returned (.int .i64 0) ∧ w' = W) := fun W => by
    have g1 : ¬ (12 : Int) < (n : Int) := by omega
    have g2 : ((n : Int) == 0) = false := by rw [beq_eq_false_iff_ne]; omega
    go_enter Try.func30, Try.ntmps30
    go_wp2
    go_ret
    exact ⟨rfl, rfl⟩
  clear hS H
  go_enter Try.func10, Try.ntmps10
  go_upto_region 5 with (go_at_call 30; refine (HCK.out _).mono ?_; rintro e w4 ⟨rfl, hw4⟩; replace hw4 := hw4.symm; subst hw4)
  go_loopw [6] (fun s6 wr => ∃ k : Nat, k ≤ n + 1 ∧ s6 = .int .i64 (k : Int) ∧ Hid (Below w.heap.size w wr)) (fun s6 _ => n + 1 - (intOf s6).toNat)
  case atStart => exact ⟨0, by omega, rfl, Below.refl _ _⟩
  case round =>
    obtain ⟨k, hk, rfl, hB⟩ := hrel
    by_cases hkn : k ≤ n
    · have g1 : (k : Int) ≤ (n : Int) := by omega
      have HI1 := Lib.hid (HI.out k wr hkn hB.out)
      go_wp2_with (go_at_call 31; refine HI1.out.mono ?_; rintro e w5 ⟨rfl, hB5⟩; have HB5 := Lib.hid (hB.out.trans (hB5.mono hB.out.size)); clear hB5)
      exact ⟨⟨k + 1, by omega, int_eq (by omega), HB5⟩, by simp [intOf]; omega⟩
    · have g1 : ¬ (k : Int) ≤ (n : Int) := by omega
      go_wp2
      refine bodyPost_ret (v := .tuple #[.int .i64 0, .bool false, .int .i64 0]) (by simp [results, Try.f10, go_sem]) rfl ?_
      exact ⟨rfl, hB.out⟩
end Go.Proofs.Ytbioondlmgolkaa
namespace Go.Proofs.Ytbioondlmgolkaa
open Go.RowKit Go.Shelf

theorem szTo_bs (p : Nat → Bool) (n : Nat) : ∀ k, szTo (bs p n) k = cnt p (min k n)
  | 0 => by rw [Nat.zero_min]; rfl
  | k + 1 => by
    show szTo (bs p n) k + tb (bs p n) k = _
    rw [szTo_bs p n k]
    unfold tb
    rw [bs_bit]
    by_cases h : k < n
    · rw [Nat.min_eq_left (by omega), Nat.min_eq_left (by omega)]
      show _ = cnt p k + (p k).toNat
      simp [h]
    · rw [Nat.min_eq_right (by omega), Nat.min_eq_right (by omega)]
      simp [h]
theorem size_bs {p : Nat → Bool} {n : Nat} (hn : n ≤ 64) : size (bs p n) = cnt p n := by
  unfold size
  rw [szTo_bs, Nat.min_eq_right hn]
theorem ScP.of {n : Nat} {t : Nat → Nat → Bool} (h : TourP n t) (hn : n ≤ 12) : ScP n (fun i => if i < n then cnt (t i) n else 0) where
  le := fun j => by
    split
    · exact Nat.le_trans (cnt_le _ _) hn
    · omega
  all := by
    have h1 := landau_all h
    rw [← sum_map, ← h1]
    congr 2
    exact List.map_congr_left fun i hi => by rw [if_pos (List.mem_range.1 hi)]
  low := fun k ys hk hp => landau_take h (hp.trans (by rw [List.map_congr_left (g := fun i => cnt (t i) n) fun i hi => by rw [if_pos (List.mem_range.1 hi)]])) hk
set_option maxRecDepth 100000 in
set_option maxHeartbeats 2000000 in
theorem scores_any (B n : Nat) (t : Nat → Nat → Bool) (w : World) (hn1 : 1 ≤ n) (hn : n ≤ 12) (hR : RegAt w B n t) :
    Calls Try.prog 29 #[.pointer (some ⟨B, 0, none⟩)] w fun e w' => (∃ p c, e = .returned (.slice p n c) ∧ QRow w' w.heap.size 3 1 (.slice p n c) n (ivI (fun i => ((cnt (t i) n : Nat) : Int)) n)) ∧ Below w.heap.size w w' := by
  obtain ⟨i0, hi0, hz0, hz1, hz2⟩ := info_parts info3
  have HR := Lib.hid hR
  have HRL : Hid (B < w.heap.size) := hR.lt
  have c0 := hR.cn
  have g12 : (n : Int) ≤ 12 := by omega
  have g0 : (0 : Int) ≤ (n : Int) := by omega
  clear hR
  go_enter Try.func29, Try.ntmps29
  go_wp2
  go_quiet (fail)
  have HRA : Hid (RegAt (w.drewN nq) B n t) := HR.out.dr nq
  have HB0 := Lib.hid (below_dr (Below.refl w.heap.size w) nq)
  clear c0 HR
  generalize w.drewN nq = wA at *
  go_upto_region 3 with (fail)
  go_loopw [3, 15] (fun s3 s15 wr => ∃ i : Nat, i ≤ n ∧ s15 = .int .i64 (i : Int) ∧ Hid (QRow wr w.heap.size 3 1 s3 i (ivI (fun i => ((cnt (t i) n : Nat) : Int)) i)) ∧ Hid (Below w.heap.size w wr) ∧ Hid (RegAt wr B n t)) (fun _ s15 _ => n - (intOf s15).toNat)
  case atStart => exact ⟨0, by omega, rfl, QRow.nil _ _ _ _, HB0, HRA⟩
  case round =>
    clear HB0 HRA
    obtain ⟨i, hi, rfl, hQ, hB, hR⟩ := hrel
    obtain ⟨p3, c3, rfl⟩ := hQ.out.isSlice
    have hwr : w.heap.size ≤ wr.heap.size := hB.out.size
    by_cases hin : i < n
    · have g1 : (i : Int) < (n : Int) := by omega
      have g2 : (0 : Int) ≤ (i : Int) := by omega
      have k1 := hR.out.cb i hin
      have hsm : bs (t i) n < 4096 := Nat.lt_of_lt_of_le (bs_lt _ n) (show 2 ^ n ≤ 2 ^ 12 from Nat.pow_le_pow_right (by decide) hn)
      have HON := Lib.hid (ones (bs (t i) n) wr (by unfold Hid; omega))
      rw [size_bs (by omega)] at HON
      have hu : IntKind.u64.wrap ((bs (t i) n : Nat) : Int) = ((bs (t i) n : Nat) : Int) := u64_same _ (by omega)
      have HSN : Hid (ivI (fun i => ((cnt (t i) n : Nat) : Int)) (i + 1) = ivI (fun i => ((cnt (t i) n : Nat) : Int)) i ++ [.int .i64 ((cnt (t i) n : Nat) : Int)]) := by unfold Hid ivI; rw [List.range_succ, List.map_append]; rfl
      generalize cnt (t i) n = cc at *
      generalize bs (t i) n = s at *
      have HQA := Lib.hid (hQ.out.alloc (.cells #[.int .i64 (cc : Int)] 3))
      have HLT := Lib.hid (fun kk (e : _ = some kk) => (hQ.out.lt kk e))
      have HRB := Lib.hid (hR.out)
      have HBl := Lib.hid HRL.out
      have HA1 : Hid (RegAt (wr.alloc (.cells #[.int .i64 (cc : Int)] 3)) B n t) := hR.out.below ((Below.refl wr.heap.size wr).alloc (Nat.le_refl _) _) hR.out.lt
      clear hR
      go_wp2_with (first
        | (go_at_call 62; refine HON.out.mono ?_; rintro e w4 ⟨rfl, hw4⟩; replace hw4 := hw4.symm; subst hw4)
        | (at_builtin; go_must (refine wpList_append_q _ rfl (.tmp 19) (.tmp 23) 34 rfl w.heap.size 3 i0 (.int .i64 0) 1 8 Try.underlying34 hi0 hz0 hz1 hz2 rfl (by decide) _ i (ivI (fun i => ((cnt (t i) n : Nat) : Int)) i) rfl HQA.out ⟨_, 0, none⟩ 1 1 [.int .i64 (cc : Int)] rfl rfl (cells_new1 _ _ _) (by simp [Value.oneCell']) (by unfold maxLen; omega) (by omega) (by simp; omega) ?_); intro v7 w7 hq7 hg7 ho7; have HQ7 : Hid (QRow w7 w.heap.size 3 1 v7 (i + 1) (ivI (fun i => ((cnt (t i) n : Nat) : Int)) (i + 1))) := (by rw [HSN.out]; exact hq7); have HB7 : Hid (Below w.heap.size w w7) := Below.grown (hB.out.alloc hwr _) hg7 (by simp; omega) (fun kk e => (HLT.out kk e).1); have HR7 : Hid (RegAt w7 B n t) := HA1.out.block (hg7.block B HA1.out.lt (fun e => by have := (HLT.out B e.symm).1; have := HRL.out; omega)) hg7.size; clear hq7 hg7 ho7))
      exact ⟨⟨i + 1, by omega, int_eq (by omega), HQ7, HB7, HR7⟩, by simp [intOf]; omega⟩
    · have g1 : ¬ (i : Int) < (n : Int) := by omega
      obtain rfl : n = i := by omega
      go_wp2
      go_ret
      exact ⟨⟨p3, c3, rfl, hQ.out⟩, hB.out⟩
set_option maxRecDepth 100000 in
theorem Scores_ok (la : Option Addr) (n lc : Nat) (t : Nat → Nat → Bool) (w : World) (hn1 : 1 ≤ n) (hn12 : n ≤ 12) (hP : TourP n t) (hT : TblI w la n (fun _ => n) t) :
    Calls Try.prog 9 #[.slice la n lc] w fun e w' => (∃ p c, e = .returned (.tuple #[.slice p n c, .int .i64 0]) ∧ QRow w' w.heap.size 3 1 (.slice p n c) n (ivI (fun i => ((cnt (t i) n : Nat) : Int)) n)) ∧ Below w.heap.size w w' := by
  have HO := Lib.hid (sopen_ok la n lc t w hn1 hn12 hP hT)
  have HS := Lib.hid (fun B W h => scores_any B n t W hn1 hn12 h)
  clear hP hT
  go_enter Try.func9, Try.ntmps9
  go_wp2_with (first
    | (go_at_call 28; refine HO.out.mono ?_; rintro e w1 ⟨B, rfl, hwB, hreg, hB1⟩; have HS1 := Lib.hid (HS.out B w1 hreg); have HB1 := Lib.hid hB1; clear hreg hB1 hwB)
    | (go_at_call 29; refine HS1.out.mono ?_; rintro e w2 ⟨⟨p, c, rfl, hq⟩, hB2⟩; have HQ := Lib.hid (hq.mono HB1.out.size); have HB2 := Lib.hid (HB1.out.trans (hB2.mono HB1.out.size)); clear hq hB2))
  refine bodyPost_ret (v := .tuple #[.slice p n c, .int .i64 0]) (by simp [results, Try.f9, go_sem]) rfl ?_
  exact ⟨⟨p, c, rfl, HQ.out⟩, HB2.out⟩
end Go.Proofs.Ytbioondlmgolkaa
