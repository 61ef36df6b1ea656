/- The program's iterator over the rings of three of a tournament; Triples counts them. Plain: the fewest upsets of a tournament; chains. -/
import Derived.Test.YtbioondlmgolkaaG517
import Derived.Test.YtbioondlmgolkaaHuWt
import Derived.Laws.EntriesVeiled
import Derived.Sort.CutIn
set_option linter.unusedVariables false
set_option linter.unusedSimpArgs false
namespace Go.Proofs.Ytbioondlmgolkaa
open Go.RowKit Go.Shelf
attribute [local go_sem] Oper.semAt_some

/-- three boats that beat each other in a ring -/
def cyc (t : Nat → Nat → Bool) (i j k : Nat) : Bool := (t i j == t j k) && (t j k == t k i)
def sumTo (f : Nat → Nat) : Nat → Nat
  | 0 => 0
  | k + 1 => sumTo f k + f k
def tc3 (t : Nat → Nat → Bool) (i j k : Nat) : Nat := cnt (fun l => decide (j < l) && cyc t i j l) k
def tc2 (n : Nat) (t : Nat → Nat → Bool) (i j : Nat) : Nat := sumTo (fun y => if i < y then tc3 t i y n else 0) j
/-- how many rings of three -/
def tc1 (n : Nat) (t : Nat → Nat → Bool) (i : Nat) : Nat := sumTo (fun x => tc2 n t x n) i
theorem tc3_start (t : Nat → Nat → Bool) (i j : Nat) : tc3 t i j (j + 1) = 0 := by
  unfold tc3
  rw [cnt_congr (q := fun _ => false) fun l hl => by simp [show ¬ j < l by omega]]
  have : ∀ m, cnt (fun _ => false) m = 0 := fun m => by induction m with
    | zero => rfl
    | succ m ih => unfold cnt; rw [ih]; rfl
  exact this _
theorem tc3_yes {t : Nat → Nat → Bool} {i j k : Nat} (h : j < k) (hc : cyc t i j k = true) : tc3 t i j (k + 1) = tc3 t i j k + 1 := by
  show cnt _ k + (decide (j < k) && cyc t i j k).toNat = _
  rw [hc]; simp [h]; rfl
theorem tc3_no {t : Nat → Nat → Bool} {i j k : Nat} (hc : cyc t i j k = false) : tc3 t i j (k + 1) = tc3 t i j k := by
  show cnt _ k + (decide (j < k) && cyc t i j k).toNat = _
  rw [hc]; simp; rfl
theorem tc2_start (n : Nat) (t : Nat → Nat → Bool) (i : Nat) : ∀ j, j ≤ i + 1 → tc2 n t i j = 0
  | 0, _ => rfl
  | j + 1, h => by
    show tc2 n t i j + (if i < j then tc3 t i j n else 0) = 0
    rw [tc2_start n t i j (by omega), if_neg (by omega)]
theorem tc2_next {n : Nat} {t : Nat → Nat → Bool} {i j : Nat} (h : i < j) : tc2 n t i (j + 1) = tc2 n t i j + tc3 t i j n := by
  show tc2 n t i j + (if i < j then tc3 t i j n else 0) = _
  rw [if_pos h]
theorem tc1_next (n : Nat) (t : Nat → Nat → Bool) (i : Nat) : tc1 n t (i + 1) = tc1 n t i + tc2 n t i n := rfl
set_option maxRecDepth 100000 in
theorem shas_any (B n i j : Nat) (t : Nat → Nat → Bool) (w : World) (hn : n ≤ 12) (hi : i < n) (hj : j < n) (hR : RegAt w B n t) :
    Calls Try.prog 49 #[.pointer (some ⟨B, 0, none⟩), .int .i64 (i : Int), .int .i64 (j : Int)] w fun e w' => e = .returned (.bool (t i j)) ∧ w' = w := by
  have l1 := hR.cb i hi
  have hsm : Sm (bs (t i) n) := Nat.lt_of_lt_of_le (bs_lt _ n) (show 2 ^ n ≤ 2 ^ 20 from Nat.pow_le_pow_right (by decide) (by omega))
  have hb : (bs (t i) n).testBit j = t i j := by rw [bs_bit]; simp [hj]
  have g1 : (0 : Int) ≤ (i : Int) := by omega
  have g2 : (i : Int) < 12 := by omega
  have g3 : (0 : Int) ≤ (j : Int) := by omega
  have hz : IntKind.u64.wrap (j : Int) = (j : Int) := u64_same _ (by omega)
  rw [← hb]
  clear hb
  generalize bs (t i) n = b at *
  go_enter Try.func49, Try.ntmps49
  go_wp2
  go_ret
  exact ⟨rfl, rfl⟩
/-- three numbers below n -/
abbrev CyX (n : Nat) : Type := {p : Nat × Nat × Nat // p.1 < n ∧ p.2.1 < n ∧ p.2.2 < n}
def cyV {n : Nat} (x : CyX n) : Value := .agg #[.int .i64 (x.1.1 : Int), .int .i64 (x.1.2.1 : Int), .int .i64 (x.1.2.2 : Int)]
/-- what the iterator reads -/
def TrIn (Bg B n : Nat) (t : Nat → Nat → Bool) (W : World) : Prop := RegAt W B n t ∧ W.cell? ⟨Bg, 0, none⟩ = some (.pointer (some ⟨B, 0, none⟩)) ∧ Bg < W.heap.size
def KeepsTr (Bg B n : Nat) (t : Nat → Nat → Bool) (A A' : World) : Prop := TrIn Bg B n t A → TrIn Bg B n t A'
theorem TrIn.block {Bg B n : Nat} {t : Nat → Nat → Bool} {A A' : World} (h : TrIn Bg B n t A) (h1 : A'.heap[B]? = A.heap[B]?) (h2 : A'.heap[Bg]? = A.heap[Bg]?) (hs : A.heap.size ≤ A'.heap.size) : TrIn Bg B n t A' :=
  ⟨h.1.block h1 hs, (World.cell?_of_block h2).trans h.2.1, Nat.lt_of_lt_of_le h.2.2 hs⟩
theorem TrIn.below {Bg B n k : Nat} {t : Nat → Nat → Bool} {A A' : World} (h : TrIn Bg B n t A) (hB : Below k A A') (h1 : B < k) (h2 : Bg < k) : TrIn Bg B n t A' := h.block (hB.block B h1) (hB.block Bg h2) hB.size
theorem keepsTr_t {Bg B n : Nat} {t : Nat → Nat → Bool} {A A' C : World} (h : KeepsTr Bg B n t A A') (k : KeepsTr Bg B n t A' C) : KeepsTr Bg B n t A C := fun x => k (h x)
theorem KeepsTr.refl {Bg B n : Nat} {t : Nat → Nat → Bool} (W : World) : KeepsTr Bg B n t W W := fun h => h
theorem keepsTr_b {Bg B n : Nat} {t : Nat → Nat → Bool} {w : World} (h1 : Bg < w.heap.size) (h2 : B < w.heap.size) (W : World) (l : Nat) (o o' : Obj) (hl : w.heap.size ≤ l) (_h : W.heap[l]? = some o) (_ : o.isCells = false) (_ : o.isWalk = false) : KeepsTr Bg B n t W (W.putObj l o') := fun ht => by
  have hg := grownBy_putObj' W l o'
  exact ht.block (hg.block B ht.1.lt (fun e => by cases e; omega)) (hg.block Bg ht.2.2 (fun e => by cases e; omega)) hg.size
set_option maxRecDepth 100000 in
set_option maxHeartbeats 4000000 in
theorem tr_in (N : Nat) (hN : 1 ≤ N) (l Bg B n : Nat) (t : Nat → Nat → Bool) (hn : n ≤ 12) (J Jx : List (CyX n) → World → Prop)
    (hOwn : ∀ pre (A A' : World), J pre A → Below A.heap.size A A' → J pre A')
    (hY : ∀ pre x W, J pre W → pre.length < 3000 → YieldAt Fence.wide (N - 1) Try.prog l #[cyV x] W fun e W' =>
      (e = .returned (.bool true) ∧ J (pre ++ [x]) W' ∧ KeepsTr Bg B n t W W') ∨ (e = .returned (.bool false) ∧ Jx (pre ++ [x]) W'))
    (W : World) (hI : TrIn Bg B n t W) (h0 : J [] W) :
    CallsIn Fence.wide N Try.prog 79 #[.func (.yield l) #[] #[], .pointer (some ⟨Bg, 0, none⟩)] W fun e W' => (∃ v, e = .returned v) ∧
      ((∃ ys, ys.length = tc1 n t n ∧ J ys W') ∨ (∃ pre, True ∧ Jx pre W')) := by
  have HOWN := Lib.hid hOwn
  clear hOwn
  refine callsIn_of_wp Try.func79 rfl trivial ?_ rfl
  simp only [Try.ntmps79, List.size_toArray, List.length_cons, List.length_nil, Nat.reduceAdd, Nat.reduceSub, Array.replicate_succ, Array.replicate_zero, List.push_toArray, List.append_toArray, List.nil_append, List.cons_append]
  have r0 := hI.2.1
  have r1 := hI.1.cn
  gi_wp2
  gi_loopw [10] (fun s10 wr => ∃ (x : Nat) (pre : List (CyX n)), x ≤ n ∧ s10 = .int .i64 (x : Int) ∧ J pre wr ∧ Hid (pre.length = tc1 n t x) ∧ pre.length ≤ x * 144 ∧ Hid (TrIn Bg B n t wr)) (fun s10 _ => n - (intOf s10).toNat)
  case atStart => exact ⟨0, [], by omega, rfl, h0, rfl, Nat.zero_le _, hI⟩
  case round =>
    clear r0 r1 hI h0
    obtain ⟨x, pre, hx, rfl, hJ, hS, hlen, hIn⟩ := hrel
    by_cases hxn : x < n
    · have g1 : (x : Int) < (n : Int) := by omega
      obtain ⟨wo, hwo⟩ : ∃ wo, Hid (wo = wr) := ⟨_, rfl⟩
      rw [← hwo.out] at hJ hIn ⊢
      clear hwo
      have HS0 : Hid (pre.length = tc1 n t x + tc2 n t x (x + 1)) := by rw [tc2_start n t x (x + 1) (by omega), hS.out]; rfl
      clear hS
      gi_wp2
      gi_loopw [4] (fun s4 wq => ∃ (y : Nat) (pre : List (CyX n)), x < y ∧ y ≤ n ∧ s4 = .int .i64 (y : Int) ∧ J pre wq ∧ Hid (pre.length = tc1 n t x + tc2 n t x y) ∧ pre.length ≤ x * 144 + y * 12 ∧ Hid (TrIn Bg B n t wq)) (fun s4 _ => n - (intOf s4).toNat)
      case atStart => exact ⟨x + 1, pre, by omega, by omega, int_eq (by omega), hJ, HS0, by omega, hIn⟩
      case round =>
        clear hJ HS0 hIn hlen
        obtain ⟨y, pre, hxy, hy, rfl, hJ, hS, hlen, hIn⟩ := hrel
        have r0 := hIn.out.2.1
        have r1 := hIn.out.1.cn
        by_cases hyn : y < n
        · have g2 : (y : Int) < (n : Int) := by omega
          obtain ⟨wo, hwo⟩ : ∃ wo, Hid (wo = wr) := ⟨_, rfl⟩
          rw [← hwo.out] at hJ hIn r0 r1 ⊢
          clear hwo
          have HS0 : Hid (pre.length = tc1 n t x + tc2 n t x y + tc3 t x y (y + 1)) := by rw [tc3_start, hS.out]; rfl
          clear hS
          gi_wp2
          gi_loopw [5] (fun s5 wq => ∃ (z : Nat) (pre : List (CyX n)), y < z ∧ z ≤ n ∧ s5 = .int .i64 (z : Int) ∧ J pre wq ∧ Hid (pre.length = tc1 n t x + tc2 n t x y + tc3 t x y z) ∧ pre.length ≤ x * 144 + y * 12 + z ∧ Hid (TrIn Bg B n t wq)) (fun s5 _ => n - (intOf s5).toNat)
          case atStart => exact ⟨y + 1, pre, by omega, by omega, int_eq (by omega), hJ, HS0, by omega, hIn⟩
          case round =>
            clear hJ HS0 hIn hlen r0 r1
            obtain ⟨z, pre, hyz, hz, rfl, hJ, hS, hlen, hIn⟩ := hrel
            by_cases hzn : z < n
            · have g3 : (z : Int) < (n : Int) := by omega
              have r0 : ∀ d : Hu.BW wr.heap.size wr, d.w.cell? ⟨Bg, 0, none⟩ = some (.pointer (some ⟨B, 0, none⟩)) := fun d => d.cell hIn.out.2.2 hIn.out.2.1
              have r1 := hIn.out.1.cn
              have r2 := hIn.out.2.1
              have HD : Hid (∀ d : Hu.BW wr.heap.size wr, RegAt d.w B n t) := fun d => hIn.out.1.below d.b hIn.out.1.lt
              have HA1 : Hid (∀ d : Hu.BW wr.heap.size wr, Calls Try.prog 49 #[.pointer (some ⟨B, 0, none⟩), .int .i64 (x : Int), .int .i64 (y : Int)] d.w fun e w' => e = .returned (.bool (t x y)) ∧ ∃ d' : Hu.BW wr.heap.size wr, w' = d'.w) := fun d => Hu.Calls.bw ((shas_any B n x y t d.w hn hxn hyn (HD.out d)).mono fun e w' h => ⟨h.1, by rw [h.2]; exact d.b⟩)
              have HA2 : Hid (∀ d : Hu.BW wr.heap.size wr, Calls Try.prog 49 #[.pointer (some ⟨B, 0, none⟩), .int .i64 (y : Int), .int .i64 (z : Int)] d.w fun e w' => e = .returned (.bool (t y z)) ∧ ∃ d' : Hu.BW wr.heap.size wr, w' = d'.w) := fun d => Hu.Calls.bw ((shas_any B n y z t d.w hn hyn hzn (HD.out d)).mono fun e w' h => ⟨h.1, by rw [h.2]; exact d.b⟩)
              have HA3 : Hid (∀ d : Hu.BW wr.heap.size wr, Calls Try.prog 49 #[.pointer (some ⟨B, 0, none⟩), .int .i64 (z : Int), .int .i64 (x : Int)] d.w fun e w' => e = .returned (.bool (t z x)) ∧ ∃ d' : Hu.BW wr.heap.size wr, w' = d'.w) := fun d => Hu.Calls.bw ((shas_any B n z x t d.w hn hzn hxn (HD.out d)).mono fun e w' h => ⟨h.1, by rw [h.2]; exact d.b⟩)
              have HYE : Hid (cyc t x y z = true → pre.length + 1 = tc1 n t x + tc2 n t x y + tc3 t x y (z + 1)) := fun h => by rw [tc3_yes hyz h, hS.out]; omega
              have HNO : Hid (cyc t x y z = false → pre.length = tc1 n t x + tc2 n t x y + tc3 t x y (z + 1)) := fun h => by rw [tc3_no h, hS.out]
              have HIB : Hid (∀ d : Hu.BW wr.heap.size wr, TrIn Bg B n t d.w) := fun d => hIn.out.below d.b hIn.out.1.lt hIn.out.2.2
              have HJB : Hid (∀ d : Hu.BW wr.heap.size wr, J pre d.w) := fun d => HOWN.out pre wr d.w hJ d.b
              have HYI : Hid (∀ d : Hu.BW wr.heap.size wr, YieldAt Fence.wide (N - 1) Try.prog l #[.agg #[.int .i64 (x : Int), .int .i64 (y : Int), .int .i64 (z : Int)]] d.w fun e W' => (e = .returned (.bool true) ∧ J (pre ++ [(⟨(x, y, z), hxn, hyn, hzn⟩ : CyX n)]) W' ∧ KeepsTr Bg B n t d.w W') ∨ (e = .returned (.bool false) ∧ Jx (pre ++ [(⟨(x, y, z), hxn, hyn, hzn⟩ : CyX n)]) W')) := fun d => hY pre ⟨(x, y, z), hxn, hyn, hzn⟩ d.w (HJB.out d) (by omega)
              unfold cyc at HYE HNO
              generalize t x y = a at *
              generalize t y z = b at *
              generalize t z x = c at *
              generalize (⟨(x, y, z), hxn, hyn, hzn⟩ : CyX n) = xx at *
              have hlen2 : (pre ++ [xx]).length ≤ x * 144 + y * 12 + (z + 1) := by simp; omega
              have hlen3 : (pre ++ [xx]).length = pre.length + 1 := by simp
              have HL3 := Lib.hid hlen3
              clear hlen3 hJ hS hIn HD
              cases a <;> cases b <;> cases c
              · skip
                gi_wp2
                refine Hu.wpIn_region_bw_tail 26 (by kernel_rfl) (by kernel_rfl) (by kernel_rfl) ?_
                simp only [List.take_succ_cons, List.take_zero, List.drop_succ_cons, List.drop_zero]
                repeat (gi_big_quiet_step ((first
                  | rfl
                  | (gi_at_call 49; with_reducible exact callsIn_wide.2 (HA1.out _))
                  | (gi_at_call 49; with_reducible exact callsIn_wide.2 (HA2.out _))
                  | (gi_at_call 49; with_reducible exact callsIn_wide.2 (HA3.out _)))))
                refine wpQuietIn_nil ?_
                rintro _ ⟨d, rfl⟩
                have HSN : Hid ((pre ++ [xx]).length = tc1 n t x + tc2 n t x y + tc3 t x y (z + 1)) := by rw [HL3.out]; exact HYE.out rfl
                obtain ⟨fn, tmps, assign, body, hyl, hR⟩ := HYI.out d
                have HR := Lib.hid hR
                have hy2 : (Instr.yield l #[.agg #[.int .i64 (x : Int), .int .i64 (y : Int), .int .i64 (z : Int)]]).run Try.prog d.w = .ok (.round l fn tmps assign body) d.w := hyl
                clear hyl hR r0 HA1 HA2 HA3
                gi_wp2
                refine HR.out.mono ?_
                rintro e W3 (⟨rfl, hJ3, hk3⟩ | ⟨rfl, hJx3⟩)
                · have hI3 := Lib.hid (hk3 (HIB.out d))
                  gi_wp2
                  exact ⟨⟨z + 1, pre ++ [xx], by omega, by omega, int_eq (by omega), hJ3, HSN, hlen2, hI3⟩, by simp [intOf]; omega⟩
                · gi_wp2
                  refine bodyPost_ret (results_none rfl _ _ _) rfl ?_
                  exact ⟨⟨_, rfl⟩, .inr ⟨_, trivial, hJx3⟩⟩
              · skip
                gi_wp2
                refine Hu.wpIn_region_bw_tail 26 (by kernel_rfl) (by kernel_rfl) (by kernel_rfl) ?_
                simp only [List.take_succ_cons, List.take_zero, List.drop_succ_cons, List.drop_zero]
                repeat (gi_big_quiet_step ((first
                  | rfl
                  | (gi_at_call 49; with_reducible exact callsIn_wide.2 (HA1.out _))
                  | (gi_at_call 49; with_reducible exact callsIn_wide.2 (HA2.out _))
                  | (gi_at_call 49; with_reducible exact callsIn_wide.2 (HA3.out _)))))
                refine wpQuietIn_nil ?_
                rintro _ ⟨d, rfl⟩
                have HSN := Lib.hid (HNO.out (by simp))
                clear r0 HA1 HA2 HA3
                gi_wp2
                exact ⟨⟨z + 1, pre, by omega, by omega, int_eq (by omega), HJB.out d, HSN, by omega, HIB.out d⟩, by simp [intOf]; omega⟩
              · skip
                gi_wp2
                refine Hu.wpIn_region_bw_tail 26 (by kernel_rfl) (by kernel_rfl) (by kernel_rfl) ?_
                simp only [List.take_succ_cons, List.take_zero, List.drop_succ_cons, List.drop_zero]
                repeat (gi_big_quiet_step ((first
                  | rfl
                  | (gi_at_call 49; with_reducible exact callsIn_wide.2 (HA1.out _))
                  | (gi_at_call 49; with_reducible exact callsIn_wide.2 (HA2.out _))
                  | (gi_at_call 49; with_reducible exact callsIn_wide.2 (HA3.out _)))))
                refine wpQuietIn_nil ?_
                rintro _ ⟨d, rfl⟩
                have HSN := Lib.hid (HNO.out (by simp))
                clear r0 HA1 HA2 HA3
                gi_wp2
                exact ⟨⟨z + 1, pre, by omega, by omega, int_eq (by omega), HJB.out d, HSN, by omega, HIB.out d⟩, by simp [intOf]; omega⟩
              · skip
                gi_wp2
                refine Hu.wpIn_region_bw_tail 26 (by kernel_rfl) (by kernel_rfl) (by kernel_rfl) ?_
                simp only [List.take_succ_cons, List.take_zero, List.drop_succ_cons, List.drop_zero]
                repeat (gi_big_quiet_step ((first
                  | rfl
                  | (gi_at_call 49; with_reducible exact callsIn_wide.2 (HA1.out _))
                  | (gi_at_call 49; with_reducible exact callsIn_wide.2 (HA2.out _))
                  | (gi_at_call 49; with_reducible exact callsIn_wide.2 (HA3.out _)))))
                refine wpQuietIn_nil ?_
                rintro _ ⟨d, rfl⟩
                have HSN := Lib.hid (HNO.out (by simp))
                clear r0 HA1 HA2 HA3
                gi_wp2
                exact ⟨⟨z + 1, pre, by omega, by omega, int_eq (by omega), HJB.out d, HSN, by omega, HIB.out d⟩, by simp [intOf]; omega⟩
              · skip
                gi_wp2
                refine Hu.wpIn_region_bw_tail 26 (by kernel_rfl) (by kernel_rfl) (by kernel_rfl) ?_
                simp only [List.take_succ_cons, List.take_zero, List.drop_succ_cons, List.drop_zero]
                repeat (gi_big_quiet_step ((first
                  | rfl
                  | (gi_at_call 49; with_reducible exact callsIn_wide.2 (HA1.out _))
                  | (gi_at_call 49; with_reducible exact callsIn_wide.2 (HA2.out _))
                  | (gi_at_call 49; with_reducible exact callsIn_wide.2 (HA3.out _)))))
                refine wpQuietIn_nil ?_
                rintro _ ⟨d, rfl⟩
                have HSN := Lib.hid (HNO.out (by simp))
                clear r0 HA1 HA2 HA3
                gi_wp2
                exact ⟨⟨z + 1, pre, by omega, by omega, int_eq (by omega), HJB.out d, HSN, by omega, HIB.out d⟩, by simp [intOf]; omega⟩
              · skip
                gi_wp2
                refine Hu.wpIn_region_bw_tail 26 (by kernel_rfl) (by kernel_rfl) (by kernel_rfl) ?_
                simp only [List.take_succ_cons, List.take_zero, List.drop_succ_cons, List.drop_zero]
                repeat (gi_big_quiet_step ((first
                  | rfl
                  | (gi_at_call 49; with_reducible exact callsIn_wide.2 (HA1.out _))
                  | (gi_at_call 49; with_reducible exact callsIn_wide.2 (HA2.out _))
                  | (gi_at_call 49; with_reducible exact callsIn_wide.2 (HA3.out _)))))
                refine wpQuietIn_nil ?_
                rintro _ ⟨d, rfl⟩
                have HSN := Lib.hid (HNO.out (by simp))
                clear r0 HA1 HA2 HA3
                gi_wp2
                exact ⟨⟨z + 1, pre, by omega, by omega, int_eq (by omega), HJB.out d, HSN, by omega, HIB.out d⟩, by simp [intOf]; omega⟩
              · skip
                gi_wp2
                refine Hu.wpIn_region_bw_tail 26 (by kernel_rfl) (by kernel_rfl) (by kernel_rfl) ?_
                simp only [List.take_succ_cons, List.take_zero, List.drop_succ_cons, List.drop_zero]
                repeat (gi_big_quiet_step ((first
                  | rfl
                  | (gi_at_call 49; with_reducible exact callsIn_wide.2 (HA1.out _))
                  | (gi_at_call 49; with_reducible exact callsIn_wide.2 (HA2.out _))
                  | (gi_at_call 49; with_reducible exact callsIn_wide.2 (HA3.out _)))))
                refine wpQuietIn_nil ?_
                rintro _ ⟨d, rfl⟩
                have HSN := Lib.hid (HNO.out (by simp))
                clear r0 HA1 HA2 HA3
                gi_wp2
                exact ⟨⟨z + 1, pre, by omega, by omega, int_eq (by omega), HJB.out d, HSN, by omega, HIB.out d⟩, by simp [intOf]; omega⟩
              · skip
                gi_wp2
                refine Hu.wpIn_region_bw_tail 26 (by kernel_rfl) (by kernel_rfl) (by kernel_rfl) ?_
                simp only [List.take_succ_cons, List.take_zero, List.drop_succ_cons, List.drop_zero]
                repeat (gi_big_quiet_step ((first
                  | rfl
                  | (gi_at_call 49; with_reducible exact callsIn_wide.2 (HA1.out _))
                  | (gi_at_call 49; with_reducible exact callsIn_wide.2 (HA2.out _))
                  | (gi_at_call 49; with_reducible exact callsIn_wide.2 (HA3.out _)))))
                refine wpQuietIn_nil ?_
                rintro _ ⟨d, rfl⟩
                have HSN : Hid ((pre ++ [xx]).length = tc1 n t x + tc2 n t x y + tc3 t x y (z + 1)) := by rw [HL3.out]; exact HYE.out rfl
                obtain ⟨fn, tmps, assign, body, hyl, hR⟩ := HYI.out d
                have HR := Lib.hid hR
                have hy2 : (Instr.yield l #[.agg #[.int .i64 (x : Int), .int .i64 (y : Int), .int .i64 (z : Int)]]).run Try.prog d.w = .ok (.round l fn tmps assign body) d.w := hyl
                clear hyl hR r0 HA1 HA2 HA3
                gi_wp2
                refine HR.out.mono ?_
                rintro e W3 (⟨rfl, hJ3, hk3⟩ | ⟨rfl, hJx3⟩)
                · have hI3 := Lib.hid (hk3 (HIB.out d))
                  gi_wp2
                  exact ⟨⟨z + 1, pre ++ [xx], by omega, by omega, int_eq (by omega), hJ3, HSN, hlen2, hI3⟩, by simp [intOf]; omega⟩
                · gi_wp2
                  refine bodyPost_ret (results_none rfl _ _ _) rfl ?_
                  exact ⟨⟨_, rfl⟩, .inr ⟨_, trivial, hJx3⟩⟩
            · have g3 : ¬ (z : Int) < (n : Int) := by omega
              obtain rfl : n = z := by omega
              have r0 := hIn.out.2.1
              have r1 := hIn.out.1.cn
              have HSN : Hid (pre.length = tc1 n t x + tc2 n t x (y + 1)) := by rw [tc2_next hxy, hS.out]; unfold Hid; omega
              gi_wp2
              exact ⟨⟨y + 1, pre, by omega, by omega, int_eq (by omega), hJ, HSN, by omega, hIn⟩, by simp [intOf]; omega⟩
        · have g2 : ¬ (y : Int) < (n : Int) := by omega
          obtain rfl : n = y := by omega
          have HSN : Hid (pre.length = tc1 n t (x + 1)) := by rw [tc1_next, hS.out]; rfl
          gi_wp2
          exact ⟨⟨x + 1, pre, by omega, int_eq (by omega), hJ, HSN, by omega, hIn⟩, by simp [intOf]; omega⟩
    · have g1 : ¬ (x : Int) < (n : Int) := by omega
      obtain rfl : n = x := by omega
      gi_wp2
      go_end0
      exact ⟨⟨_, rfl⟩, .inl ⟨pre, hS.out, hJ⟩⟩
end Go.Proofs.Ytbioondlmgolkaa
namespace Go.Proofs.Ytbioondlmgolkaa
open Go.RowKit

/-- a set without one element -/
def clr (S i : Nat) : Nat := ldiff S (pw i)
theorem testBit_pw (i j : Nat) : (pw i).testBit j = decide (i = j) := by unfold pw; exact Nat.testBit_two_pow
theorem clr_bit (S i j : Nat) : (clr S i).testBit j = (S.testBit j && !decide (i = j)) := by unfold clr; rw [testBit_ldiff, testBit_pw]
theorem clr_le (S i : Nat) : clr S i ≤ S := ldiff_le _ _
theorem clr_lt {S i : Nat} (h : S.testBit i = true) : clr S i < S := by
  refine Nat.lt_of_le_of_ne (clr_le S i) fun e => ?_
  have h1 := clr_bit S i i
  rw [e, h] at h1
  simp at h1
theorem bit_of_ne {S : Nat} (h : S ≠ 0) : ∃ i, S.testBit i = true := Nat.exists_testBit_of_ne_zero h
theorem ne_of_bit {S i : Nat} (h : S.testBit i = true) : S ≠ 0 := fun e => by rw [e] at h; simp at h
/-- who of a set beats i -/
def ups (n : Nat) (t : Nat → Nat → Bool) (i S : Nat) : Nat := cnt (fun j => S.testBit j && t j i) n
def bst (n : Nat) (t : Nat → Nat → Bool) (f : Nat → Nat) (S : Nat) : Nat → Nat
  | 0 => n * n
  | i + 1 => if S.testBit i = true then min (bst n t f S i) (ups n t i (clr S i) + f (clr S i)) else bst n t f S i
def fwf (n : Nat) (t : Nat → Nat → Bool) : Nat → Nat → Nat
  | 0, _ => 0
  | k + 1, S => if S = 0 then 0 else bst n t (fwf n t k) S n
/-- the fewest upsets of a set -/
def FW (n : Nat) (t : Nat → Nat → Bool) (S : Nat) : Nat := fwf n t S S
section
variable {n : Nat} {t : Nat → Nat → Bool}
theorem bst_congr {f f' : Nat → Nat} {S : Nat} (h : ∀ i, S.testBit i = true → f (clr S i) = f' (clr S i)) : ∀ k, bst n t f S k = bst n t f' S k
  | 0 => rfl
  | k + 1 => by
    unfold bst
    by_cases hb : S.testBit k = true
    · rw [if_pos hb, if_pos hb, bst_congr h k, h k hb]
    · rw [if_neg hb, if_neg hb, bst_congr h k]
theorem fwf_any : ∀ k k' S, S ≤ k → S ≤ k' → fwf n t k S = fwf n t k' S
  | 0, 0, _, _, _ => rfl
  | 0, k' + 1, S, h, _ => by
    obtain rfl : S = 0 := by omega
    rfl
  | k + 1, 0, S, _, h => by
    obtain rfl : S = 0 := by omega
    rfl
  | k + 1, k' + 1, S, h, h' => by
    unfold fwf
    by_cases e : S = 0
    · rw [if_pos e, if_pos e]
    · rw [if_neg e, if_neg e]
      exact bst_congr (fun i hi => by
        have := clr_lt hi
        exact fwf_any k k' (clr S i) (by omega) (by omega)) n
theorem FW_zero : FW n t 0 = 0 := rfl
theorem FW_eq {S : Nat} (h : S ≠ 0) : FW n t S = bst n t (FW n t) S n := by
  obtain ⟨k, rfl⟩ : ∃ k, S = k + 1 := ⟨S - 1, by omega⟩
  show fwf n t (k + 1) (k + 1) = _
  rw [show fwf n t (k + 1) (k + 1) = bst n t (fwf n t k) (k + 1) n by unfold fwf; rw [if_neg h]]
  exact bst_congr (fun i hi => by
    have := clr_lt hi
    exact fwf_any k (clr (k + 1) i) (clr (k + 1) i) (by omega) (Nat.le_refl _)) n
theorem bst_le (f : Nat → Nat) (S : Nat) : ∀ k, bst n t f S k ≤ n * n
  | 0 => Nat.le_refl _
  | k + 1 => by
    unfold bst
    have := bst_le f S k
    split <;> omega
theorem bst_cand (f : Nat → Nat) (S : Nat) : ∀ k i, i < k → S.testBit i = true → bst n t f S k ≤ ups n t i (clr S i) + f (clr S i)
  | 0, _, h, _ => by omega
  | k + 1, i, h, hb => by
    unfold bst
    by_cases e : i = k
    · subst e
      rw [if_pos hb]
      exact Nat.min_le_right _ _
    · have := bst_cand f S k i (by omega) hb
      split <;> omega
theorem bst_att (f : Nat → Nat) (S : Nat) : ∀ k, bst n t f S k = n * n ∨ ∃ i, i < k ∧ S.testBit i = true ∧ bst n t f S k = ups n t i (clr S i) + f (clr S i)
  | 0 => .inl rfl
  | k + 1 => by
    unfold bst
    by_cases hb : S.testBit k = true
    · rw [if_pos hb]
      by_cases hle : bst n t f S k ≤ ups n t k (clr S k) + f (clr S k)
      · rw [Nat.min_eq_left hle]
        rcases bst_att f S k with h | ⟨i, h1, h2, h3⟩
        · exact .inl h
        · exact .inr ⟨i, by omega, h2, h3⟩
      · rw [Nat.min_eq_right (by omega)]
        exact .inr ⟨k, by omega, hb, rfl⟩
    · rw [if_neg hb]
      rcases bst_att f S k with h | ⟨i, h1, h2, h3⟩
      · exact .inl h
      · exact .inr ⟨i, by omega, h2, h3⟩
theorem ups_le (i S : Nat) : ups n t i S ≤ n := cnt_le _ n
theorem cnt_clr {S i : Nat} (hb : S.testBit i = true) : ∀ k, i < k → cnt (fun j => S.testBit j) k = cnt (fun j => (clr S i).testBit j) k + 1
  | 0, h => by omega
  | k + 1, h => by
    unfold cnt
    by_cases e : i = k
    · subst e
      rw [clr_bit, hb]
      rw [cnt_congr (p := fun j => S.testBit j) (q := fun j => (clr S i).testBit j) fun j hj => by
        show S.testBit j = (clr S i).testBit j
        rw [clr_bit]
        simp [show ¬ i = j by omega]]
      simp
    · rw [cnt_clr hb k (by omega), clr_bit]
      simp [e]
      omega
theorem FW_cnt : ∀ k S, S ≤ k → (∀ i, S.testBit i = true → i < n) → FW n t S ≤ n * cnt (fun j => S.testBit j) n
  | 0, S, h, _ => by
    obtain rfl : S = 0 := by omega
    rw [FW_zero]; exact Nat.zero_le _
  | k + 1, S, h, hn => by
    by_cases e : S = 0
    · subst e; rw [FW_zero]; exact Nat.zero_le _
    · obtain ⟨i, hi⟩ := bit_of_ne e
      have hin := hn i hi
      have hlt := clr_lt hi
      have h1 := bst_cand (n := n) (t := t) (FW n t) S n i hin hi
      rw [← FW_eq e] at h1
      have h2 := FW_cnt k (clr S i) (by omega) (fun j hj => hn j (by rw [clr_bit] at hj; simp at hj; exact hj.1))
      have h3 := cnt_clr hi n hin
      have h4 := ups_le (n := n) (t := t) i (clr S i)
      rw [h3, Nat.mul_add]
      omega
theorem FW_le {S : Nat} (hn : ∀ i, S.testBit i = true → i < n) : FW n t S ≤ n * n :=
  Nat.le_trans (FW_cnt S S (Nat.le_refl _) hn) (Nat.mul_le_mul_left n (cnt_le _ n))
theorem clr_in {S i : Nat} (hn : ∀ i, S.testBit i = true → i < n) : ∀ j, (clr S i).testBit j = true → j < n := fun j hj => hn j (by rw [clr_bit] at hj; simp at hj; exact hj.1)
/-- what is picked next -/
def Pick (n : Nat) (t : Nat → Nat → Bool) (S i : Nat) : Prop := S.testBit i = true ∧ ups n t i (clr S i) + FW n t (clr S i) = FW n t S
theorem pick_ex {S : Nat} (e : S ≠ 0) (hn : ∀ i, S.testBit i = true → i < n) : ∃ i, i < n ∧ Pick n t S i := by
  have h := FW_eq (n := n) (t := t) e
  rcases bst_att (n := n) (t := t) (FW n t) S n with h1 | ⟨i, h1, h2, h3⟩
  · obtain ⟨i, hi⟩ := bit_of_ne e
    have hin := hn i hi
    refine ⟨i, hin, hi, ?_⟩
    have h2 := bst_cand (n := n) (t := t) (FW n t) S n i hin hi
    have h3 := FW_cnt (t := t) (clr S i) (clr S i) (Nat.le_refl _) (clr_in (i := i) hn)
    have h4 := ups_le (n := n) (t := t) i (clr S i)
    have h5 := cnt_clr hi n hin
    have h6 : n * cnt (fun j => S.testBit j) n ≤ n * n := Nat.mul_le_mul_left n (cnt_le _ n)
    rw [h5, Nat.mul_add] at h6
    omega
  · exact ⟨i, h1, h2, by rw [h, h3]⟩
/-- no three boats in a ring -/
def NoRing (n : Nat) (t : Nat → Nat → Bool) (S : Nat) : Prop := ∀ a b c, S.testBit a = true → S.testBit b = true → S.testBit c = true → t a b = true → t b c = true → t c a = true → False
theorem cnt_zero {p : Nat → Bool} : ∀ {n}, cnt p n = 0 ↔ ∀ i, i < n → p i = false
  | 0 => ⟨fun _ i hi => by omega, fun _ => rfl⟩
  | n + 1 => by
    unfold cnt
    constructor
    · intro h i hi
      by_cases e : i = n
      · subst e
        cases hp : p i with
        | false => rfl
        | true => rw [hp] at h; simp at h
      · exact (cnt_zero (p := p) (n := n)).1 (by omega) i (by omega)
    · intro h
      rw [cnt_zero.2 fun i hi => h i (by omega), h n (by omega)]
      rfl
theorem ring_of_zero (H : TourP n t) : ∀ k S, S ≤ k → (∀ i, S.testBit i = true → i < n) → FW n t S = 0 → NoRing n t S
  | 0, S, h, _, _ => fun a b c ha => by
    obtain rfl : S = 0 := by omega
    simp at ha
  | k + 1, S, h, hn, h0 => fun a b c ha hb hc hab hbc hca => by
    obtain ⟨i, hi, hp1, hp2⟩ := pick_ex (t := t) (ne_of_bit ha) hn
    have hlt := clr_lt hp1
    have hu : ups n t i (clr S i) = 0 := by omega
    have hno : ∀ j, S.testBit j = true → t j i = true → False := fun j hj ht => by
      have hne : ¬ i = j := fun e => by
        subst e
        rw [H.irr i hi] at ht; cases ht
      have := cnt_zero.1 hu j (hn j hj)
      simp only [clr_bit, hj, Bool.true_and, hne, decide_false, Bool.not_false, ht] at this
      cases this
    have ih := ring_of_zero H k (clr S i) (by omega) (clr_in hn) (by omega)
    have hk : ∀ j, S.testBit j = true → ¬ i = j → (clr S i).testBit j = true := fun j hj hne => by rw [clr_bit, hj]; simp [hne]
    by_cases ea : i = a
    · subst ea; exact hno c hc hca
    · by_cases eb : i = b
      · subst eb; exact hno a ha hab
      · by_cases ec : i = c
        · subst ec; exact hno b hb hbc
        · exact ih a b c (hk a ha ea) (hk b hb eb) (hk c hc ec) hab hbc hca
def TransP (n : Nat) (t : Nat → Nat → Bool) : Prop := ∀ i j k, i < n → j < n → k < n → t i j = true → t j k = true → t i k = true
theorem TourP.anti (H : TourP n t) {i j : Nat} (hi : i < n) (hj : j < n) (h : t i j = true) : t j i = false := by
  have hne : i ≠ j := fun e => by
    subst e
    rw [H.irr i hi] at h; cases h
  rw [H.tot j i hj hi (Ne.symm hne), h]; rfl
theorem TourP.or (H : TourP n t) {i j : Nat} (hi : i < n) (hj : j < n) (hne : i ≠ j) (h : t i j = false) : t j i = true := by
  rw [H.tot j i hj hi (Ne.symm hne), h]; rfl
theorem trans_of_ring (H : TourP n t) (h : ∀ a b c, a < n → b < n → c < n → t a b = true → t b c = true → t c a = true → False) : TransP n t := fun i j k hi hj hk hij hjk => by
  have hne : i ≠ k := fun e => by
    subst e
    rw [H.anti hi hj hij] at hjk; cases hjk
  cases e : t i k with
  | true => rfl
  | false => exact (h i j k hi hj hk hij hjk (H.or hi hk hne e)).elim
/-- who is beaten by nobody -/
theorem top_ex (H : TourP n t) (hT : TransP n t) {S : Nat} : ∀ k, k ≤ n → (∃ i, i < k ∧ S.testBit i = true) → ∃ i, i < k ∧ S.testBit i = true ∧ ∀ j, j < k → S.testBit j = true → t j i = false
  | 0, _, ⟨i, hi, _⟩ => by omega
  | k + 1, hk, ⟨i, hi, hb⟩ => by
    by_cases hbk : S.testBit k = true
    · by_cases hex : ∃ i, i < k ∧ S.testBit i = true
      · obtain ⟨x, h1, h2, h3⟩ := top_ex H hT k (by omega) hex
        by_cases hkx : t k x = true
        · refine ⟨k, by omega, hbk, fun j hj hbj => ?_⟩
          by_cases e : j = k
          · subst e; exact H.irr j (by omega)
          · cases e2 : t j k with
            | false => rfl
            | true =>
              have := hT j k x (by omega) (by omega) (by omega) e2 hkx
              rw [h3 j (by omega) hbj] at this; cases this
        · refine ⟨x, by omega, h2, fun j hj hbj => ?_⟩
          by_cases e : j = k
          · subst e; simpa using hkx
          · exact h3 j (by omega) hbj
      · refine ⟨k, by omega, hbk, fun j hj hbj => ?_⟩
        by_cases e : j = k
        · subst e; exact H.irr j (by omega)
        · exact (hex ⟨j, by omega, hbj⟩).elim
    · have hik : i < k := by
        by_cases e : i = k
        · subst e; exact (hbk hb).elim
        · omega
      obtain ⟨x, h1, h2, h3⟩ := top_ex H hT k (by omega) ⟨i, hik, hb⟩
      refine ⟨x, by omega, h2, fun j hj hbj => ?_⟩
      by_cases e : j = k
      · subst e; exact (hbk hbj).elim
      · exact h3 j (by omega) hbj
theorem zero_of_trans (H : TourP n t) (hT : TransP n t) : ∀ k S, S ≤ k → (∀ i, S.testBit i = true → i < n) → FW n t S = 0
  | 0, S, h, _ => by
    obtain rfl : S = 0 := by omega
    rfl
  | k + 1, S, h, hn => by
    by_cases e : S = 0
    · subst e; rfl
    · obtain ⟨i0, hi0⟩ := bit_of_ne e
      obtain ⟨i, hi, hb, hno⟩ := top_ex H hT (S := S) n (Nat.le_refl _) ⟨i0, hn i0 hi0, hi0⟩
      have hlt := clr_lt hb
      have h1 := bst_cand (n := n) (t := t) (FW n t) S n i hi hb
      rw [← FW_eq e, zero_of_trans H hT k (clr S i) (by omega) (clr_in hn)] at h1
      have h2 : ups n t i (clr S i) = 0 := cnt_zero.2 fun j hj => by
        show ((clr S i).testBit j && t j i) = false
        rw [clr_bit]
        cases hbj : S.testBit j with
        | false => rfl
        | true => rw [hno j hj hbj]; simp
      omega
theorem full_in : ∀ i, (full n).testBit i = true → i < n := fun i hi => by rw [testBit_full] at hi; simpa using hi
/-- fewest upsets none just if there is no ring -/
theorem FW_full (H : TourP n t) : FW n t (full n) = 0 ↔ TransP n t := by
  constructor
  · intro h
    have := ring_of_zero H (full n) (full n) (Nat.le_refl _) full_in h
    refine trans_of_ring H fun a b c ha hb hc => this a b c ?_ ?_ ?_
    all_goals (rw [testBit_full]; simpa)
  · exact fun h => zero_of_trans H h _ _ (Nat.le_refl _) full_in
theorem sumTo_zero {f : Nat → Nat} : ∀ {k}, sumTo f k = 0 ↔ ∀ i, i < k → f i = 0
  | 0 => ⟨fun _ i hi => by omega, fun _ => rfl⟩
  | k + 1 => by
    unfold sumTo
    constructor
    · intro h i hi
      by_cases e : i = k
      · subst e; omega
      · exact (sumTo_zero (f := f) (k := k)).1 (by omega) i (by omega)
    · intro h
      rw [sumTo_zero.2 fun i hi => h i (by omega), h k (by omega)]
theorem tc1_zero : tc1 n t n = 0 ↔ ∀ i j k, i < j → j < k → k < n → cyc t i j k = false := by
  unfold tc1
  rw [sumTo_zero]
  constructor
  · intro h i j k hij hjk hk
    have h1 := h i (by omega)
    unfold tc2 at h1
    have h2 := sumTo_zero.1 h1 j (by omega)
    rw [if_pos hij] at h2
    unfold tc3 at h2
    have h3 := cnt_zero.1 h2 k hk
    simpa [hjk] using h3
  · intro h i hi
    unfold tc2
    refine sumTo_zero.2 fun j hj => ?_
    by_cases hij : i < j
    · rw [if_pos hij]
      unfold tc3
      refine cnt_zero.2 fun k hk => ?_
      by_cases hjk : j < k
      · simp [h i j k hij hjk hk]
      · simp [hjk]
    · rw [if_neg hij]
theorem cyc_true {a b c : Nat} (h1 : t a b = true) (h2 : t b c = true) (h3 : t c a = true) : cyc t a b c = true := by unfold cyc; rw [h1, h2, h3]; rfl
theorem cyc_false {a b c : Nat} (h1 : t a b = false) (h2 : t b c = false) (h3 : t c a = false) : cyc t a b c = true := by unfold cyc; rw [h1, h2, h3]; rfl
theorem tc1_trans (H : TourP n t) : tc1 n t n = 0 ↔ TransP n t := by
  rw [tc1_zero]
  constructor
  · intro h
    refine trans_of_ring H fun a b c ha hb hc hab hbc hca => ?_
    have n1 : a ≠ b := fun e => by
      subst e
      rw [H.irr a ha] at hab; cases hab
    have n2 : b ≠ c := fun e => by
      subst e
      rw [H.irr b hb] at hbc; cases hbc
    have n3 : c ≠ a := fun e => by
      subst e
      rw [H.irr c hc] at hca; cases hca
    have f1 := H.anti ha hb hab
    have f2 := H.anti hb hc hbc
    have f3 := H.anti hc ha hca
    have key : ∀ x y z, x < y → y < z → z < n → cyc t x y z = true → False := fun x y z h1 h2 h3 h4 => by rw [h x y z h1 h2 h3] at h4; cases h4
    rcases Nat.lt_or_gt_of_ne n1 with l1 | l1
    · rcases Nat.lt_or_gt_of_ne n2 with l2 | l2
      · exact key a b c l1 l2 hc (cyc_true hab hbc hca)
      · rcases Nat.lt_or_gt_of_ne n3 with l3 | l3
        · exact key c a b l3 l1 hb (cyc_true hca hab hbc)
        · exact key a c b l3 l2 hb (cyc_false f3 f2 f1)
    · rcases Nat.lt_or_gt_of_ne n2 with l2 | l2
      · rcases Nat.lt_or_gt_of_ne n3 with l3 | l3
        · exact key b c a l2 l3 ha (cyc_true hbc hca hab)
        · exact key b a c l1 l3 hc (cyc_false f1 f3 f2)
      · exact key c b a l2 l1 ha (cyc_false f2 f1 f3)
  · intro hT i j k hij hjk hk
    cases e : cyc t i j k with
    | false => rfl
    | true =>
      unfold cyc at e
      simp only [Bool.and_eq_true, beq_iff_eq] at e
      cases e1 : t i j with
      | true =>
        rw [e1] at e
        have := hT i j k (by omega) (by omega) hk e1 e.1.symm
        rw [← e.1] at e
        rw [H.anti (by omega) hk this] at e
        cases e.2
      | false =>
        rw [e1] at e
        have h1 := H.or (i := i) (j := j) (by omega) (by omega) (by omega) e1
        have h2 := H.or (i := j) (j := k) (by omega) (by omega) (by omega) e.1.symm
        rw [← e.1] at e
        have h3 := hT k j i hk (by omega) (by omega) h2 h1
        rw [← e.2] at h3; cases h3
theorem nodup_map_on {α β : Type} {f : α → β} : ∀ {l : List α}, (∀ x, x ∈ l → ∀ y, y ∈ l → f x = f y → x = y) → l.Nodup → (l.map f).Nodup
  | [], _, _ => List.nodup_nil
  | a :: l, h, hn => by
    rw [List.nodup_cons] at hn
    rw [List.map_cons, List.nodup_cons]
    refine ⟨fun hm => ?_, nodup_map_on (fun x hx y hy => h x (List.mem_cons_of_mem _ hx) y (List.mem_cons_of_mem _ hy)) hn.2⟩
    obtain ⟨b, hb, e⟩ := List.mem_map.1 hm
    have := h b (List.mem_cons_of_mem _ hb) a List.mem_cons_self e
    subst this
    exact hn.1 hb
/-- how many are before -/
def lvl (n : Nat) (t : Nat → Nat → Bool) (x : Nat) : Nat := cnt (fun y => t y x) n
theorem cnt_lt {p q : Nat → Bool} : ∀ {n}, (∀ i, i < n → p i = true → q i = true) → (∃ i, i < n ∧ p i = false ∧ q i = true) → cnt p n < cnt q n
  | 0, _, ⟨i, hi, _⟩ => by omega
  | n + 1, h, ⟨i, hi, h1, h2⟩ => by
    unfold cnt
    by_cases e : i = n
    · subst e
      have hle : ∀ m, m ≤ i → cnt p m ≤ cnt q m := fun m => by
        induction m with
        | zero => intro _; exact Nat.le_refl _
        | succ m ih =>
          intro hm
          have := ih (by omega)
          unfold cnt
          have := h m (by omega)
          cases hp : p m with
          | false => simp; omega
          | true => rw [this hp]; simp; omega
      have := hle i (Nat.le_refl _)
      rw [h1, h2]
      simp
      omega
    · have ih := cnt_lt (n := n) (p := p) (q := q) (fun i hi => h i (by omega)) ⟨i, by omega, h1, h2⟩
      have := h n (by omega)
      cases hp : p n with
      | false => simp; omega
      | true => rw [this hp]; simp; omega
theorem lvl_lt (H : TourP n t) (hT : TransP n t) {i j : Nat} (hi : i < n) (hj : j < n) (h : t i j = true) : lvl n t i < lvl n t j :=
  cnt_lt (fun y hy hyi => hT y i j hy hi hj hyi h) ⟨i, hi, H.irr i hi, h⟩
theorem lvl_le (x : Nat) : lvl n t x ≤ n := cnt_le _ n
theorem cnt_both {p q : Nat → Bool} {x : Nat} : ∀ {n}, (∀ i, i < n → i ≠ x → p i = !q i) → (x < n → p x = false ∧ q x = false) → cnt p n + cnt q n = n - (decide (x < n)).toNat
  | 0, _, _ => by simp [cnt]
  | n + 1, h, hx => by
    unfold cnt
    have ih := cnt_both (n := n) (p := p) (q := q) (x := x) (fun i hi => h i (by omega)) (fun hl => hx (by omega))
    by_cases e : n = x
    · subst e
      rw [(hx (by omega)).1, (hx (by omega)).2]
      simp at ih ⊢
      omega
    · rw [h n (by omega) e]
      by_cases hl : x < n
      · simp only [hl, decide_true, show x < n + 1 by omega, Bool.toNat_true] at ih ⊢
        cases q n <;> simp <;> omega
      · simp only [hl, decide_false, show ¬ x < n + 1 by omega, Bool.toNat_false] at ih ⊢
        cases q n <;> simp <;> omega
/-- wins and losses -/
theorem wins (H : TourP n t) {x : Nat} (hx : x < n) : cnt (t x) n + lvl n t x = n - 1 := by
  unfold lvl
  have := cnt_both (n := n) (p := t x) (q := fun y => t y x) (x := x) (fun i hi hne => H.tot x i hx hi (Ne.symm hne)) (fun _ => ⟨H.irr x hx, H.irr x hx⟩)
  simpa [hx] using this
/-- the list and what is left, as it is picked -/
inductive RkL (n : Nat) (t : Nat → Nat → Bool) : List Nat → Nat → Prop
  | nil : RkL n t [] (full n)
  | snoc {l : List Nat} {S i : Nat} : RkL n t l S → i < n → Pick n t S i → RkL n t (l ++ [i]) (clr S i)
theorem RkL.left {l : List Nat} {S : Nat} (h : RkL n t l S) : (∀ i, S.testBit i = true → i < n) ∧ l.length + cnt (fun j => S.testBit j) n = n := by
  induction h with
  | nil =>
    refine ⟨full_in, ?_⟩
    have : ∀ m, m ≤ n → cnt (fun j => (full n).testBit j) m = m := fun m => by
      induction m with
      | zero => intro _; rfl
      | succ m ih =>
        intro hm
        unfold cnt
        rw [ih (by omega), testBit_full]
        simp [show m < n by omega]
    rw [this n (Nat.le_refl _)]; simp
  | snoc hl hi hp ih =>
    refine ⟨clr_in ih.1, ?_⟩
    have := cnt_clr hp.1 n hi
    rw [List.length_append, List.length_singleton]
    omega
theorem RkL.len {l : List Nat} (h : RkL n t l 0) : l.length = n := by
  have := h.left.2
  rw [cnt_zero.2 fun i _ => Nat.zero_testBit i] at this
  omega
theorem RkL.lt {l : List Nat} {S : Nat} (h : RkL n t l S) : ∀ x ∈ l, x < n := by
  induction h with
  | nil => intro x hx; cases hx
  | snoc hl hi hp ih =>
    intro x hx
    rcases List.mem_append.1 hx with h | h
    · exact ih x h
    · rw [List.mem_singleton.1 h]; exact hi
theorem RkL.chain (H : TourP n t) (hT : TransP n t) {l : List Nat} {S : Nat} (h : RkL n t l S) : (∀ y, y < n → (S.testBit y = true ↔ l.length ≤ lvl n t y)) ∧ ∀ x (hx : x < l.length), lvl n t l[x] = x := by
  induction h with
  | nil => exact ⟨fun y hy => by rw [testBit_full]; simp [hy], fun x hx => by simp at hx⟩
  | @snoc l S i hl hi hp ih =>
    have hz : FW n t S = 0 := zero_of_trans H hT _ _ (Nat.le_refl _) hl.left.1
    have hu : ups n t i (clr S i) = 0 := by have := hp.2; omega
    have hno : ∀ j, S.testBit j = true → t j i = false := fun j hj => by
      have hjn := hl.left.1 j hj
      by_cases e : i = j
      · subst e; exact H.irr i hi
      · have := cnt_zero.1 hu j hjn
        simpa [clr_bit, hj, e] using this
    have h1 := (ih.1 i hi).1 hp.1
    have h2 : lvl n t i = l.length := by
      refine Nat.le_antisymm ?_ h1
      have hinj : ∀ y z, y < n → z < n → lvl n t y = lvl n t z → y = z := fun y z hy hz e => by
        by_cases hyz : y = z
        · exact hyz
        · cases e2 : t y z with
          | true => have := lvl_lt H hT hy hz e2; omega
          | false => have := lvl_lt H hT hz hy (H.or hy hz hyz e2); omega
      have hnd : (((List.range n).filter fun y => t y i).map (lvl n t)).Nodup := by
        refine nodup_map_on ?_ (List.nodup_range.sublist List.filter_sublist)
        intro y hy z hz e
        exact hinj y z (List.mem_range.1 (List.mem_filter.1 hy).1) (List.mem_range.1 (List.mem_filter.1 hz).1) e
      have := nodup_sub _ (List.range l.length) hnd fun v hv => by
        obtain ⟨y, hy, rfl⟩ := List.mem_map.1 hv
        rw [List.mem_filter, List.mem_range] at hy
        refine List.mem_range.2 (Nat.not_le.1 fun hle => ?_)
        have := hno y ((ih.1 y hy.1).2 hle)
        rw [this] at hy; cases hy.2
      rw [List.length_map, List.length_range, ← cnt_filter] at this
      exact this
    refine ⟨fun y hy => ?_, fun x hx => ?_⟩
    · rw [List.length_append, List.length_singleton, clr_bit]
      have h3 := ih.1 y hy
      by_cases e : i = y
      · subst e; simp; omega
      · simp only [e, decide_false, Bool.not_false, Bool.and_true, h3]
        constructor
        · intro h4
          rcases Nat.lt_or_ge l.length (lvl n t y) with h5 | h5
          · omega
          · cases hiy : t i y with
            | true => have := lvl_lt H hT hi hy hiy; omega
            | false => have := lvl_lt H hT hy hi (H.or hi hy e hiy); omega
        · omega
    · by_cases e : x < l.length
      · rw [List.getElem_append_left e]; exact ih.2 x e
      · have e2 : x = l.length := by simp at hx; omega
        subst e2
        simp [h2]
end
end Go.Proofs.Ytbioondlmgolkaa
