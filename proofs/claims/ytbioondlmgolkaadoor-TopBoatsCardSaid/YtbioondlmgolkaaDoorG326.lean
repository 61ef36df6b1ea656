/- The program's iterator over the rings of three of a tournament; Triples counts them. Triples counts the rings of three: walk. What a program must do whatever the input is, at stage 10: walk. -/
import Derived.Test.YtbioondlmgolkaaDoorG315
import Derived.Test.YtbioondlmgolkaaDoorG325
import Derived.Laws.EntriesVeiled
import Derived.Sort.CutIn
import Derived.Test.YtbioondlmgolkaaDoorG311
set_option linter.unusedVariables false
set_option linter.unusedSimpArgs false
namespace Go.Proofs.YtbioondlmgolkaaDoor
open Go.RowKit Go.Shelf
attribute [local go_sem] Oper.semAt_some

/-- three boats that beat each other in a ring -/
def cyc (t : Nat → Nat → Bool) (i j k : Nat) : Bool := (t i j == t j k) && (t j k == t k i)
def sumTo (f : Nat → Nat) : Nat → Nat
  | 0 => 0
  | k + 1 => sumTo f k + f k
def tc3 (t : Nat → Nat → Bool) (i j k : Nat) : Nat := cnt (fun l => decide (j < l) && cyc t i j l) k
def tc2 (n : Nat) (t : Nat → Nat → Bool) (i j : Nat) : Nat := sumTo (fun y => if i < y then tc3 t i y n else 0) j
/-- how many rings of three -/
def tc1 (n : Nat) (t : Nat → Nat → Bool) (i : Nat) : Nat := sumTo (fun x => tc2 n t x n) i
theorem tc3_start (t : Nat → Nat → Bool) (i j : Nat) : tc3 t i j (j + 1) = 0 := by
  unfold tc3
  rw [cnt_congr (q := fun _ => false) fun l hl => by simp [show ¬ j < l by omega]]
  have : ∀ m, cnt (fun _ => false) m = 0 := fun m => by induction m with
    | zero => rfl
    | succ m ih => unfold cnt; rw [ih]; rfl
  exact this _
theorem tc3_yes {t : Nat → Nat → Bool} {i j k : Nat} (h : j < k) (hc : cyc t i j k = true) : tc3 t i j (k + 1) = tc3 t i j k + 1 := by
  show cnt _ k + (decide (j < k) && cyc t i j k).toNat = _
  rw [hc]; simp [h]; rfl
theorem tc3_no {t : Nat → Nat → Bool} {i j k : Nat} (hc : cyc t i j k = false) : tc3 t i j (k + 1) = tc3 t i j k := by
  show cnt _ k + (decide (j < k) && cyc t i j k).toNat = _
  rw [hc]; simp; rfl
theorem tc2_start (n : Nat) (t : Nat → Nat → Bool) (i : Nat) : ∀ j, j ≤ i + 1 → tc2 n t i j = 0
  | 0, _ => rfl
  | j + 1, h => by
    show tc2 n t i j + (if i < j then tc3 t i j n else 0) = 0
    rw [tc2_start n t i j (by omega), if_neg (by omega)]
theorem tc2_next {n : Nat} {t : Nat → Nat → Bool} {i j : Nat} (h : i < j) : tc2 n t i (j + 1) = tc2 n t i j + tc3 t i j n := by
  show tc2 n t i j + (if i < j then tc3 t i j n else 0) = _
  rw [if_pos h]
theorem tc1_next (n : Nat) (t : Nat → Nat → Bool) (i : Nat) : tc1 n t (i + 1) = tc1 n t i + tc2 n t i n := rfl
set_option maxRecDepth 100000 in
theorem shas_any (B n i j : Nat) (t : Nat → Nat → Bool) (w : World) (hn : n ≤ 12) (hi : i < n) (hj : j < n) (hR : RegAt w B n t) :
    Calls Tryd.prog 35 #[.pointer (some ⟨B, 0, none⟩), .int .i64 (i : Int), .int .i64 (j : Int)] w fun e w' => e = .returned (.bool (t i j)) ∧ w' = w := by
  have l1 := hR.cb i hi
  have hsm : Sm (bs (t i) n) := Nat.lt_of_lt_of_le (bs_lt _ n) (show 2 ^ n ≤ 2 ^ 20 from Nat.pow_le_pow_right (by decide) (by omega))
  have hb : (bs (t i) n).testBit j = t i j := by rw [bs_bit]; simp [hj]
  have g1 : (0 : Int) ≤ (i : Int) := by omega
  have g2 : (i : Int) < 12 := by omega
  have g3 : (0 : Int) ≤ (j : Int) := by omega
  have hz : IntKind.u64.wrap (j : Int) = (j : Int) := u64_same _ (by omega)
  rw [← hb]
  clear hb
  generalize bs (t i) n = b at *
  go_enter Tryd.func35, Tryd.ntmps35
  go_wp2
  go_ret
  exact ⟨rfl, rfl⟩
/-- three numbers below n -/
abbrev CyX (n : Nat) : Type := {p : Nat × Nat × Nat // p.1 < n ∧ p.2.1 < n ∧ p.2.2 < n}
def cyV {n : Nat} (x : CyX n) : Value := .agg #[.int .i64 (x.1.1 : Int), .int .i64 (x.1.2.1 : Int), .int .i64 (x.1.2.2 : Int)]
/-- what the iterator reads -/
def TrIn (Bg B n : Nat) (t : Nat → Nat → Bool) (W : World) : Prop := RegAt W B n t ∧ W.cell? ⟨Bg, 0, none⟩ = some (.pointer (some ⟨B, 0, none⟩)) ∧ Bg < W.heap.size
def KeepsTr (Bg B n : Nat) (t : Nat → Nat → Bool) (A A' : World) : Prop := TrIn Bg B n t A → TrIn Bg B n t A'
theorem TrIn.block {Bg B n : Nat} {t : Nat → Nat → Bool} {A A' : World} (h : TrIn Bg B n t A) (h1 : A'.heap[B]? = A.heap[B]?) (h2 : A'.heap[Bg]? = A.heap[Bg]?) (hs : A.heap.size ≤ A'.heap.size) : TrIn Bg B n t A' :=
  ⟨h.1.block h1 hs, (World.cell?_of_block h2).trans h.2.1, Nat.lt_of_lt_of_le h.2.2 hs⟩
theorem TrIn.below {Bg B n k : Nat} {t : Nat → Nat → Bool} {A A' : World} (h : TrIn Bg B n t A) (hB : Below k A A') (h1 : B < k) (h2 : Bg < k) : TrIn Bg B n t A' := h.block (hB.block B h1) (hB.block Bg h2) hB.size
theorem keepsTr_t {Bg B n : Nat} {t : Nat → Nat → Bool} {A A' C : World} (h : KeepsTr Bg B n t A A') (k : KeepsTr Bg B n t A' C) : KeepsTr Bg B n t A C := fun x => k (h x)
theorem KeepsTr.refl {Bg B n : Nat} {t : Nat → Nat → Bool} (W : World) : KeepsTr Bg B n t W W := fun h => h
theorem keepsTr_b {Bg B n : Nat} {t : Nat → Nat → Bool} {w : World} (h1 : Bg < w.heap.size) (h2 : B < w.heap.size) (W : World) (l : Nat) (o o' : Obj) (hl : w.heap.size ≤ l) (_h : W.heap[l]? = some o) (_ : o.isCells = false) (_ : o.isWalk = false) : KeepsTr Bg B n t W (W.putObj l o') := fun ht => by
  have hg := grownBy_putObj' W l o'
  exact ht.block (hg.block B ht.1.lt (fun e => by cases e; omega)) (hg.block Bg ht.2.2 (fun e => by cases e; omega)) hg.size
set_option maxRecDepth 100000 in
set_option maxHeartbeats 4000000 in
theorem tr_in (N : Nat) (hN : 1 ≤ N) (l Bg B n : Nat) (t : Nat → Nat → Bool) (hn : n ≤ 12) (J Jx : List (CyX n) → World → Prop)
    (hOwn : ∀ pre (A A' : World), J pre A → Below A.heap.size A A' → J pre A')
    (hY : ∀ pre x W, J pre W → pre.length < 3000 → YieldAt Fence.wide (N - 1) Tryd.prog l #[cyV x] W fun e W' =>
      (e = .returned (.bool true) ∧ J (pre ++ [x]) W' ∧ KeepsTr Bg B n t W W') ∨ (e = .returned (.bool false) ∧ Jx (pre ++ [x]) W'))
    (W : World) (hI : TrIn Bg B n t W) (h0 : J [] W) :
    CallsIn Fence.wide N Tryd.prog 34 #[.func (.yield l) #[] #[], .pointer (some ⟨Bg, 0, none⟩)] W fun e W' => (∃ v, e = .returned v) ∧
      ((∃ ys, ys.length = tc1 n t n ∧ J ys W') ∨ (∃ pre, True ∧ Jx pre W')) := by
  have HOWN := Lib.hid hOwn
  clear hOwn
  refine callsIn_of_wp Tryd.func34 rfl trivial ?_ rfl
  simp only [Tryd.ntmps34, List.size_toArray, List.length_cons, List.length_nil, Nat.reduceAdd, Nat.reduceSub, Array.replicate_succ, Array.replicate_zero, List.push_toArray, List.append_toArray, List.nil_append, List.cons_append]
  have r0 := hI.2.1
  have r1 := hI.1.cn
  gi_wp2
  gi_loopw [10] (fun s10 wr => ∃ (x : Nat) (pre : List (CyX n)), x ≤ n ∧ s10 = .int .i64 (x : Int) ∧ J pre wr ∧ Hid (pre.length = tc1 n t x) ∧ pre.length ≤ x * 144 ∧ Hid (TrIn Bg B n t wr)) (fun s10 _ => n - (intOf s10).toNat)
  case atStart => exact ⟨0, [], by omega, rfl, h0, rfl, Nat.zero_le _, hI⟩
  case round =>
    clear r0 r1 hI h0
    obtain ⟨x, pre, hx, rfl, hJ, hS, hlen, hIn⟩ := hrel
    by_cases hxn : x < n
    · have g1 : (x : Int) < (n : Int) := by omega
      obtain ⟨wo, hwo⟩ : ∃ wo, Hid (wo = wr) := ⟨_, rfl⟩
      rw [← hwo.out] at hJ hIn ⊢
      clear hwo
      have HS0 : Hid (pre.length = tc1 n t x + tc2 n t x (x + 1)) := by rw [tc2_start n t x (x + 1) (by omega), hS.out]; rfl
      clear hS
      gi_wp2
      gi_loopw [4] (fun s4 wq => ∃ (y : Nat) (pre : List (CyX n)), x < y ∧ y ≤ n ∧ s4 = .int .i64 (y : Int) ∧ J pre wq ∧ Hid (pre.length = tc1 n t x + tc2 n t x y) ∧ pre.length ≤ x * 144 + y * 12 ∧ Hid (TrIn Bg B n t wq)) (fun s4 _ => n - (intOf s4).toNat)
      case atStart => exact ⟨x + 1, pre, by omega, by omega, int_eq (by omega), hJ, HS0, by omega, hIn⟩
      case round =>
        clear hJ HS0 hIn hlen
        obtain ⟨y, pre, hxy, hy, rfl, hJ, hS, hlen, hIn⟩ := hrel
        have r0 := hIn.out.2.1
        have r1 := hIn.out.1.cn
        by_cases hyn : y < n
        · have g2 : (y : Int) < (n : Int) := by omega
          obtain ⟨wo, hwo⟩ : ∃ wo, Hid (wo = wr) := ⟨_, rfl⟩
          rw [← hwo.out] at hJ hIn r0 r1 ⊢
          clear hwo
          have HS0 : Hid (pre.length = tc1 n t x + tc2 n t x y + tc3 t x y (y + 1)) := by rw [tc3_start, hS.out]; rfl
          clear hS
          gi_wp2
          gi_loopw [5] (fun s5 wq => ∃ (z : Nat) (pre : List (CyX n)), y < z ∧ z ≤ n ∧ s5 = .int .i64 (z : Int) ∧ J pre wq ∧ Hid (pre.length = tc1 n t x + tc2 n t x y + tc3 t x y z) ∧ pre.length ≤ x * 144 + y * 12 + z ∧ Hid (TrIn Bg B n t wq)) (fun s5 _ => n - (intOf s5).toNat)
          case atStart => exact ⟨y + 1, pre, by omega, by omega, int_eq (by omega), hJ, HS0, by omega, hIn⟩
          case round =>
            clear hJ HS0 hIn hlen r0 r1
            obtain ⟨z, pre, hyz, hz, rfl, hJ, hS, hlen, hIn⟩ := hrel
            by_cases hzn : z < n
            · have g3 : (z : Int) < (n : Int) := by omega
              have r0 : ∀ d : Hu.BW wr.heap.size wr, d.w.cell? ⟨Bg, 0, none⟩ = some (.pointer (some ⟨B, 0, none⟩)) := fun d => d.cell hIn.out.2.2 hIn.out.2.1
              have r1 := hIn.out.1.cn
              have r2 := hIn.out.2.1
              have HD : Hid (∀ d : Hu.BW wr.heap.size wr, RegAt d.w B n t) := fun d => hIn.out.1.below d.b hIn.out.1.lt
              have HA1 : Hid (∀ d : Hu.BW wr.heap.size wr, Calls Tryd.prog 35 #[.pointer (some ⟨B, 0, none⟩), .int .i64 (x : Int), .int .i64 (y : Int)] d.w fun e w' => e = .returned (.bool (t x y)) ∧ ∃ d' : Hu.BW wr.heap.size wr, w' = d'.w) := fun d => Hu.Calls.bw ((shas_any B n x y t d.w hn hxn hyn (HD.out d)).mono fun e w' h => ⟨h.1, by rw [h.2]; exact d.b⟩)
              have HA2 : Hid (∀ d : Hu.BW wr.heap.size wr, Calls Tryd.prog 35 #[.pointer (some ⟨B, 0, none⟩), .int .i64 (y : Int), .int .i64 (z : Int)] d.w fun e w' => e = .returned (.bool (t y z)) ∧ ∃ d' : Hu.BW wr.heap.size wr, w' = d'.w) := fun d => Hu.Calls.bw ((shas_any B n y z t d.w hn hyn hzn (HD.out d)).mono fun e w' h => ⟨h.1, by rw [h.2]; exact d.b⟩)
              have HA3 : Hid (∀ d : Hu.BW wr.heap.size wr, Calls Tryd.prog 35 #[.pointer (some ⟨B, 0, none⟩), .int .i64 (z : Int), .int .i64 (x : Int)] d.w fun e w' => e = .returned (.bool (t z x)) ∧ ∃ d' : Hu.BW wr.heap.size wr, w' = d'.w) := fun d => Hu.Calls.bw ((shas_any B n z x t d.w hn hzn hxn (HD.out d)).mono fun e w' h => ⟨h.1, by rw [h.2]; exact d.b⟩)
              have HYE : Hid (cyc t x y z = true → pre.length + 1 = tc1 n t x + tc2 n t x y + tc3 t x y (z + 1)) := fun h => by rw [tc3_yes hyz h, hS.out]; omega
              have HNO : Hid (cyc t x y z = false → pre.length = tc1 n t x + tc2 n t x y + tc3 t x y (z + 1)) := fun h => by rw [tc3_no h, hS.out]
              have HIB : Hid (∀ d : Hu.BW wr.heap.size wr, TrIn Bg B n t d.w) := fun d => hIn.out.below d.b hIn.out.1.lt hIn.out.2.2
              have HJB : Hid (∀ d : Hu.BW wr.heap.size wr, J pre d.w) := fun d => HOWN.out pre wr d.w hJ d.b
              have HYI : Hid (∀ d : Hu.BW wr.heap.size wr, YieldAt Fence.wide (N - 1) Tryd.prog l #[.agg #[.int .i64 (x : Int), .int .i64 (y : Int), .int .i64 (z : Int)]] d.w fun e W' => (e = .returned (.bool true) ∧ J (pre ++ [(⟨(x, y, z), hxn, hyn, hzn⟩ : CyX n)]) W' ∧ KeepsTr Bg B n t d.w W') ∨ (e = .returned (.bool false) ∧ Jx (pre ++ [(⟨(x, y, z), hxn, hyn, hzn⟩ : CyX n)]) W')) := fun d => hY pre ⟨(x, y, z), hxn, hyn, hzn⟩ d.w (HJB.out d) (by omega)
              unfold cyc at HYE HNO
              generalize t x y = a at *
              generalize t y z = b at *
              generalize t z x = c at *
              generalize (⟨(x, y, z), hxn, hyn, hzn⟩ : CyX n) = xx at *
              have hlen2 : (pre ++ [xx]).length ≤ x * 144 + y * 12 + (z + 1) := by simp; omega
              have hlen3 : (pre ++ [xx]).length = pre.length + 1 := by simp
              have HL3 := Lib.hid hlen3
              clear hlen3 hJ hS hIn HD
              cases a <;> cases b <;> cases c
              · skip
                gi_wp2
                refine Hu.wpIn_region_bw_tail 26 (by kernel_rfl) (by kernel_rfl) (by kernel_rfl) ?_
                simp only [List.take_succ_cons, List.take_zero, List.drop_succ_cons, List.drop_zero]
                repeat (gi_big_quiet_step ((first
                  | rfl
                  | (gi_at_call 35; with_reducible exact callsIn_wide.2 (HA1.out _))
                  | (gi_at_call 35; with_reducible exact callsIn_wide.2 (HA2.out _))
                  | (gi_at_call 35; with_reducible exact callsIn_wide.2 (HA3.out _)))))
                refine wpQuietIn_nil ?_
                rintro _ ⟨d, rfl⟩
                have HSN : Hid ((pre ++ [xx]).length = tc1 n t x + tc2 n t x y + tc3 t x y (z + 1)) := by rw [HL3.out]; exact HYE.out rfl
                obtain ⟨fn, tmps, assign, body, hyl, hR⟩ := HYI.out d
                have HR := Lib.hid hR
                have hy2 : (Instr.yield l #[.agg #[.int .i64 (x : Int), .int .i64 (y : Int), .int .i64 (z : Int)]]).run Tryd.prog d.w = .ok (.round l fn tmps assign body) d.w := hyl
                clear hyl hR r0 HA1 HA2 HA3
                gi_wp2
                refine HR.out.mono ?_
                rintro e W3 (⟨rfl, hJ3, hk3⟩ | ⟨rfl, hJx3⟩)
                · have hI3 := Lib.hid (hk3 (HIB.out d))
                  gi_wp2
                  exact ⟨⟨z + 1, pre ++ [xx], by omega, by omega, int_eq (by omega), hJ3, HSN, hlen2, hI3⟩, by simp [intOf]; omega⟩
                · gi_wp2
                  refine bodyPost_ret (results_none rfl _ _ _) rfl ?_
                  exact ⟨⟨_, rfl⟩, .inr ⟨_, trivial, hJx3⟩⟩
              · skip
                gi_wp2
                refine Hu.wpIn_region_bw_tail 26 (by kernel_rfl) (by kernel_rfl) (by kernel_rfl) ?_
                simp only [List.take_succ_cons, List.take_zero, List.drop_succ_cons, List.drop_zero]
                repeat (gi_big_quiet_step ((first
                  | rfl
                  | (gi_at_call 35; with_reducible exact callsIn_wide.2 (HA1.out _))
                  | (gi_at_call 35; with_reducible exact callsIn_wide.2 (HA2.out _))
                  | (gi_at_call 35; with_reducible exact callsIn_wide.2 (HA3.out _)))))
                refine wpQuietIn_nil ?_
                rintro _ ⟨d, rfl⟩
                have HSN := Lib.hid (HNO.out (by simp))
                clear r0 HA1 HA2 HA3
                gi_wp2
                exact ⟨⟨z + 1, pre, by omega, by omega, int_eq (by omega), HJB.out d, HSN, by omega, HIB.out d⟩, by simp [intOf]; omega⟩
              · skip
                gi_wp2
                refine Hu.wpIn_region_bw_tail 26 (by kernel_rfl) (by kernel_rfl) (by kernel_rfl) ?_
                simp only [List.take_succ_cons, List.take_zero, List.drop_succ_cons, List.drop_zero]
                repeat (gi_big_quiet_step ((first
                  | rfl
                  | (gi_at_call 35; with_reducible exact callsIn_wide.2 (HA1.out _))
                  | (gi_at_call 35; with_reducible exact callsIn_wide.2 (HA2.out _))
                  | (gi_at_call 35; with_reducible exact callsIn_wide.2 (HA3.out _)))))
                refine wpQuietIn_nil ?_
                rintro _ ⟨d, rfl⟩
                have HSN := Lib.hid (HNO.out (by simp))
                clear r0 HA1 HA2 HA3
                gi_wp2
                exact ⟨⟨z + 1, pre, by omega, by omega, int_eq (by omega), HJB.out d, HSN, by omega, HIB.out d⟩, by simp [intOf]; omega⟩
              · skip
                gi_wp2
                refine Hu.wpIn_region_bw_tail 26 (by kernel_rfl) (by kernel_rfl) (by kernel_rfl) ?_
                simp only [List.take_succ_cons, List.take_zero, List.drop_succ_cons, List.drop_zero]
                repeat (gi_big_quiet_step ((first
                  | rfl
                  | (gi_at_call 35; with_reducible exact callsIn_wide.2 (HA1.out _))
                  | (gi_at_call 35; with_reducible exact callsIn_wide.2 (HA2.out _))
                  | (gi_at_call 35; with_reducible exact callsIn_wide.2 (HA3.out _)))))
                refine wpQuietIn_nil ?_
                rintro _ ⟨d, rfl⟩
                have HSN := Lib.hid (HNO.out (by simp))
                clear r0 HA1 HA2 HA3
                gi_wp2
                exact ⟨⟨z + 1, pre, by omega, by omega, int_eq (by omega), HJB.out d, HSN, by omega, HIB.out d⟩, by simp [intOf]; omega⟩
              · skip
                gi_wp2
                refine Hu.wpIn_region_bw_tail 26 (by kernel_rfl) (by kernel_rfl) (by kernel_rfl) ?_
                simp only [List.take_succ_cons, List.take_zero, List.drop_succ_cons, List.drop_zero]
                repeat (gi_big_quiet_step ((first
                  | rfl
                  | (gi_at_call 35; with_reducible exact callsIn_wide.2 (HA1.out _))
                  | (gi_at_call 35; with_reducible exact callsIn_wide.2 (HA2.out _))
                  | (gi_at_call 35; with_reducible exact callsIn_wide.2 (HA3.out _)))))
                refine wpQuietIn_nil ?_
                rintro _ ⟨d, rfl⟩
                have HSN := Lib.hid (HNO.out (by simp))
                clear r0 HA1 HA2 HA3
                gi_wp2
                exact ⟨⟨z + 1, pre, by omega, by omega, int_eq (by omega), HJB.out d, HSN, by omega, HIB.out d⟩, by simp [intOf]; omega⟩
              · skip
                gi_wp2
                refine Hu.wpIn_region_bw_tail 26 (by kernel_rfl) (by kernel_rfl) (by kernel_rfl) ?_
                simp only [List.take_succ_cons, List.take_zero, List.drop_succ_cons, List.drop_zero]
                repeat (gi_big_quiet_step ((first
                  | rfl
                  | (gi_at_call 35; with_reducible exact callsIn_wide.2 (HA1.out _))
                  | (gi_at_call 35; with_reducible exact callsIn_wide.2 (HA2.out _))
                  | (gi_at_call 35; with_reducible exact callsIn_wide.2 (HA3.out _)))))
                refine wpQuietIn_nil ?_
                rintro _ ⟨d, rfl⟩
                have HSN := Lib.hid (HNO.out (by simp))
                clear r0 HA1 HA2 HA3
                gi_wp2
                exact ⟨⟨z + 1, pre, by omega, by omega, int_eq (by omega), HJB.out d, HSN, by omega, HIB.out d⟩, by simp [intOf]; omega⟩
              · skip
                gi_wp2
                refine Hu.wpIn_region_bw_tail 26 (by kernel_rfl) (by kernel_rfl) (by kernel_rfl) ?_
                simp only [List.take_succ_cons, List.take_zero, List.drop_succ_cons, List.drop_zero]
                repeat (gi_big_quiet_step ((first
                  | rfl
                  | (gi_at_call 35; with_reducible exact callsIn_wide.2 (HA1.out _))
                  | (gi_at_call 35; with_reducible exact callsIn_wide.2 (HA2.out _))
                  | (gi_at_call 35; with_reducible exact callsIn_wide.2 (HA3.out _)))))
                refine wpQuietIn_nil ?_
                rintro _ ⟨d, rfl⟩
                have HSN := Lib.hid (HNO.out (by simp))
                clear r0 HA1 HA2 HA3
                gi_wp2
                exact ⟨⟨z + 1, pre, by omega, by omega, int_eq (by omega), HJB.out d, HSN, by omega, HIB.out d⟩, by simp [intOf]; omega⟩
              · skip
                gi_wp2
                refine Hu.wpIn_region_bw_tail 26 (by kernel_rfl) (by kernel_rfl) (by kernel_rfl) ?_
                simp only [List.take_succ_cons, List.take_zero, List.drop_succ_cons, List.drop_zero]
                repeat (gi_big_quiet_step ((first
                  | rfl
                  | (gi_at_call 35; with_reducible exact callsIn_wide.2 (HA1.out _))
                  | (gi_at_call 35; with_reducible exact callsIn_wide.2 (HA2.out _))
                  | (gi_at_call 35; with_reducible exact callsIn_wide.2 (HA3.out _)))))
                refine wpQuietIn_nil ?_
                rintro _ ⟨d, rfl⟩
                have HSN : Hid ((pre ++ [xx]).length = tc1 n t x + tc2 n t x y + tc3 t x y (z + 1)) := by rw [HL3.out]; exact HYE.out rfl
                obtain ⟨fn, tmps, assign, body, hyl, hR⟩ := HYI.out d
                have HR := Lib.hid hR
                have hy2 : (Instr.yield l #[.agg #[.int .i64 (x : Int), .int .i64 (y : Int), .int .i64 (z : Int)]]).run Tryd.prog d.w = .ok (.round l fn tmps assign body) d.w := hyl
                clear hyl hR r0 HA1 HA2 HA3
                gi_wp2
                refine HR.out.mono ?_
                rintro e W3 (⟨rfl, hJ3, hk3⟩ | ⟨rfl, hJx3⟩)
                · have hI3 := Lib.hid (hk3 (HIB.out d))
                  gi_wp2
                  exact ⟨⟨z + 1, pre ++ [xx], by omega, by omega, int_eq (by omega), hJ3, HSN, hlen2, hI3⟩, by simp [intOf]; omega⟩
                · gi_wp2
                  refine bodyPost_ret (results_none rfl _ _ _) rfl ?_
                  exact ⟨⟨_, rfl⟩, .inr ⟨_, trivial, hJx3⟩⟩
            · have g3 : ¬ (z : Int) < (n : Int) := by omega
              obtain rfl : n = z := by omega
              have r0 := hIn.out.2.1
              have r1 := hIn.out.1.cn
              have HSN : Hid (pre.length = tc1 n t x + tc2 n t x (y + 1)) := by rw [tc2_next hxy, hS.out]; unfold Hid; omega
              gi_wp2
              exact ⟨⟨y + 1, pre, by omega, by omega, int_eq (by omega), hJ, HSN, by omega, hIn⟩, by simp [intOf]; omega⟩
        · have g2 : ¬ (y : Int) < (n : Int) := by omega
          obtain rfl : n = y := by omega
          have HSN : Hid (pre.length = tc1 n t (x + 1)) := by rw [tc1_next, hS.out]; rfl
          gi_wp2
          exact ⟨⟨x + 1, pre, by omega, int_eq (by omega), hJ, HSN, by omega, hIn⟩, by simp [intOf]; omega⟩
    · have g1 : ¬ (x : Int) < (n : Int) := by omega
      obtain rfl : n = x := by omega
      gi_wp2
      go_end0
      exact ⟨⟨_, rfl⟩, .inl ⟨pre, hS.out, hJ⟩⟩
end Go.Proofs.YtbioondlmgolkaaDoor
namespace Go.Proofs.YtbioondlmgolkaaDoor
open Go.RowKit Go.Shelf
attribute [local go_sem] Oper.semAt_some

theorem tr_stops (N : Nat) (hN : 1 ≤ N) (Bg B n : Nat) (t : Nat → Nat → Bool) (hn : n ≤ 12) (w : World) (hI : TrIn Bg B n t w) :
    SeqStopsK Fence.wide N Tryd.prog 34 #[.pointer (some ⟨Bg, 0, none⟩)] (fun x : CyX n => #[cyV x]) (KeepsTr Bg B n t) (fun ys => ys.length = tc1 n t n) (fun _ => True) 3000 w := fun l J Jx W hW hJ _ hY h0 =>
  tr_in N hN l Bg B n t hn J Jx (fun pre A A' h hB => hJ pre A A' none h ⟨hB.os, hB.tape, hB.output, hB.size, fun k hk _ => hB.block k hk⟩ (fun r e => by cases e)) hY W (hI.below hW hI.1.lt hI.2.2) h0
theorem triplesf_any (B : Nat) (w : World) :
    Calls Tryd.prog 22 #[.pointer (some ⟨B, 0, none⟩)] w fun e w' => e = .returned (.func (.func 34) #[] #[.pointer (some ⟨w.heap.size, 0, none⟩)]) ∧ w' = w.alloc (.cells #[.pointer (some ⟨B, 0, none⟩)] 63) := by
  go_enter Tryd.func22, Tryd.ntmps22
  go_wp2
  go_ret
  exact ⟨by simp, rfl⟩
/-- the law of a loop over an iterator whose values are left -/
theorem rf_skip {α : Type} {u1 : α → Value} {P : Program} {n : Nat} {g : Operand} {t1 : Nat} {body : Code} {Q : Exit → Act → World → Prop} {a : Act} {w : World}
    (h1 : 1 ≤ n) {gf : Nat} {lb : Array Value} (hg : a.eval g = .func (.func gf) #[] lb) (eg : ∀ args w, (callFunc gf args).run P w = .ok (.enter gf args) w)
    {Kp : World → World → Prop} {S Sp : List α → Prop} {N : Nat} (hseq : SeqStopsK Fence.wide (n - 1) P gf lb (fun x : α => #[u1 x]) Kp S Sp N w)
    (hKt : ∀ {A B C : World}, Kp A B → Kp B C → Kp A C) (hKb : ∀ (W : World) (l : Nat) (o o' : Obj), w.heap.size ≤ l → W.heap[l]? = some o → o.isCells = false → o.isWalk = false → Kp W (W.putObj l o')) (hKr : ∀ W, Kp W W)
    (I : List α → World → Prop) (Ix : Code → List α → World → Prop) (hI : OwnFrom w.heap.size I) (hIx : ∀ c, OwnFrom w.heap.size (Ix c)) (h0 : I [] w)
    (hbody : ∀ (l : Nat) (pre : List α) (x : α) (W : World), I pre W → pre.length < N → body.wpIn (Fence.wide.inRound l) (n - 1 - 1) P (ownPostG w.heap.size Kp I Ix (pre ++ [x]) W) { tmps := a.tmps.setIfInBounds t1 (u1 x), defers := [] } W)
    (hdone : ∀ (D : Nat) (xs : List α) (W : World), w.heap.size ≤ D → S xs → I xs W → W.heap[D]? = some (.deferred (some [])) → Q .normal { a with defers := { target := .collected D, args := #[] } :: a.defers } W)
    (hstop : ∀ (D : Nat) (c : Code) (pre : List α) (W : World), w.heap.size ≤ D → Sp pre → Ix c pre W → W.heap[D]? = some (.deferred (some [])) → c.wpIn Fence.wide n P Q { a with defers := { target := .collected D, args := #[] } :: a.defers } W) :
    (Code.rangeFunc g #[t1] Code.skip body).wpIn Fence.wide n P Q a w := by
  refine wpIn_rangeFunc_ownG_of_H rfl h1 hg trivial eg hseq (fun h k => hKt h k) hKb (Below.refl _ _) (fun _ => rfl) I Ix hI hIx h0 (fun x => { tmps := a.tmps.setIfInBounds t1 (u1 x), defers := [] }) ?_ hbody hdone hstop hKr
  intro l x W K hK
  have e : (Array.zip #[t1] #[u1 x]).foldl (fun t (p, v) => t.setIfInBounds p v) a.tmps = a.tmps.setIfInBounds t1 (u1 x) := by simp
  rw [e]
  gi_wp2
  exact hK
set_option maxRecDepth 100000 in
set_option maxHeartbeats 4000000 in
theorem Triples_in (la : Option Addr) (n lc : Nat) (t : Nat → Nat → Bool) (w : World) (hn1 : 1 ≤ n) (hn12 : n ≤ 12) (hP : TourP n t) (hT : TblI w la n (fun _ => n) t) :
    CallsIn Fence.wide 26 Tryd.prog 12 #[.slice la n lc] w fun e w' => e = .returned (.tuple #[.int .i64 (tc1 n t n : Int), .int .i64 0]) ∧ Below w.heap.size w w' := by
  have HO := Lib.hid (sopen_ok la n lc t w hn1 hn12 hP hT)
  have HF := Lib.hid (fun B W => triplesf_any B W)
  clear hP hT
  refine callsIn_of_wp_marks Tryd.func12 rfl trivial ?_ rfl
  simp only [Tryd.ntmps12, List.size_toArray, List.length_cons, List.length_nil, Nat.reduceAdd, Nat.reduceSub, Array.replicate_succ, Array.replicate_zero, List.push_toArray, List.append_toArray, List.nil_append, List.cons_append]
  refine wpIn_wide.2 ?_
  go_wp2_with (first
    | (go_at_call 21; refine HO.out.mono ?_; rintro e w1 ⟨B, rfl, hwB, hreg, hB1⟩; have HR1 := Lib.hid hreg; have HB1 := Lib.hid hB1; clear hreg hB1)
    | (go_at_call 22; refine (HF.out _ _).mono ?_; rintro e w4 ⟨rfl, hw4⟩; subst hw4))
  have hw1 : w.heap.size ≤ w1.heap.size := HB1.out.size
  have x0 : Boxed (w1.alloc (.cells #[.int .i64 0] 3)) w1.heap.size 3 (.int .i64 0) := boxed_at rfl
  have x1 := x0.alloc (.cells #[.pointer (some ⟨B, 0, none⟩)] 63)
  have x2 : Boxed ((w1.alloc (.cells #[.int .i64 0] 3)).alloc (.cells #[.pointer (some ⟨B, 0, none⟩)] 63)) (w1.heap.size + 1) 63 (.pointer (some ⟨B, 0, none⟩)) := boxed_at (by simp)
  have HBU : Hid (Below w1.heap.size w1 ((w1.alloc (.cells #[.int .i64 0] 3)).alloc (.cells #[.pointer (some ⟨B, 0, none⟩)] 63))) := ((Below.refl _ w1).alloc (Nat.le_refl _) _).alloc (by simp) _
  have HSU : Hid (((w1.alloc (.cells #[.int .i64 0] 3)).alloc (.cells #[.pointer (some ⟨B, 0, none⟩)] 63)).heap.size = w1.heap.size + 2) := by unfold Hid; simp
  generalize ((w1.alloc (.cells #[.int .i64 0] 3)).alloc (.cells #[.pointer (some ⟨B, 0, none⟩)] 63)) = U at *
  have hBl := HR1.out.lt
  have HTI : Hid (TrIn (w1.heap.size + 1) B n t U) := ⟨HR1.out.below HBU.out hBl, x2.cell, x2.lt⟩
  obtain ⟨bn, hbn⟩ : ∃ bn, Hid (bn = w1.heap.size) := ⟨_, rfl⟩
  rw [← hbn.out] at HSU x1 HTI ⊢
  have hBbn : B < bn := by rw [hbn.out]; exact hBl
  have hwbn : w.heap.size ≤ bn := by rw [hbn.out]; exact hw1
  have HUW : Hid (Below w.heap.size w U) := HB1.out.trans (HBU.out.mono hw1)
  clear x0 x2 HO HF
  refine (wpIn_wide (n := 26)).1 ?_
  refine rf_skip (α := CyX n) (u1 := cyV) (by decide) (gf := 34) (lb := #[.pointer (some ⟨bn + 1, 0, none⟩)]) rfl (enters_of Tryd.func34 (by kernel_rfl) rfl)
    (tr_stops 25 (by decide) (bn + 1) B n t hn12 U HTI.out) keepsTr_t (keepsTr_b (by have := HSU.out; omega) (by have := HSU.out; omega)) (fun W => KeepsTr.refl W)
    (fun pre W => Below w.heap.size w W ∧ Boxed W bn 3 (.int .i64 (pre.length : Int)))
    (fun _ _ _ => False) ?hI ?hIx ?h0 ?body ?done ?stop
  case hI =>
    intro pre A C row hs hg hr
    have hne : ∀ {k}, k ≤ bn → some k ≠ row := fun hk e => by have := (hr _ e.symm).1; have := HSU.out; omega
    exact ⟨hs.1.trans ⟨hg.os, hg.tape, hg.output, hg.size, fun k hk => hg.block k (Nat.lt_of_lt_of_le hk hs.1.size) (hne (by omega))⟩, hs.2.kept hg (hne (Nat.le_refl _))⟩
  case hIx => intro c pre A C row hs; exact hs.elim
  case h0 => exact ⟨HUW.out, x1⟩
  case body =>
    rintro lf pre x X ⟨hBX, hbx⟩ hlen
    have c0 := hbx.cell
    have f0 := hbx.frozen
    have HA : Hid (Ag (· = bn) X (X.setCell ⟨bn, 0, none⟩ (.int .i64 ((pre.length : Int) + 1)))) := (Ag.refl _ X).set ⟨bn, 0, none⟩ _ (.inr rfl)
    have HBX := Lib.hid hBX
    have HX := Lib.hid (hbx.set (.int .i64 ((pre.length : Int) + 1)))
    have hl3 : (pre.length : Int) < 3000 := by omega
    have HLN : Hid (((pre ++ [x]).length : Int) = (pre.length : Int) + 1) := by unfold Hid; simp
    simp only [List.setIfInBounds_toArray, List.set_cons_zero, List.set_cons_succ]
    clear hBX hbx hlen
    generalize pre.length = pl at *
    gi_wp2
    refine ⟨⟨HA.out.size, fun k o hk ho _ => (HA.out.obj ho (fun e => by have := HSU.out; omega))⟩, fun ht => ht.block (HA.out.block B ht.1.lt (fun e => by omega)) (HA.out.block _ ht.2.2 (fun e => by omega)) HA.out.size, HA.out.below HBX.out HBX.out.size (fun k hk e => by omega), ?_⟩
    rw [HLN.out]; exact HX.out
  case done =>
    rintro D xs W2 hD hall ⟨hB2, hb2⟩ hK
    have c0 := hb2.cell
    have HB2 := Lib.hid hB2
    have HBX := Lib.hid hb2
    have HALL := Lib.hid hall
    clear hB2 hb2 hall
    rw [HALL.out] at c0 HBX
    obtain ⟨cc, hcc⟩ : ∃ cc, Hid (tc1 n t n = cc) := ⟨_, rfl⟩
    rw [hcc.out] at c0
    go_wp2
    refine ⟨by simp, .inl ⟨_, _, rfl, run_takeDeferred hK, ?_⟩⟩
    refine ⟨.tuple #[.int .i64 (cc : Int), .int .i64 0], by simp [results, Tryd.f12, go_sem], by rw [hcc.out], HB2.out.trans (belowK_b (w := w) (Nat.le_refl _) _ D _ _ (by have := HSU.out; omega) hK rfl rfl)⟩
  case stop => rintro D c pre W2 hD - hx hK; exact hx.elim
theorem Triples_ok (la : Option Addr) (n lc : Nat) (t : Nat → Nat → Bool) (w : World) (hn1 : 1 ≤ n) (hn12 : n ≤ 12) (hP : TourP n t) (hT : TblI w la n (fun _ => n) t) :
    Calls Tryd.prog 12 #[.slice la n lc] w fun e w' => e = .returned (.tuple #[.int .i64 (tc1 n t n : Int), .int .i64 0]) ∧ Below w.heap.size w w' := callsIn_wide.1 (Triples_in la n lc t w hn1 hn12 hP hT)
end Go.Proofs.YtbioondlmgolkaaDoor
namespace Go.Proofs.YtbioondlmgolkaaDoor
open Go.RowKit Go.Shelf

/-- three boats in a ring -/
def ringT (i j : Nat) : Bool := (decide (i = 0) && decide (j = 1)) || (decide (i = 1) && decide (j = 2)) || (decide (i = 2) && decide (j = 0))
theorem ringT_tour : TourP 3 ringT where
  irr := fun i hi => by rcases (show i = 0 ∨ i = 1 ∨ i = 2 by omega) with rfl | rfl | rfl <;> rfl
  tot := fun i j hi hj => by
    rcases (show i = 0 ∨ i = 1 ∨ i = 2 by omega) with rfl | rfl | rfl <;> rcases (show j = 0 ∨ j = 1 ∨ j = 2 by omega) with rfl | rfl | rfl <;> intro h <;> first | rfl | exact absurd rfl h
theorem ring1 : tc1 3 ringT 3 = 1 := by decide
theorem asc3 : (ascE 2).length = 5 := by decide
theorem tn_asc (w : World) : Calls Tryd.prog 11 #[.int .i64 3] w fun e w' => e = .returned (.tuple #[.int .i64 5, .int .i64 0]) ∧ Below w.heap.size w w' := by
  refine (Ascents_any 3 w).mono ?_
  rintro e w' ⟨⟨_, h⟩ | ⟨k, hk, _, rfl⟩, hB⟩
  · omega
  · obtain rfl : k = 2 := by omega
    rw [asc3]
    exact ⟨rfl, hB⟩
theorem tbl_ofT {W : World} {B n : Nat} {ln : Nat → Nat} {r : Nat → Nat → Bool} (hB : B < W.heap.size) (h : ∀ i, i < n → ∃ p c, W.cell? ⟨B, i, none⟩ = some (.slice p (ln i) c) ∧ SrcBl W p (ln i) (r i)) : TblI W (some ⟨B, 0, none⟩) n ln r :=
  fun _ => ⟨B, 0, rfl, hB, fun i hi => by rw [Nat.zero_add]; exact h i hi⟩
theorem srcBl_ofT {W : World} {B m : Nat} {f : Nat → Bool} {vs : Array Value} (h : BoxN W B 4 vs) (hv : ∀ j, j < m → vs[j]? = some (.bool (f j))) : SrcBl W (some ⟨B, 0, none⟩) m f :=
  fun _ => ⟨B, 0, rfl, h.lt, fun j hj => by rw [Nat.zero_add, h.cell]; exact hv j hj⟩
set_option maxRecDepth 100000 in
set_option maxHeartbeats 4000000 in
theorem ten_any (w : World) : Calls Tryd.prog 5 #[] w fun e w' => e = .returned (.bool true) ∧ Below w.heap.size w w' := by
  go_enter Tryd.func5, Tryd.ntmps5
  have HC : Hid (Calls Tryd.prog 10 #[.int .i64 2] w fun e w' => ∃ p c, e = .returned (.tuple #[.slice p 1 c, .int .i64 0]) ∧ Below w.heap.size w w') := by
    refine (Circle_ok 2 w (by decide) (by decide) (by decide)).mono ?_
    rintro e w' ⟨v, rfl, hS, hB⟩
    obtain ⟨p, c, rfl⟩ := hS.isSlice
    exact ⟨p, c, rfl, hB⟩
  go_upto_region 2 with (go_at_call 10; refine HC.out.mono ?_; rintro e w1 ⟨p1, c1, rfl, hB1⟩; have HB1 := Lib.hid hB1; clear hB1)
  go_upto_region 3 with (go_at_call 11; refine (tn_asc _).mono ?_; rintro e w6 ⟨rfl, hB6⟩; have HB6 := Lib.hid (HB1.out.trans (hB6.mono HB1.out.size)); clear hB6)
  have hw6 : w.heap.size ≤ w6.heap.size := HB6.out.size
  have hb0 : BoxN (w6.alloc (.cells #[.bool false, .bool true, .bool false] 4)) w6.heap.size 4 #[.bool false, .bool true, .bool false] := BoxN.new rfl
  have hb0 := ((hb0.alloc (.cells #[.bool false, .bool false, .bool true] 4)).alloc (.cells #[.bool true, .bool false, .bool false] 4)).alloc (.cells #[.slice (some ⟨w6.heap.size, 0, none⟩) 3 3, .slice (some ⟨w6.heap.size + 1, 0, none⟩) 3 3, .slice (some ⟨w6.heap.size + 1 + 1, 0, none⟩) 3 3] 34)
  have hb1 : BoxN ((w6.alloc (.cells #[.bool false, .bool true, .bool false] 4)).alloc (.cells #[.bool false, .bool false, .bool true] 4)) (w6.heap.size + 1) 4 #[.bool false, .bool false, .bool true] := BoxN.new (by simp)
  have hb1 := (hb1.alloc (.cells #[.bool true, .bool false, .bool false] 4)).alloc (.cells #[.slice (some ⟨w6.heap.size, 0, none⟩) 3 3, .slice (some ⟨w6.heap.size + 1, 0, none⟩) 3 3, .slice (some ⟨w6.heap.size + 1 + 1, 0, none⟩) 3 3] 34)
  have hb2 : BoxN (((w6.alloc (.cells #[.bool false, .bool true, .bool false] 4)).alloc (.cells #[.bool false, .bool false, .bool true] 4)).alloc (.cells #[.bool true, .bool false, .bool false] 4)) (w6.heap.size + 1 + 1) 4 #[.bool true, .bool false, .bool false] := BoxN.new (by simp)
  have hb2 := hb2.alloc (.cells #[.slice (some ⟨w6.heap.size, 0, none⟩) 3 3, .slice (some ⟨w6.heap.size + 1, 0, none⟩) 3 3, .slice (some ⟨w6.heap.size + 1 + 1, 0, none⟩) 3 3] 34)
  have hb3 : BoxN ((((w6.alloc (.cells #[.bool false, .bool true, .bool false] 4)).alloc (.cells #[.bool false, .bool false, .bool true] 4)).alloc (.cells #[.bool true, .bool false, .bool false] 4)).alloc (.cells #[.slice (some ⟨w6.heap.size, 0, none⟩) 3 3, .slice (some ⟨w6.heap.size + 1, 0, none⟩) 3 3, .slice (some ⟨w6.heap.size + 1 + 1, 0, none⟩) 3 3] 34)) (w6.heap.size + 1 + 1 + 1) 34 #[.slice (some ⟨w6.heap.size, 0, none⟩) 3 3, .slice (some ⟨w6.heap.size + 1, 0, none⟩) 3 3, .slice (some ⟨w6.heap.size + 1 + 1, 0, none⟩) 3 3] := BoxN.new (by simp)
  have hBU : Below w6.heap.size w6 ((((w6.alloc (.cells #[.bool false, .bool true, .bool false] 4)).alloc (.cells #[.bool false, .bool false, .bool true] 4)).alloc (.cells #[.bool true, .bool false, .bool false] 4)).alloc (.cells #[.slice (some ⟨w6.heap.size, 0, none⟩) 3 3, .slice (some ⟨w6.heap.size + 1, 0, none⟩) 3 3, .slice (some ⟨w6.heap.size + 1 + 1, 0, none⟩) 3 3] 34)) := (((((Below.refl _ w6).alloc (Nat.le_refl _) _).alloc (by simp) _).alloc (by simp; omega) _).alloc (by simp; omega) _)
  have HMG : Hid (Calls Tryd.prog 12 #[.slice (some ⟨w6.heap.size + 1 + 1 + 1, 0, none⟩) 3 3] ((((w6.alloc (.cells #[.bool false, .bool true, .bool false] 4)).alloc (.cells #[.bool false, .bool false, .bool true] 4)).alloc (.cells #[.bool true, .bool false, .bool false] 4)).alloc (.cells #[.slice (some ⟨w6.heap.size, 0, none⟩) 3 3, .slice (some ⟨w6.heap.size + 1, 0, none⟩) 3 3, .slice (some ⟨w6.heap.size + 1 + 1, 0, none⟩) 3 3] 34)) fun e w' => e = .returned (.tuple #[.int .i64 1, .int .i64 0]) ∧ Below ((((w6.alloc (.cells #[.bool false, .bool true, .bool false] 4)).alloc (.cells #[.bool false, .bool false, .bool true] 4)).alloc (.cells #[.bool true, .bool false, .bool false] 4)).alloc (.cells #[.slice (some ⟨w6.heap.size, 0, none⟩) 3 3, .slice (some ⟨w6.heap.size + 1, 0, none⟩) 3 3, .slice (some ⟨w6.heap.size + 1 + 1, 0, none⟩) 3 3] 34)).heap.size ((((w6.alloc (.cells #[.bool false, .bool true, .bool false] 4)).alloc (.cells #[.bool false, .bool false, .bool true] 4)).alloc (.cells #[.bool true, .bool false, .bool false] 4)).alloc (.cells #[.slice (some ⟨w6.heap.size, 0, none⟩) 3 3, .slice (some ⟨w6.heap.size + 1, 0, none⟩) 3 3, .slice (some ⟨w6.heap.size + 1 + 1, 0, none⟩) 3 3] 34)) w') := by
    have hTU : TblI ((((w6.alloc (.cells #[.bool false, .bool true, .bool false] 4)).alloc (.cells #[.bool false, .bool false, .bool true] 4)).alloc (.cells #[.bool true, .bool false, .bool false] 4)).alloc (.cells #[.slice (some ⟨w6.heap.size, 0, none⟩) 3 3, .slice (some ⟨w6.heap.size + 1, 0, none⟩) 3 3, .slice (some ⟨w6.heap.size + 1 + 1, 0, none⟩) 3 3] 34)) (some ⟨w6.heap.size + 1 + 1 + 1, 0, none⟩) 3 (fun _ => 3) ringT := tbl_ofT hb3.lt fun i hi => by
      rcases (show i = 0 ∨ i = 1 ∨ i = 2 by omega) with rfl | rfl | rfl
      · exact ⟨_, _, hb3.cell 0, srcBl_ofT hb0 fun j hj => by rcases (show j = 0 ∨ j = 1 ∨ j = 2 by omega) with rfl | rfl | rfl <;> rfl⟩
      · exact ⟨_, _, hb3.cell 1, srcBl_ofT hb1 fun j hj => by rcases (show j = 0 ∨ j = 1 ∨ j = 2 by omega) with rfl | rfl | rfl <;> rfl⟩
      · exact ⟨_, _, hb3.cell 2, srcBl_ofT hb2 fun j hj => by rcases (show j = 0 ∨ j = 1 ∨ j = 2 by omega) with rfl | rfl | rfl <;> rfl⟩
    have := Triples_ok (some ⟨w6.heap.size + 1 + 1 + 1, 0, none⟩) 3 3 ringT _ (by decide) (by decide) ringT_tour hTU
    rw [ring1] at this
    exact this
  clear hb0 hb1 hb2 hb3
  have HBU := Lib.hid (HB6.out.trans (hBU.mono hw6))
  clear hBU
  go_upto_region 4 with (go_at_call 12; refine HMG.out.mono ?_; rintro e w8 ⟨rfl, hB8⟩; have HB8 := Lib.hid (HBU.out.trans (hB8.mono HBU.out.size)); clear hB8)
  go_wp2
  go_ret
  exact ⟨rfl, HB8.out⟩
end Go.Proofs.YtbioondlmgolkaaDoor
