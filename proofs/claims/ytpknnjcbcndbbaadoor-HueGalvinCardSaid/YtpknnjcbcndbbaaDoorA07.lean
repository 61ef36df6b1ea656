/- The library's count of trailing zeros; the elements of a set, in order; the program's iterator over a vertex' neighbours. The program's iterator over the neighbours of a vertex: its contract. -/
import Derived.Test.YtpknnjcbcndbbaaDoorA06
import Derived.Lib.TrailingZeros
import Derived.Laws.Bits64b
set_option linter.unusedVariables false
set_option linter.unusedSimpArgs false
namespace Go.Proofs.YtpknnjcbcndbbaaDoor
open Go.RowKit Go.Shelf
attribute [local go_sem] Oper.semAt_some

/-- the library's table lies in its variable -/
def Tab (w : World) : Prop := 0 < w.heap.size ∧ ∀ j, j < Lib.deBruijn64tab.length → w.cell? ⟨0, j, none⟩ = some (.int .u8 (Lib.deBruijn64tab.getD j 0))
theorem Tab.below {n : Nat} {w W : World} (h : Tab w) (hB : Below n w W) (hn : w.heap.size ≤ n) : Tab W :=
  ⟨Nat.lt_of_lt_of_le h.1 hB.size, fun j hj => (hB.cell (p := ⟨0, j, none⟩) (Nat.lt_of_lt_of_le h.1 hn)).trans (h.2 j hj)⟩
theorem Tab.dr {w : World} (h : Tab w) (n : Nat) : Tab (w.drewN n) := h
set_option maxHeartbeats 1000000 in
theorem tz64_core (x k idx : Nat) (w : World) (hx0 : ((x : Int) == 0) = false)
    (key : IntKind.u64.wrap (bits BinOp.and IntKind.u64 (x : Int) (IntKind.u64.wrap (-(x : Int))) * 285870213051353865) / 288230376151711744 = (idx : Int))
    (hi : idx < 64) (hk : k < 64) (hcell : w.cell? ⟨0, idx, none⟩ = some (.int .u8 k)) :
    Calls Tryd.prog 80 #[.int .u64 x] w fun e w' => e = .returned (.int .i64 k) ∧ w' = w := by
  go_enter Tryd.func80, Tryd.ntmps80
  go_wp2_with (simp only [key])
  go_ret
  exact ⟨rfl, rfl⟩
theorem tz64_any (x : Nat) (hx : x < 18446744073709551616) (hx0 : x ≠ 0) (w : World) (hT : Tab w) :
    Calls Tryd.prog 80 #[.int .u64 x] w fun e w' => e = .returned (.int .i64 (Lib.ctz 64 x)) ∧ w' = w := by
  obtain ⟨hlow, hk⟩ := Lib.lowest_bit 64 x hx0 hx
  obtain ⟨hi, htab⟩ := Lib.deBruijn64_at _ hk
  have hcell := hT.2 _ hi
  rw [htab] at hcell
  refine tz64_core x _ _ w (by simp; omega) ?_ hi hk hcell
  have e1 : IntKind.u64.wrap (-(x : Int)) = ((18446744073709551616 - x : Nat) : Int) := by rw [IntKind.wrap_u64]; omega
  rw [e1, bits_and_u64_nat x _ hx (by omega), hlow, IntKind.wrap_u64]
  clear hcell htab hi
  generalize 2 ^ Lib.ctz 64 x = a
  omega
theorem tz64_zero (w : World) : Calls Tryd.prog 80 #[.int .u64 0] w fun e w' => e = .returned (.int .i64 64) ∧ w' = w := by
  go_enter Tryd.func80, Tryd.ntmps80
  go_wp2
  go_ret
  exact ⟨rfl, rfl⟩
theorem tz_any (x : Nat) (hx : x < 18446744073709551616) (hx0 : x ≠ 0) (w : World) (hT : Tab w) :
    Calls Tryd.prog 99 #[.int .u64 x] w fun e w' => e = .returned (.int .i64 (Lib.ctz 64 x)) ∧ w' = w := by
  have h := Lib.hid (tz64_any x hx hx0 w hT)
  have HX := Lib.hid hx0
  clear hx0
  go_enter Tryd.func99, Tryd.ntmps99
  go_wp2_with (go_at_call 80; refine (h.out).mono ?_; rintro e w' ⟨rfl, rfl⟩)
  go_ret
  exact ⟨rfl, rfl⟩
/-- the least element -/
def lo (x : Nat) : Nat := Lib.ctz 64 x
theorem lo_spec {x : Nat} (h0 : x ≠ 0) (h : x < 18446744073709551616) : ∃ m, x = 2 ^ lo x * (2 * m + 1) ∧ lo x < 64 := by
  have := Lib.ctzFrom_spec 64 x (by omega) h
  unfold lo Lib.ctz
  rw [if_neg h0]
  exact this
theorem bit_low (c m j : Nat) : (2 ^ c * (2 * m + 1)).testBit j = (decide (j = c) || (decide (c < j) && m.testBit (j - c - 1))) := by
  rw [Nat.mul_comm, Nat.testBit_mul_two_pow]
  by_cases h : c ≤ j
  · obtain ⟨d, rfl⟩ : ∃ d, j = c + d := ⟨j - c, by omega⟩
    cases d with
    | zero => simp [Nat.testBit_zero]
    | succ d =>
      rw [show c + (d + 1) - c = d + 1 by omega, Nat.testBit_succ, show (2 * m + 1) / 2 = m by omega, show d + 1 - 1 = d by omega]
      simp
  · simp [show ¬ c ≤ j by omega, show ¬ j = c by omega, show ¬ c < j by omega]
theorem lo_bit {x : Nat} (h0 : x ≠ 0) (h : x < 18446744073709551616) : x.testBit (lo x) = true ∧ ∀ j, x.testBit j = true → lo x ≤ j := by
  obtain ⟨m, hm, _⟩ := lo_spec h0 h
  generalize lo x = c at *
  subst hm
  refine ⟨by rw [bit_low]; simp, fun j hj => ?_⟩
  rw [bit_low] at hj
  simp at hj
  omega
theorem sub_one_and {x : Nat} (h0 : x ≠ 0) (h : x < 18446744073709551616) : x &&& (x - 1) = ldiff x (pw (lo x)) := by
  obtain ⟨m, hm, _⟩ := lo_spec h0 h
  generalize lo x = c at *
  subst hm
  refine Nat.eq_of_testBit_eq fun j => ?_
  have hp : 0 < 2 ^ c := Nat.two_pow_pos c
  have e : 2 ^ c * (2 * m + 1) - 1 = 2 ^ c * (2 * m) + (2 ^ c - 1) := by rw [Nat.mul_add]; omega
  rw [testBit_ldiff, Nat.testBit_and, e, Nat.testBit_two_pow_mul_add (b := 2 ^ c - 1) (2 * m) (by omega) j, bit_low]
  unfold pw
  rw [Nat.testBit_two_pow]
  by_cases h1 : j = c
  · subst h1
    simp [Nat.testBit_zero]
  · by_cases h2 : j < c
    · simp [show ¬ c < j by omega, h1]
    · obtain ⟨d, rfl⟩ : ∃ d, j = c + d + 1 := ⟨j - c - 1, by omega⟩
      rw [if_neg h2, show c + d + 1 - c = d + 1 by omega, Nat.testBit_succ, show (2 * m) / 2 = m by omega]
      simp [show ¬ c = c + d + 1 by omega, h1]
theorem lo_sm {x : Nat} (h0 : x ≠ 0) (h : Sm x) : lo x < 20 := by
  have h64 : x < 18446744073709551616 := Nat.lt_trans h.lt (by decide)
  apply Classical.byContradiction
  intro hc
  have := (lo_bit h0 h64).1
  rw [Nat.testBit_lt_two_pow (Nat.lt_of_lt_of_le h.lt (show 1048576 ≤ 2 ^ lo x from Nat.le_trans (show 1048576 ≤ 2 ^ 20 by decide) (Nat.pow_le_pow_right (by decide) (by omega))))] at this
  cases this
/-- the elements of a set from k on -/
def elsFrom (s : Nat) : Nat → Nat → List Nat
  | 0, _ => []
  | f + 1, k => if s.testBit k then k :: elsFrom s f (k + 1) else elsFrom s f (k + 1)
/-- the elements of a small set, rising -/
def els (s : Nat) : List Nat := elsFrom s 20 0
theorem mem_elsFrom {s i : Nat} : ∀ (f k : Nat), i ∈ elsFrom s f k ↔ (k ≤ i ∧ i < k + f ∧ s.testBit i = true)
  | 0, k => by simp [elsFrom]; omega
  | f + 1, k => by
    unfold elsFrom
    by_cases h : s.testBit k = true
    · rw [if_pos h, List.mem_cons, mem_elsFrom f (k + 1)]
      constructor
      · rintro (rfl | ⟨a, b, c⟩)
        · exact ⟨Nat.le_refl _, by omega, h⟩
        · exact ⟨by omega, by omega, c⟩
      · rintro ⟨a, b, c⟩
        by_cases e : i = k
        · exact .inl e
        · exact .inr ⟨by omega, by omega, c⟩
    · rw [if_neg h, mem_elsFrom f (k + 1)]
      constructor
      · rintro ⟨a, b, c⟩; exact ⟨by omega, by omega, c⟩
      · rintro ⟨a, b, c⟩
        have : i ≠ k := fun e => h (by rw [← e]; exact c)
        exact ⟨by omega, by omega, c⟩
theorem bit_lt20 {s i : Nat} (hs : Sm s) (h : s.testBit i = true) : i < 20 := Classical.byContradiction fun hc => by
  rw [Nat.testBit_lt_two_pow (Nat.lt_of_lt_of_le hs.lt (Nat.le_trans (show 1048576 ≤ 2 ^ 20 by decide) (Nat.pow_le_pow_right (by decide) (by omega))))] at h
  cases h
theorem mem_els {s i : Nat} (hs : Sm s) : i ∈ els s ↔ s.testBit i = true := by
  unfold els
  rw [mem_elsFrom]
  exact ⟨fun h => h.2.2, fun h => ⟨Nat.zero_le _, by have := bit_lt20 hs h; omega, h⟩⟩
theorem els_zero : els 0 = [] := by decide
theorem elsFrom_low {s t : Nat} : ∀ (f k : Nat), (∀ j, k ≤ j → s.testBit j = t.testBit j) → elsFrom s f k = elsFrom t f k
  | 0, _, _ => rfl
  | f + 1, k, h => by
    unfold elsFrom
    rw [h k (Nat.le_refl _), elsFrom_low f (k + 1) (fun j hj => h j (by omega))]
theorem elsFrom_skip {s c : Nat} (hl : ∀ j, s.testBit j = true → c ≤ j) : ∀ (d f k : Nat), k + d = c → elsFrom s (d + f) k = elsFrom s f c
  | 0, f, k, h => by rw [Nat.zero_add, ← h]; rfl
  | d + 1, f, k, h => by
    have hk : ¬ s.testBit k = true := fun hc => by have := hl k hc; omega
    rw [show d + 1 + f = d + f + 1 by omega]
    conv => lhs; unfold elsFrom
    rw [if_neg hk]
    exact elsFrom_skip hl d f (k + 1) (by omega)
theorem elsFrom_len (s : Nat) : ∀ (f k : Nat), (elsFrom s f k).length ≤ f
  | 0, _ => by simp [elsFrom]
  | f + 1, k => by
    have := elsFrom_len s f (k + 1)
    unfold elsFrom
    split
    · simp; omega
    · omega
theorem els_step {s : Nat} (h0 : s ≠ 0) (hs : Sm s) : els s = lo s :: els (ldiff s (pw (lo s))) := by
  have h64 : s < 18446744073709551616 := Nat.lt_trans hs.lt (by decide)
  obtain ⟨b1, b2⟩ := lo_bit h0 h64
  have hc := lo_sm h0 hs
  generalize lo s = c at *
  obtain ⟨f, hf⟩ : ∃ f, 20 = c + (f + 1) := ⟨20 - c - 1, by omega⟩
  have pwb : ∀ j, (pw c).testBit j = decide (c = j) := fun j => by unfold pw; rw [Nat.testBit_two_pow]
  have hl2 : ∀ j, (ldiff s (pw c)).testBit j = true → c + 1 ≤ j := fun j hj => by
    rw [testBit_ldiff, pwb] at hj
    simp at hj
    have := b2 j hj.1
    have := hj.2
    omega
  unfold els
  rw [hf, elsFrom_skip b2 c (f + 1) 0 (by omega), show c + (f + 1) = (c + 1) + f by omega, elsFrom_skip hl2 (c + 1) f 0 (by omega)]
  conv => lhs; unfold elsFrom
  rw [if_pos b1]
  congr 1
  exact elsFrom_low f (c + 1) fun j hj => by
    rw [testBit_ldiff, pwb]
    simp [show ¬ c = j by omega]
end Go.Proofs.YtpknnjcbcndbbaaDoor
namespace Go.Proofs.YtpknnjcbcndbbaaDoor
open Go.RowKit Go.Shelf
attribute [local go_sem] Oper.semAt_some

def toS (t : Nat) : S20 := ⟨t % 1048576, Nat.mod_lt _ (by decide)⟩
theorem toS_val {t : Nat} (h : Sm t) : (toS t).1 = t := Nat.mod_eq_of_lt h
/-- what a round must keep for the iterator -/
def KeepsTab (A B : World) : Prop := Tab A → Tab B
theorem keepsTab_t {A B C : World} (h : KeepsTab A B) (k : KeepsTab B C) : KeepsTab A C := fun t => k (h t)
theorem KeepsTab.refl (W : World) : KeepsTab W W := fun h => h
theorem keepsTab_b {w : World} (hw : 0 < w.heap.size) (W : World) (l : Nat) (o o' : Obj) (hl : w.heap.size ≤ l) (h : W.heap[l]? = some o) (_ : o.isCells = false) (_ : o.isWalk = false) : KeepsTab W (W.putObj l o') := fun ht => by
  have hg := grownBy_putObj' W l o'
  exact ⟨Nat.lt_of_lt_of_le ht.1 hg.size, fun j hj => (World.cell?_of_block ((hg.block 0 ht.1 (fun e => by cases e; omega)))).trans (ht.2 j hj)⟩
theorem ldiff_lo_lt {k : Nat} (h0 : k ≠ 0) (hs : Sm k) : ldiff k (pw (lo k)) < k := by
  have hb := (lo_bit h0 (Nat.lt_trans hs.lt (by decide))).1
  refine Nat.lt_of_le_of_ne (ldiff_le _ _) fun e => ?_
  have := congrArg (fun x : Nat => x.testBit (lo k)) e
  simp only [testBit_ldiff, hb] at this
  rw [show (pw (lo k)).testBit (lo k) = true from by unfold pw; rw [Nat.testBit_two_pow]; simp] at this
  cases this
set_option maxHeartbeats 1000000 in
theorem at1_in (n : Nat) (hn : 1 ≤ n) (l Bg Bv B : Nat) (v s : Nat) (hv : v < 16) (hs : Sm s) (J Jx : List S20 → World → Prop)
    (hY : ∀ pre x W, J pre W → pre.length < 21 → YieldAt Fence.wide (n - 1) Tryd.prog l #[.int .i64 ((x : S20).1 : Int)] W fun e W' =>
      (e = .returned (.bool true) ∧ J (pre ++ [x]) W' ∧ KeepsTab W W') ∨ (e = .returned (.bool false) ∧ Jx (pre ++ [x]) W'))
    (W : World) (hT : Tab W) (hG : W.cell? ⟨Bg, 0, none⟩ = some (.pointer (some ⟨B, 0, none⟩))) (hV : W.cell? ⟨Bv, 0, none⟩ = some (.int .i64 (v : Int))) (hN : W.cell? ⟨B, 2 + v, none⟩ = some (.int .i64 (s : Int))) (h0 : J [] W) (hJ : ∀ pre W n, J pre W → J pre (W.drewN n)) :
    CallsIn Fence.wide n Tryd.prog 98 #[.func (.yield l) #[] #[], .pointer (some ⟨Bg, 0, none⟩), .pointer (some ⟨Bv, 0, none⟩)] W fun e W' => (∃ v, e = .returned v) ∧
      ((∃ ys, ys = (els s).map toS ∧ J ys W') ∨ (∃ pre, (∃ r, (els s).map toS = pre ++ r) ∧ Jx pre W')) := by
  have hv0 : (0 : Int) ≤ (v : Int) := by omega
  have hv1 : ((v : Nat) : Int) < 16 := by omega
  refine callsIn_of_wp Tryd.func98 rfl trivial ?_ rfl
  simp only [Tryd.ntmps98, List.size_toArray, List.length_cons, List.length_nil, Nat.reduceAdd, Nat.reduceSub, Array.replicate_succ, Array.replicate_zero, List.push_toArray, List.append_toArray, List.nil_append, List.cons_append]
  gi_wp2
  gi_quiet (fail)
  gi_wp2
  gi_loopw [4] (fun s4 wr => ∃ (k : Nat) (pre : List S20), Hid ((els s).map toS = pre ++ (els k).map toS) ∧ Sm k ∧ pre.length + (els k).length ≤ 20 ∧ s4 = .int .i64 ((k : Nat) : Int) ∧ J pre wr ∧ Tab wr)
    (fun s _ => (intOf s).toNat)
  case atStart => exact ⟨s, [], rfl, hs, by have := elsFrom_len s 20 0; unfold els; simpa using this, rfl, hJ _ _ _ h0, hT⟩
  case round =>
    obtain ⟨k, pre, hpre, hks, hlen, rfl, hJs, hTr⟩ := hrel
    have HTR := Lib.hid hTr
    clear hTr hT hG hV hN
    by_cases hk0 : k = 0
    · have hb : (((k : Nat) : Int) != 0) = false := by rw [hk0]; rfl
      have HP : Hid ((els s).map toS = pre) := by unfold Hid; rw [hpre.out, hk0, els_zero]; simp
      clear hk0
      gi_wp2
      go_end0
      exact ⟨⟨_, rfl⟩, .inl ⟨pre, HP.out.symm, hJs⟩⟩
    · have hb : (((k : Nat) : Int) != 0) = true := by rw [bne_iff_ne]; omega
      have hk64 : k < 18446744073709551616 := Nat.lt_trans hks.lt (by decide)
      have hlo := lo_sm hk0 hks
      have hsp := els_step hk0 hks
      have hlt := ldiff_lo_lt hk0 hks
      have hrest : Sm (ldiff k (pw (lo k))) := sm_ldiff _ hks
      have HTZ := Lib.hid (tz_any k hk64 hk0 wr HTR.out)
      have hand : ((bits BinOp.and IntKind.i64 (k : Int) (IntKind.i64.wrap ((k : Int) - 1)) : Int)) = ((ldiff k (pw (lo k)) : Nat) : Int) := by
        rw [IntWalk.i64_in _ (by have := hks.lt; omega), show ((k : Int) - 1) = ((k - 1 : Nat) : Int) by omega, band k (k - 1) hks (sm_of (by have := hks.lt; omega)), sub_one_and hk0 hk64]
      have hand2 : ((bits BinOp.and IntKind.i64 (k : Int) ((k : Int) - 1) : Int)) = ((ldiff k (pw (lo k)) : Nat) : Int) := by
        rw [← hand, IntWalk.i64_in _ (by have := hks.lt; omega)]
      have hand3 : ((bits BinOp.and IntKind.i64 (k : Int) (wrap64 ((k : Int) - 1)) : Int)) = ((ldiff k (pw (lo k)) : Nat) : Int) := by
        rw [← hand, IntWalk.i64_left]
      have hk1 : 1 ≤ k := by omega
      have hwu : IntKind.u64.wrap (k : Int) = (k : Int) := u64_same k hk64
      rw [show Lib.ctz 64 k = lo k from rfl] at HTZ
      generalize hc : lo k = c at *
      have HC := Lib.hid hc
      clear hc
      have hcs : Sm c := sm_of (by omega)
      obtain ⟨fn, tmps, assign, body, hy, hR⟩ := hY pre (toS c) wr hJs (by rw [hsp] at hlen; simp at hlen; omega)
      rw [toS_val hcs] at hy
      have HPRE : Hid ((els s).map toS = (pre ++ [toS c]) ++ (els (ldiff k (pw c))).map toS) := by unfold Hid; rw [hpre.out, hsp]; simp
      have hlen2 : (pre ++ [toS c]).length + (els (ldiff k (pw c))).length ≤ 20 := by rw [hsp] at hlen; simp at hlen ⊢; omega
      have HR := Lib.hid hR
      clear hR hsp hk0 hJs hlen hwu
      generalize ldiff k (pw c) = k2 at *
      gi_wp2_with (first
        | (gi_at_call 99; refine (callsIn_wide.2 HTZ.out).mono ?_; rintro e w5 ⟨rfl, hw⟩; subst hw; try dsimp only))
      refine HR.out.mono ?_
      rintro e W3 (⟨rfl, hJ3, hk3⟩ | ⟨rfl, hJx3⟩)
      · have hT3 := Lib.hid (hk3 HTR.out)
        gi_wp2
        exact ⟨⟨k2, pre ++ [toS c], HPRE, hrest, hlen2, rfl, hJ3, hT3.out⟩, by simp [intOf]; omega⟩
      · gi_wp2
        refine bodyPost_ret (results_none rfl _ _ _) rfl ?_
        exact ⟨⟨_, rfl⟩, .inr ⟨_, ⟨_, HPRE.out⟩, hJx3⟩⟩
theorem at_in (B v : Nat) (w : World) :
    Calls Tryd.prog 85 #[.pointer (some ⟨B, 0, none⟩), .int .i64 (v : Int)] w fun e w' => e = .returned (.func (.func 98) #[] #[.pointer (some ⟨w.heap.size, 0, none⟩), .pointer (some ⟨w.heap.size + 1, 0, none⟩)]) ∧ w' = (w.alloc (.cells #[.pointer (some ⟨B, 0, none⟩)] 79)).alloc (.cells #[.int .i64 (v : Int)] 3) := by
  go_enter Tryd.func85, Tryd.ntmps85
  go_wp2
  go_ret
  exact ⟨by simp, rfl⟩
/-- THE ITERATOR's CONTRACT: the neighbours, rising; or a beginning of them. -/
theorem at_stops (n : Nat) (hn : 1 ≤ n) (Bg Bv B v s : Nat) (hv : v < 16) (hs : Sm s) (w : World) (hT : Tab w) (hBg : Bg < w.heap.size) (hBv : Bv < w.heap.size) (hB : B < w.heap.size) (hG : w.cell? ⟨Bg, 0, none⟩ = some (.pointer (some ⟨B, 0, none⟩))) (hV : w.cell? ⟨Bv, 0, none⟩ = some (.int .i64 (v : Int))) (hN : w.cell? ⟨B, 2 + v, none⟩ = some (.int .i64 (s : Int))) :
    SeqStopsK Fence.wide n Tryd.prog 98 #[.pointer (some ⟨Bg, 0, none⟩), .pointer (some ⟨Bv, 0, none⟩)] (fun x : S20 => #[Value.int .i64 (x.1 : Int)]) KeepsTab (fun ys => ys = (els s).map toS) (fun pre => ∃ r, (els s).map toS = pre ++ r) 21 w := fun l J Jx W hW hJ _ hY h0 =>
  at1_in n hn l Bg Bv B v s hv hs J Jx hY W (hT.below hW (Nat.le_refl _)) ((hW.cell (p := ⟨Bg, 0, none⟩) hBg).trans hG) ((hW.cell (p := ⟨Bv, 0, none⟩) hBv).trans hV) ((hW.cell (p := ⟨B, 2 + v, none⟩) hB).trans hN) h0
    (fun pre W n h => hJ pre W (W.drewN n) none h ⟨rfl, rfl, rfl, Nat.le_refl _, fun _ _ _ => rfl⟩ (fun r e => by cases e))
end Go.Proofs.YtpknnjcbcndbbaaDoor
