/- The library's count of trailing zeros; the elements of a set, in order; the program's iterator over a vertex' neighbours. has, areElements, isTwoTwo, IsTwoTwo: walks. twoTwo: walk. -/
import Derived.Test.YtgpijajgaclhfaaDoorOp
import Derived.Lib.TrailingZeros
import Derived.Laws.Bits64b
import Derived.BigQuiet
set_option linter.unusedVariables false
set_option linter.unusedSimpArgs false
namespace Go.Proofs.YtgpijajgaclhfaaDoor
open Go.RowKit Go.Shelf
attribute [local go_sem] Oper.semAt_some

/-- the library's table lies in its variable -/
def Tab (w : World) : Prop := 1 < w.heap.size ∧ ∀ j, j < Lib.deBruijn64tab.length → w.cell? ⟨1, j, none⟩ = some (.int .u8 (Lib.deBruijn64tab.getD j 0))
theorem Tab.below {n : Nat} {w W : World} (h : Tab w) (hB : Below n w W) (hn : w.heap.size ≤ n) : Tab W :=
  ⟨Nat.lt_of_lt_of_le h.1 hB.size, fun j hj => (hB.cell (p := ⟨1, j, none⟩) (Nat.lt_of_lt_of_le h.1 hn)).trans (h.2 j hj)⟩
theorem Tab.dr {w : World} (h : Tab w) (n : Nat) : Tab (w.drewN n) := h
set_option maxHeartbeats 1000000 in
theorem tz64_core (x k idx : Nat) (w : World) (hx0 : ((x : Int) == 0) = false)
    (key : IntKind.u64.wrap (bits BinOp.and IntKind.u64 (x : Int) (IntKind.u64.wrap (-(x : Int))) * 285870213051353865) / 288230376151711744 = (idx : Int))
    (hi : idx < 64) (hk : k < 64) (hcell : w.cell? ⟨1, idx, none⟩ = some (.int .u8 k)) :
    Calls Tryd.prog 102 #[.int .u64 x] w fun e w' => e = .returned (.int .i64 k) ∧ w' = w := by
  go_enter Tryd.func102, Tryd.ntmps102
  go_wp2_with (simp only [key])
  go_ret
  exact ⟨rfl, rfl⟩
theorem tz64_any (x : Nat) (hx : x < 18446744073709551616) (hx0 : x ≠ 0) (w : World) (hT : Tab w) :
    Calls Tryd.prog 102 #[.int .u64 x] w fun e w' => e = .returned (.int .i64 (Lib.ctz 64 x)) ∧ w' = w := by
  obtain ⟨hlow, hk⟩ := Lib.lowest_bit 64 x hx0 hx
  obtain ⟨hi, htab⟩ := Lib.deBruijn64_at _ hk
  have hcell := hT.2 _ hi
  rw [htab] at hcell
  refine tz64_core x _ _ w (by simp; omega) ?_ hi hk hcell
  have e1 : IntKind.u64.wrap (-(x : Int)) = ((18446744073709551616 - x : Nat) : Int) := by rw [IntKind.wrap_u64]; omega
  rw [e1, bits_and_u64_nat x _ hx (by omega), hlow, IntKind.wrap_u64]
  clear hcell htab hi
  generalize 2 ^ Lib.ctz 64 x = a
  omega
theorem tz64_zero (w : World) : Calls Tryd.prog 102 #[.int .u64 0] w fun e w' => e = .returned (.int .i64 64) ∧ w' = w := by
  go_enter Tryd.func102, Tryd.ntmps102
  go_wp2
  go_ret
  exact ⟨rfl, rfl⟩
theorem tz_any (x : Nat) (hx : x < 18446744073709551616) (hx0 : x ≠ 0) (w : World) (hT : Tab w) :
    Calls Tryd.prog 80 #[.int .u64 x] w fun e w' => e = .returned (.int .i64 (Lib.ctz 64 x)) ∧ w' = w := by
  have h := Lib.hid (tz64_any x hx hx0 w hT)
  have HX := Lib.hid hx0
  clear hx0
  go_enter Tryd.func80, Tryd.ntmps80
  go_wp2_with (go_at_call 102; refine (h.out).mono ?_; rintro e w' ⟨rfl, rfl⟩)
  go_ret
  exact ⟨rfl, rfl⟩
/-- the least element -/
def lo (x : Nat) : Nat := Lib.ctz 64 x
theorem lo_spec {x : Nat} (h0 : x ≠ 0) (h : x < 18446744073709551616) : ∃ m, x = 2 ^ lo x * (2 * m + 1) ∧ lo x < 64 := by
  have := Lib.ctzFrom_spec 64 x (by omega) h
  unfold lo Lib.ctz
  rw [if_neg h0]
  exact this
theorem bit_low (c m j : Nat) : (2 ^ c * (2 * m + 1)).testBit j = (decide (j = c) || (decide (c < j) && m.testBit (j - c - 1))) := by
  rw [Nat.mul_comm, Nat.testBit_mul_two_pow]
  by_cases h : c ≤ j
  · obtain ⟨d, rfl⟩ : ∃ d, j = c + d := ⟨j - c, by omega⟩
    cases d with
    | zero => simp [Nat.testBit_zero]
    | succ d =>
      rw [show c + (d + 1) - c = d + 1 by omega, Nat.testBit_succ, show (2 * m + 1) / 2 = m by omega, show d + 1 - 1 = d by omega]
      simp
  · simp [show ¬ c ≤ j by omega, show ¬ j = c by omega, show ¬ c < j by omega]
theorem lo_bit {x : Nat} (h0 : x ≠ 0) (h : x < 18446744073709551616) : x.testBit (lo x) = true ∧ ∀ j, x.testBit j = true → lo x ≤ j := by
  obtain ⟨m, hm, _⟩ := lo_spec h0 h
  generalize lo x = c at *
  subst hm
  refine ⟨by rw [bit_low]; simp, fun j hj => ?_⟩
  rw [bit_low] at hj
  simp at hj
  omega
theorem sub_one_and {x : Nat} (h0 : x ≠ 0) (h : x < 18446744073709551616) : x &&& (x - 1) = ldiff x (pw (lo x)) := by
  obtain ⟨m, hm, _⟩ := lo_spec h0 h
  generalize lo x = c at *
  subst hm
  refine Nat.eq_of_testBit_eq fun j => ?_
  have hp : 0 < 2 ^ c := Nat.two_pow_pos c
  have e : 2 ^ c * (2 * m + 1) - 1 = 2 ^ c * (2 * m) + (2 ^ c - 1) := by rw [Nat.mul_add]; omega
  rw [testBit_ldiff, Nat.testBit_and, e, Nat.testBit_two_pow_mul_add (b := 2 ^ c - 1) (2 * m) (by omega) j, bit_low]
  unfold pw
  rw [Nat.testBit_two_pow]
  by_cases h1 : j = c
  · subst h1
    simp [Nat.testBit_zero]
  · by_cases h2 : j < c
    · simp [show ¬ c < j by omega, h1]
    · obtain ⟨d, rfl⟩ : ∃ d, j = c + d + 1 := ⟨j - c - 1, by omega⟩
      rw [if_neg h2, show c + d + 1 - c = d + 1 by omega, Nat.testBit_succ, show (2 * m) / 2 = m by omega]
      simp [show ¬ c = c + d + 1 by omega, h1]
theorem lo_sm {x : Nat} (h0 : x ≠ 0) (h : Sm x) : lo x < 20 := by
  have h64 : x < 18446744073709551616 := Nat.lt_trans h.lt (by decide)
  apply Classical.byContradiction
  intro hc
  have := (lo_bit h0 h64).1
  rw [Nat.testBit_lt_two_pow (Nat.lt_of_lt_of_le h.lt (show 1048576 ≤ 2 ^ lo x from Nat.le_trans (show 1048576 ≤ 2 ^ 20 by decide) (Nat.pow_le_pow_right (by decide) (by omega))))] at this
  cases this
/-- the elements of a set from k on -/
def elsFrom (s : Nat) : Nat → Nat → List Nat
  | 0, _ => []
  | f + 1, k => if s.testBit k then k :: elsFrom s f (k + 1) else elsFrom s f (k + 1)
/-- the elements of a small set, rising -/
def els (s : Nat) : List Nat := elsFrom s 20 0
theorem mem_elsFrom {s i : Nat} : ∀ (f k : Nat), i ∈ elsFrom s f k ↔ (k ≤ i ∧ i < k + f ∧ s.testBit i = true)
  | 0, k => by simp [elsFrom]; omega
  | f + 1, k => by
    unfold elsFrom
    by_cases h : s.testBit k = true
    · rw [if_pos h, List.mem_cons, mem_elsFrom f (k + 1)]
      constructor
      · rintro (rfl | ⟨a, b, c⟩)
        · exact ⟨Nat.le_refl _, by omega, h⟩
        · exact ⟨by omega, by omega, c⟩
      · rintro ⟨a, b, c⟩
        by_cases e : i = k
        · exact .inl e
        · exact .inr ⟨by omega, by omega, c⟩
    · rw [if_neg h, mem_elsFrom f (k + 1)]
      constructor
      · rintro ⟨a, b, c⟩; exact ⟨by omega, by omega, c⟩
      · rintro ⟨a, b, c⟩
        have : i ≠ k := fun e => h (by rw [← e]; exact c)
        exact ⟨by omega, by omega, c⟩
theorem bit_lt20 {s i : Nat} (hs : Sm s) (h : s.testBit i = true) : i < 20 := Classical.byContradiction fun hc => by
  rw [Nat.testBit_lt_two_pow (Nat.lt_of_lt_of_le hs.lt (Nat.le_trans (show 1048576 ≤ 2 ^ 20 by decide) (Nat.pow_le_pow_right (by decide) (by omega))))] at h
  cases h
theorem mem_els {s i : Nat} (hs : Sm s) : i ∈ els s ↔ s.testBit i = true := by
  unfold els
  rw [mem_elsFrom]
  exact ⟨fun h => h.2.2, fun h => ⟨Nat.zero_le _, by have := bit_lt20 hs h; omega, h⟩⟩
theorem els_zero : els 0 = [] := by decide
theorem elsFrom_low {s t : Nat} : ∀ (f k : Nat), (∀ j, k ≤ j → s.testBit j = t.testBit j) → elsFrom s f k = elsFrom t f k
  | 0, _, _ => rfl
  | f + 1, k, h => by
    unfold elsFrom
    rw [h k (Nat.le_refl _), elsFrom_low f (k + 1) (fun j hj => h j (by omega))]
theorem elsFrom_skip {s c : Nat} (hl : ∀ j, s.testBit j = true → c ≤ j) : ∀ (d f k : Nat), k + d = c → elsFrom s (d + f) k = elsFrom s f c
  | 0, f, k, h => by rw [Nat.zero_add, ← h]; rfl
  | d + 1, f, k, h => by
    have hk : ¬ s.testBit k = true := fun hc => by have := hl k hc; omega
    rw [show d + 1 + f = d + f + 1 by omega]
    conv => lhs; unfold elsFrom
    rw [if_neg hk]
    exact elsFrom_skip hl d f (k + 1) (by omega)
theorem elsFrom_len (s : Nat) : ∀ (f k : Nat), (elsFrom s f k).length ≤ f
  | 0, _ => by simp [elsFrom]
  | f + 1, k => by
    have := elsFrom_len s f (k + 1)
    unfold elsFrom
    split
    · simp; omega
    · omega
theorem els_step {s : Nat} (h0 : s ≠ 0) (hs : Sm s) : els s = lo s :: els (ldiff s (pw (lo s))) := by
  have h64 : s < 18446744073709551616 := Nat.lt_trans hs.lt (by decide)
  obtain ⟨b1, b2⟩ := lo_bit h0 h64
  have hc := lo_sm h0 hs
  generalize lo s = c at *
  obtain ⟨f, hf⟩ : ∃ f, 20 = c + (f + 1) := ⟨20 - c - 1, by omega⟩
  have pwb : ∀ j, (pw c).testBit j = decide (c = j) := fun j => by unfold pw; rw [Nat.testBit_two_pow]
  have hl2 : ∀ j, (ldiff s (pw c)).testBit j = true → c + 1 ≤ j := fun j hj => by
    rw [testBit_ldiff, pwb] at hj
    simp at hj
    have := b2 j hj.1
    have := hj.2
    omega
  unfold els
  rw [hf, elsFrom_skip b2 c (f + 1) 0 (by omega), show c + (f + 1) = (c + 1) + f by omega, elsFrom_skip hl2 (c + 1) f 0 (by omega)]
  conv => lhs; unfold elsFrom
  rw [if_pos b1]
  congr 1
  exact elsFrom_low f (c + 1) fun j hj => by
    rw [testBit_ldiff, pwb]
    simp [show ¬ c = j by omega]
end Go.Proofs.YtgpijajgaclhfaaDoor
namespace Go.Proofs.YtgpijajgaclhfaaDoor
open Go.RowKit Go.Shelf

theorem aft_sm {n : Nat} {r : Nat → Nat → Bool} (hn : n ≤ 12) (x : Nat) : Sm (aft n r x) := sm_bs _ (by omega)
theorem bef_sm {n : Nat} {r : Nat → Nat → Bool} (hn : n ≤ 12) (x : Nat) : Sm (bef n r x) := sm_bs _ (by omega)
set_option maxRecDepth 100000 in
theorem has_any (B n x y : Nat) (r : Nat → Nat → Bool) (w : World) (hn : n ≤ 12) (hx : x < n) (hy : y < n) (hO : OrdAt w B n r) :
    Calls Tryd.prog 66 #[.pointer (some ⟨B, 0, none⟩), .int .i64 (x : Int), .int .i64 (y : Int)] w fun e w' => e = .returned (.bool (r x y)) ∧ w' = w := by
  have l1 := hO.ca x hx
  have hs := aft_sm (r := r) hn x
  have hb := aft64 (n := n) (r := r) (x := x) hy
  rw [← hb]
  clear hb hO
  have h1 : (x : Int) < 12 := by omega
  have h2 : (0 : Int) ≤ (x : Int) := by omega
  have h3 : (0 : Int) ≤ (y : Int) := by omega
  have h4 : y < 20 := by omega
  generalize aft n r x = a at *
  go_enter Tryd.func66, Tryd.ntmps66
  go_wp2
  go_ret
  exact ⟨rfl, rfl⟩
/-- slices.Min and slices.Max at a row of integers -/
def MinP (m : Nat) (f : Nat → Int) (k : Int) : Prop := (∀ j, j < m → k ≤ f j) ∧ ∃ j, j < m ∧ f j = k
def MaxP (m : Nat) (f : Nat → Int) (k : Int) : Prop := (∀ j, j < m → f j ≤ k) ∧ ∃ j, j < m ∧ f j = k
set_option maxRecDepth 100000 in
theorem min_any (b o c m : Nat) (f : Nat → Int) (w : World) (hm : 1 ≤ m) (hm2 : m ≤ 1099511627776) (hs : ∀ j, j < m → w.cell? ⟨b, o + j, none⟩ = some (.int .i64 (f j))) :
    Calls Tryd.prog 83 #[.slice (some ⟨b, o, none⟩) m c] w fun e w' => (∃ k, e = .returned (.int .i64 k) ∧ MinP m f k) ∧ w' = w := by
  have HS := Lib.hid hs
  have h0 := hs 0 (by omega)
  rw [Nat.add_zero] at h0
  have g1 : ¬ (m : Int) < 1 := by omega
  have g2 : (0 : Int) < (m : Int) := by omega
  obtain ⟨f0, hf0⟩ : ∃ f0, Hid (f0 = f 0) := ⟨_, rfl⟩
  rw [← hf0.out] at h0
  clear hs
  go_enter Tryd.func83, Tryd.ntmps83
  go_upto_region 5 with (fail)
  go_loopw [4, 3] (fun s4 s3 wr => ∃ (i : Nat) (k : Int), 1 ≤ i ∧ i ≤ m ∧ s4 = .int .i64 (i : Int) ∧ s3 = .int .i64 k ∧ Hid (MinP i f k) ∧ Hid (wr = w)) (fun s4 _ _ => m - (intOf s4).toNat)
  case atStart => exact ⟨1, f0, by omega, hm, rfl, rfl, ⟨fun j hj => (show j = 0 by omega) ▸ Int.le_of_eq hf0.out, 0, by omega, hf0.out.symm⟩, rfl⟩
  case round =>
    obtain ⟨i, k, hi1, hi, rfl, rfl, hp, hw⟩ := hrel
    rw [hw.out]
    by_cases him : i < m
    · have g3 : (i : Int) < (m : Int) := by omega
      have g4 : (0 : Int) ≤ (i : Int) := by omega
      have h1 := HS.out i him
      obtain ⟨fi, hfi⟩ : ∃ fi, Hid (fi = f i) := ⟨_, rfl⟩
      rw [← hfi.out] at h1
      have HN : Hid (MinP (i + 1) f (min k fi)) := by
        refine ⟨fun j hj => ?_, ?_⟩
        · by_cases e : j = i
          · subst e; rw [hfi.out]; omega
          · have := hp.out.1 j (by omega); omega
        · by_cases e : k ≤ fi
          · obtain ⟨j, hj, hk⟩ := hp.out.2; exact ⟨j, by omega, by omega⟩
          · exact ⟨i, by omega, by rw [← hfi.out]; omega⟩
      have hmk : (if fi < k then fi else k) = min k fi := by split <;> omega
      have HMK := Lib.hid hmk
      clear hmk
      go_wp2
      have hmk := HMK.out
      exact ⟨⟨i + 1, if fi < k then fi else k, by omega, by omega, int_eq (by omega), rfl, (by rw [hmk]; exact HN), True.intro⟩, by simp [intOf]; omega⟩
    · have g3 : ¬ (i : Int) < (m : Int) := by omega
      obtain rfl : i = m := by omega
      go_wp2
      go_ret
      exact ⟨⟨_, rfl, hp.out⟩, rfl⟩
set_option maxRecDepth 100000 in
theorem max_any (b o c m : Nat) (f : Nat → Int) (w : World) (hm : 1 ≤ m) (hm2 : m ≤ 1099511627776) (hs : ∀ j, j < m → w.cell? ⟨b, o + j, none⟩ = some (.int .i64 (f j))) :
    Calls Tryd.prog 84 #[.slice (some ⟨b, o, none⟩) m c] w fun e w' => (∃ k, e = .returned (.int .i64 k) ∧ MaxP m f k) ∧ w' = w := by
  have HS := Lib.hid hs
  have h0 := hs 0 (by omega)
  rw [Nat.add_zero] at h0
  have g1 : ¬ (m : Int) < 1 := by omega
  have g2 : (0 : Int) < (m : Int) := by omega
  obtain ⟨f0, hf0⟩ : ∃ f0, Hid (f0 = f 0) := ⟨_, rfl⟩
  rw [← hf0.out] at h0
  clear hs
  go_enter Tryd.func84, Tryd.ntmps84
  go_upto_region 5 with (fail)
  go_loopw [4, 3] (fun s4 s3 wr => ∃ (i : Nat) (k : Int), 1 ≤ i ∧ i ≤ m ∧ s4 = .int .i64 (i : Int) ∧ s3 = .int .i64 k ∧ Hid (MaxP i f k) ∧ Hid (wr = w)) (fun s4 _ _ => m - (intOf s4).toNat)
  case atStart => exact ⟨1, f0, by omega, hm, rfl, rfl, ⟨fun j hj => (show j = 0 by omega) ▸ Int.le_of_eq hf0.out.symm, 0, by omega, hf0.out.symm⟩, rfl⟩
  case round =>
    obtain ⟨i, k, hi1, hi, rfl, rfl, hp, hw⟩ := hrel
    rw [hw.out]
    by_cases him : i < m
    · have g3 : (i : Int) < (m : Int) := by omega
      have g4 : (0 : Int) ≤ (i : Int) := by omega
      have h1 := HS.out i him
      obtain ⟨fi, hfi⟩ : ∃ fi, Hid (fi = f i) := ⟨_, rfl⟩
      rw [← hfi.out] at h1
      have HN : Hid (MaxP (i + 1) f (max k fi)) := by
        refine ⟨fun j hj => ?_, ?_⟩
        · by_cases e : j = i
          · subst e; rw [hfi.out]; omega
          · have := hp.out.1 j (by omega); omega
        · by_cases e : k ≤ fi
          · exact ⟨i, by omega, by rw [← hfi.out]; omega⟩
          · obtain ⟨j, hj, hk⟩ := hp.out.2; exact ⟨j, by omega, by omega⟩
      have hmk : (if k < fi then fi else k) = max k fi := by split <;> omega
      have HMK := Lib.hid hmk
      clear hmk
      go_wp2
      have hmk := HMK.out
      exact ⟨⟨i + 1, if k < fi then fi else k, by omega, by omega, int_eq (by omega), rfl, (by rw [hmk]; exact HN), True.intro⟩, by simp [intOf]; omega⟩
    · have g3 : ¬ (i : Int) < (m : Int) := by omega
      obtain rfl : i = m := by omega
      go_wp2
      go_ret
      exact ⟨⟨_, rfl, hp.out⟩, rfl⟩
/-- four numbers -/
def at4 (a b c d : Int) : Nat → Int
  | 0 => a
  | 1 => b
  | 2 => c
  | _ => d
def In4 (n : Nat) (a b c d : Int) : Prop := (0 ≤ a ∧ a < n) ∧ (0 ≤ b ∧ b < n) ∧ (0 ≤ c ∧ c < n) ∧ (0 ≤ d ∧ d < n)
def mn4 (a b c d : Int) : Int := min (min (min a b) c) d
def mx4 (a b c d : Int) : Int := max (max (max a b) c) d
theorem mn4_eq {a b c d k : Int} (h : MinP 4 (at4 a b c d) k) : k = mn4 a b c d := by
  have h0 := h.1 0 (by omega); have h1 := h.1 1 (by omega); have h2 := h.1 2 (by omega); have h3 := h.1 3 (by omega)
  obtain ⟨j, hj, e⟩ := h.2
  unfold mn4
  rcases (show j = 0 ∨ j = 1 ∨ j = 2 ∨ j = 3 by omega) with rfl | rfl | rfl | rfl <;> simp only [at4] at * <;> omega
theorem mx4_eq {a b c d k : Int} (h : MaxP 4 (at4 a b c d) k) : k = mx4 a b c d := by
  have h0 := h.1 0 (by omega); have h1 := h.1 1 (by omega); have h2 := h.1 2 (by omega); have h3 := h.1 3 (by omega)
  obtain ⟨j, hj, e⟩ := h.2
  unfold mx4
  rcases (show j = 0 ∨ j = 1 ∨ j = 2 ∨ j = 3 by omega) with rfl | rfl | rfl | rfl <;> simp only [at4] at * <;> omega
set_option maxRecDepth 100000 in
theorem elems_any (B n : Nat) (r : Nat → Nat → Bool) (a b c d : Int) (w : World) (hO : OrdAt w B n r) :
    Calls Tryd.prog 61 #[.pointer (some ⟨B, 0, none⟩), .agg #[.int .i64 a, .int .i64 b, .int .i64 c, .int .i64 d]] w fun e w' => BoolP (In4 n a b c d) e ∧ Below w.heap.size w w' := by
  have HB0 : Hid (Below w.heap.size w (w.alloc (.cells #[.int .i64 a, .int .i64 b, .int .i64 c, .int .i64 d] 45))) := (Below.refl _ _).alloc (Nat.le_refl _) _
  have HX0 : Hid (BoxN (w.alloc (.cells #[.int .i64 a, .int .i64 b, .int .i64 c, .int .i64 d] 45)) w.heap.size 45 #[.int .i64 a, .int .i64 b, .int .i64 c, .int .i64 d]) := BoxN.new rfl
  have c0 := (hO.below HB0.out (Nat.le_refl _)).cn
  clear hO
  go_enter Tryd.func61, Tryd.ntmps61
  go_upto_region 1 with (fail)
  obtain ⟨b1, hb1⟩ : ∃ b1, Hid (b1 = w.heap.size) := ⟨_, rfl⟩
  rw [← hb1.out] at HX0
  simp only [← hb1.out]
  generalize w.alloc (.cells #[.int .i64 a, .int .i64 b, .int .i64 c, .int .i64 d] 45) = X at *
  have HC : Hid (∀ q j, j < 4 → (X.drewN q).cell? ⟨b1, 0 + j, none⟩ = some (.int .i64 (at4 a b c d j))) := fun q j hj => by
    rw [World.cell?_drewN, HX0.out.cell]
    rcases (show j = 0 ∨ j = 1 ∨ j = 2 ∨ j = 3 by omega) with rfl | rfl | rfl | rfl <;> rfl
  have HMN : Hid (∀ q, Calls Tryd.prog 83 #[.slice (some ⟨b1, 0, none⟩) 4 4] (X.drewN q) fun e w' => e = .returned (.int .i64 (mn4 a b c d)) ∧ w' = X.drewN q) := fun q => (min_any b1 0 4 4 (at4 a b c d) (X.drewN q) (by omega) (by omega) (HC.out q)).mono (by
    rintro e w' ⟨⟨k, rfl, hk⟩, rfl⟩
    rw [mn4_eq hk]
    exact ⟨rfl, rfl⟩)
  have HMX : Hid (∀ q, Calls Tryd.prog 84 #[.slice (some ⟨b1, 0, none⟩) 4 4] (X.drewN q) fun e w' => e = .returned (.int .i64 (mx4 a b c d)) ∧ w' = X.drewN q) := fun q => (max_any b1 0 4 4 (at4 a b c d) (X.drewN q) (by omega) (by omega) (HC.out q)).mono (by
    rintro e w' ⟨⟨k, rfl, hk⟩, rfl⟩
    rw [mx4_eq hk]
    exact ⟨rfl, rfl⟩)
  have HIN : Hid (In4 n a b c d ↔ 0 ≤ mn4 a b c d ∧ mx4 a b c d < n) := by
    unfold In4 mn4 mx4; exact ⟨fun h => by omega, fun h => by omega⟩
  generalize mn4 a b c d = mn at *
  generalize mx4 a b c d = mx at *
  clear HC
  by_cases h0 : 0 ≤ mn
  · by_cases h1 : mx < n
    · have e0 : decide (0 ≤ mn) = true := by simpa using h0
      go_quiet (first | (go_at_call 83; exact Calls.quiet_of_same (HMN.out _)) | (go_at_call 84; exact Calls.quiet_of_same (HMX.out _)))
      go_wp2
      go_ret
      exact ⟨BoolP.yes (HIN.out.2 ⟨h0, h1⟩), below_dr HB0.out _⟩
    · have e0 : decide (0 ≤ mn) = true := by simpa using h0
      have e1 : ¬ mx < n := h1
      go_quiet (first | (go_at_call 83; exact Calls.quiet_of_same (HMN.out _)) | (go_at_call 84; exact Calls.quiet_of_same (HMX.out _)))
      go_wp2
      go_ret
      exact ⟨BoolP.no (fun h => by have := (HIN.out.1 h).2; omega), below_dr HB0.out _⟩
  · have e0 : decide (0 ≤ mn) = false := by simpa using h0
    go_quiet (first | (go_at_call 83; exact Calls.quiet_of_same (HMN.out _)) | (go_at_call 84; exact Calls.quiet_of_same (HMX.out _)))
    go_wp2
    go_ret
    exact ⟨BoolP.no (fun h => by have := (HIN.out.1 h).1; omega), below_dr HB0.out _⟩
/-- isTwoTwo at four elements -/
def tt (r : Nat → Nat → Bool) (a b c d : Nat) : Bool := r a b && r c d && !r a d && !r c b
set_option maxRecDepth 100000 in
theorem isTT_any (B n : Nat) (r : Nat → Nat → Bool) (a b c d : Nat) (w : World) (hn : n ≤ 12) (ha : a < n) (hb : b < n) (hc : c < n) (hd : d < n) (hO : OrdAt w B n r) :
    Calls Tryd.prog 62 #[.pointer (some ⟨B, 0, none⟩), .agg #[.int .i64 (a : Int), .int .i64 (b : Int), .int .i64 (c : Int), .int .i64 (d : Int)]] w fun e w' => e = .returned (.bool (tt r a b c d)) ∧ Below w.heap.size w w' := by
  have HB0 : Hid (Below w.heap.size w (w.alloc (.cells #[.int .i64 (a : Int), .int .i64 (b : Int), .int .i64 (c : Int), .int .i64 (d : Int)] 45))) := (Below.refl _ _).alloc (Nat.le_refl _) _
  have HX0 : Hid (BoxN (w.alloc (.cells #[.int .i64 (a : Int), .int .i64 (b : Int), .int .i64 (c : Int), .int .i64 (d : Int)] 45)) w.heap.size 45 #[.int .i64 (a : Int), .int .i64 (b : Int), .int .i64 (c : Int), .int .i64 (d : Int)]) := BoxN.new rfl
  have HO := Lib.hid (hO.below HB0.out (Nat.le_refl _))
  have HH : Hid (∀ q x y, x < n → y < n → Calls Tryd.prog 66 #[.pointer (some ⟨B, 0, none⟩), .int .i64 (x : Int), .int .i64 (y : Int)] ((w.alloc (.cells #[.int .i64 (a : Int), .int .i64 (b : Int), .int .i64 (c : Int), .int .i64 (d : Int)] 45)).drewN q) fun e w' => e = .returned (.bool (r x y)) ∧ w' = (w.alloc (.cells #[.int .i64 (a : Int), .int .i64 (b : Int), .int .i64 (c : Int), .int .i64 (d : Int)] 45)).drewN q) := fun q x y hx hy => has_any B n x y r _ hn hx hy (HO.out.dr q)
  clear hO HO
  go_enter Tryd.func62, Tryd.ntmps62
  go_upto_region 1 with (fail)
  generalize w.alloc (.cells #[.int .i64 (a : Int), .int .i64 (b : Int), .int .i64 (c : Int), .int .i64 (d : Int)] 45) = X at *
  have c0 := HX0.out.cell 0
  have c1 := HX0.out.cell 1
  have c2 := HX0.out.cell 2
  have c3 := HX0.out.cell 3
  have h1 := Lib.hid (fun q => HH.out q a b ha hb)
  have h2 := Lib.hid (fun q => HH.out q c d hc hd)
  have h3 := Lib.hid (fun q => HH.out q a d ha hd)
  have h4 := Lib.hid (fun q => HH.out q c b hc hb)
  have ht : Hid (tt r a b c d = (r a b && r c d && !r a d && !r c b)) := rfl
  generalize r a b = b1 at *
  generalize r c d = b2 at *
  generalize r a d = b3 at *
  generalize r c b = b4 at *
  clear HX0 HH ha hb hc hd hn
  go_quiet (fail)
  cases b1
  · go_wp2_with (go_at_call 66; refine (h1.out _).mono ?_; rintro e w1 ⟨rfl, hw1⟩; subst hw1)
    go_ret
    exact ⟨ret_bool ht.out.symm, below_dr HB0.out _⟩
  · cases b2
    · go_wp2_with (first | (go_at_call 66; with_reducible refine (h1.out _).mono ?_; rintro e w1 ⟨rfl, hw1⟩; subst hw1) | (go_at_call 66; with_reducible refine (h2.out _).mono ?_; rintro e w1 ⟨rfl, hw1⟩; subst hw1))
      go_ret
      exact ⟨ret_bool ht.out.symm, below_dr HB0.out _⟩
    · cases b3
      · cases b4
        all_goals
          go_wp2_with (first | (go_at_call 66; with_reducible refine (h1.out _).mono ?_; rintro e w1 ⟨rfl, hw1⟩; subst hw1) | (go_at_call 66; with_reducible refine (h2.out _).mono ?_; rintro e w1 ⟨rfl, hw1⟩; subst hw1) | (go_at_call 66; with_reducible refine (h3.out _).mono ?_; rintro e w1 ⟨rfl, hw1⟩; subst hw1) | (go_at_call 66; with_reducible refine (h4.out _).mono ?_; rintro e w1 ⟨rfl, hw1⟩; subst hw1))
          go_ret
          exact ⟨ret_bool ht.out.symm, below_dr HB0.out _⟩
      · go_wp2_with (first | (go_at_call 66; with_reducible refine (h1.out _).mono ?_; rintro e w1 ⟨rfl, hw1⟩; subst hw1) | (go_at_call 66; with_reducible refine (h2.out _).mono ?_; rintro e w1 ⟨rfl, hw1⟩; subst hw1) | (go_at_call 66; with_reducible refine (h3.out _).mono ?_; rintro e w1 ⟨rfl, hw1⟩; subst hw1))
        go_ret
        exact ⟨ret_bool ht.out.symm, below_dr HB0.out _⟩
end Go.Proofs.YtgpijajgaclhfaaDoor
namespace Go.Proofs.YtgpijajgaclhfaaDoor
open Go.RowKit Go.Shelf

/-- what twoTwo answers -/
def TwoA (n : Nat) (r : Nat → Nat → Bool) (e : Ending) : Prop :=
  (∃ a b c d : Nat, e = .returned (.tuple #[.agg #[.int .i64 (a : Int), .int .i64 (b : Int), .int .i64 (c : Int), .int .i64 (d : Int)], .bool true]) ∧ TwoTwo n r a b c d) ∨
  (e = .returned (.tuple #[.agg #[.int .i64 0, .int .i64 0, .int .i64 0, .int .i64 0], .bool false]) ∧ ∀ a b c d, ¬ TwoTwo n r a b c d)
theorem lo_ldiff {n : Nat} {r : Nat → Nat → Bool} {x y : Nat} (hn : n ≤ 12) (h : ldiff (bef n r x) (bef n r y) ≠ 0) : lo (ldiff (bef n r x) (bef n r y)) < n ∧ r (lo (ldiff (bef n r x) (bef n r y))) x = true ∧ r (lo (ldiff (bef n r x) (bef n r y))) y = false := by
  have hb := (lo_bit h (Nat.lt_trans (sm_ldiff (bef n r y) (bef_sm (r := r) hn x)).lt (by decide))).1
  generalize lo (ldiff (bef n r x) (bef n r y)) = k at *
  rw [testBit_ldiff] at hb
  have h1 : (bef n r x).testBit k = true := by revert hb; cases (bef n r x).testBit k <;> simp
  have h2 : (bef n r y).testBit k = false := by revert hb; rw [h1]; cases (bef n r y).testBit k <;> simp
  have hk := (bef_bit.1 h1).1
  exact ⟨hk, (bef_bit.1 h1).2, by rw [bef64 hk] at h2; exact h2⟩
set_option maxRecDepth 100000 in
set_option maxHeartbeats 2000000 in
theorem twoTwo_any (B n : Nat) (r : Nat → Nat → Bool) (w : World) (hn1 : 1 ≤ n) (hn : n ≤ 12) (hT : Tab w) (hO : OrdAt w B n r) :
    Calls Tryd.prog 57 #[.pointer (some ⟨B, 0, none⟩)] w fun e w' => TwoA n r e ∧ Below w.heap.size w w' := by
  have HB0 : Hid (Below w.heap.size w (w.alloc (.cells #[.int .i64 0, .int .i64 0, .int .i64 0, .int .i64 0] 45))) := (Below.refl _ _).alloc (Nat.le_refl _) _
  have HX0 : Hid (BoxN (w.alloc (.cells #[.int .i64 0, .int .i64 0, .int .i64 0, .int .i64 0] 45)) w.heap.size 45 #[.int .i64 0, .int .i64 0, .int .i64 0, .int .i64 0]) := BoxN.new rfl
  have HO := Lib.hid (hO.below HB0.out (Nat.le_refl _))
  have HT := Lib.hid (hT.below HB0.out (Nat.le_refl _))
  clear hO hT
  go_enter Tryd.func57, Tryd.ntmps57
  go_wp2
  go_step3
  go_wp2
  go_step3
  go_upto_region 1 with (fail)
  obtain ⟨b1, hb1⟩ : ∃ b1, Hid (b1 = w.heap.size) := ⟨_, rfl⟩
  rw [← hb1.out] at HX0
  simp only [← hb1.out]
  generalize w.alloc (.cells #[.int .i64 0, .int .i64 0, .int .i64 0, .int .i64 0] 45) = X at *
  have c0 := HO.out.cn
  go_upto_region 2 with (fail)
  go_loopw [12, 3] (fun s12 s3 wr => ∃ i : Nat, i ≤ n ∧ s12 = .int .i64 (i : Int) ∧ s3 = .bool false ∧ Hid (∀ b d, b < i → d < n → ¬ (ldiff (bef n r b) (bef n r d) ≠ 0 ∧ ldiff (bef n r d) (bef n r b) ≠ 0)) ∧ (∃ m, Hid (wr = X.drewN m))) (fun s12 _ _ => n - (intOf s12).toNat)
  case atStart => exact ⟨0, by omega, rfl, rfl, (fun b d hb => by omega), 0, rfl⟩
  case round =>
    obtain ⟨i, hi, rfl, rfl, hp, mW, hw⟩ := hrel
    rw [hw.out]
    clear hw
    by_cases hin : i < n
    · have g1 : (i : Int) < (n : Int) := by omega
      have g2 : (0 : Int) ≤ (i : Int) := by omega
      go_upto_region 5 with (fail)
      go_loopw [19, 3] (fun s19 s3 wr => ∃ j : Nat, j ≤ n ∧ s19 = .int .i64 (j : Int) ∧ s3 = .bool false ∧ Hid (∀ d, d < j → ¬ (ldiff (bef n r i) (bef n r d) ≠ 0 ∧ ldiff (bef n r d) (bef n r i) ≠ 0)) ∧ (∃ m, Hid (wr = X.drewN m))) (fun s19 _ _ => n - (intOf s19).toNat)
      case atStart => exact ⟨0, by omega, rfl, rfl, (fun d hd => by omega), mW, rfl⟩
      case round =>
        obtain ⟨j, hj, rfl, rfl, hq, mV, hw⟩ := hrel
        rw [hw.out]
        clear hw
        by_cases hjn : j < n
        · have g3 : (j : Int) < (n : Int) := by omega
          have g4 : (0 : Int) ≤ (j : Int) := by omega
          have l1 := HO.out.cb i hin
          have l2 := HO.out.cb j hjn
          have s1 := bef_sm (r := r) hn i
          have s2 := bef_sm (r := r) hn j
          have HL1 := Lib.hid (fun h => lo_ldiff (n := n) (r := r) (x := i) (y := j) hn h)
          have HL2 := Lib.hid (fun h => lo_ldiff (n := n) (r := r) (x := j) (y := i) hn h)
          have hx10 : (i : Int) < 12 := by omega
          have hy10 : (j : Int) < 12 := by omega
          have HIN := Lib.hid hin
          have HJN := Lib.hid hjn
          have HS : Hid (∀ d, d < j + 1 → (ldiff (bef n r i) (bef n r j) ≠ 0 ∧ ldiff (bef n r j) (bef n r i) ≠ 0) ∨ ¬ (ldiff (bef n r i) (bef n r d) ≠ 0 ∧ ldiff (bef n r d) (bef n r i) ≠ 0)) := fun d hd => by
            by_cases e : d = j
            · subst e; exact Classical.em _
            · exact .inr (hq.out d (by omega))
          clear hq
          generalize bef n r i = ga at *
          generalize bef n r j = gb at *
          by_cases h1 : ldiff ga gb = 0
          · have HN : Hid (∀ d, d < j + 1 → ¬ (ldiff ga (bef n r d) ≠ 0 ∧ ldiff (bef n r d) ga ≠ 0)) := fun d hd => (HS.out d hd).resolve_left (fun h => h.1 h1)
            clear HL1 HL2 HS
            go_wp2
            go_quiet (fail)
            go_wp2
            exact ⟨⟨j + 1, by omega, int_eq (by omega), rfl, HN, _, rfl⟩, by simp [intOf]; omega⟩
          · by_cases h2 : ldiff gb ga = 0
            · have HN : Hid (∀ d, d < j + 1 → ¬ (ldiff ga (bef n r d) ≠ 0 ∧ ldiff (bef n r d) ga ≠ 0)) := fun d hd => (HS.out d hd).resolve_left (fun h => h.2 h2)
              clear HL1 HL2 HS
              go_wp2
              go_quiet (fail)
              go_wp2
              exact ⟨⟨j + 1, by omega, int_eq (by omega), rfl, HN, _, rfl⟩, by simp [intOf]; omega⟩
            · have HTT : Hid (TwoTwo n r (lo (ldiff ga gb)) i (lo (ldiff gb ga)) j) := ⟨(HL1.out h1).1, HIN.out, (HL2.out h2).1, HJN.out, (HL1.out h1).2.1, (HL2.out h2).2.1, (HL1.out h1).2.2, (HL2.out h2).2.2⟩
              obtain ⟨va, hva⟩ : ∃ va, Hid (va = lo (ldiff ga gb)) := ⟨_, rfl⟩
              obtain ⟨vb, hvb⟩ : ∃ vb, Hid (vb = lo (ldiff gb ga)) := ⟨_, rfl⟩
              rw [← hva.out, ← hvb.out] at HTT
              have HC1 : Hid (∀ q, Calls Tryd.prog 80 #[.int .u64 (ldiff ga gb : Nat)] (X.drewN q) fun e w' => e = .returned (.int .i64 (va : Int)) ∧ w' = X.drewN q) := fun q => by rw [hva.out]; exact tz_any (ldiff ga gb) (Nat.lt_trans (sm_ldiff gb s1).lt (by decide)) h1 (X.drewN q) (HT.out.dr q)
              have HC2 : Hid (∀ q, Calls Tryd.prog 80 #[.int .u64 (ldiff gb ga : Nat)] (X.drewN q) fun e w' => e = .returned (.int .i64 (vb : Int)) ∧ w' = X.drewN q) := fun q => by rw [hvb.out]; exact tz_any (ldiff gb ga) (Nat.lt_trans (sm_ldiff ga s2).lt (by decide)) h2 (X.drewN q) (HT.out.dr q)
              have s3 := sm_ldiff gb s1
              have s4 := sm_ldiff ga s2
              have n1 : (((ldiff ga gb : Nat) : Int) != 0) = true := by rw [bne_iff_ne]; omega
              have n2 : (((ldiff gb ga : Nat) : Int) != 0) = true := by rw [bne_iff_ne]; omega
              have z1 : IntKind.u64.wrap ((ldiff ga gb : Nat) : Int) = ((ldiff ga gb : Nat) : Int) := u64_same _ (Nat.lt_trans s3.lt (by decide))
              have z2 : IntKind.u64.wrap ((ldiff gb ga : Nat) : Int) = ((ldiff gb ga : Nat) : Int) := u64_same _ (Nat.lt_trans s4.lt (by decide))
              clear HL1 HL2 HS hva hvb
              have f0 := HX0.out.frozen 0
              have f1 := HX0.out.frozen 1
              have f2 := HX0.out.frozen 2
              have f3 := HX0.out.frozen 3
              have d0 := HX0.out.cell 0
              have d1 := HX0.out.cell 1
              have d2 := HX0.out.cell 2
              have d3 := HX0.out.cell 3
              go_wp2
              go_quiet (fail)
              generalize ldiff ga gb = da at *
              generalize ldiff gb ga = db at *
              go_upto_region 12 with (first | (go_at_call 80; with_reducible refine (HC1.out _).mono ?_; rintro e w1 ⟨rfl, hw1⟩; subst hw1) | (go_at_call 80; with_reducible refine (HC2.out _).mono ?_; rintro e w1 ⟨rfl, hw1⟩; subst hw1))
              have hbw : w.heap.size ≤ b1 := Nat.le_of_eq hb1.out.symm
              have HBY := Lib.hid (((((below_dr (below_dr HB0.out mV) nq).setCell (p := ⟨b1, 0, none⟩) hbw (.int .i64 (va : Int))).setCell (p := ⟨b1, 1, none⟩) hbw (.int .i64 (i : Int))).setCell (p := ⟨b1, 2, none⟩) hbw (.int .i64 (vb : Int))).setCell (p := ⟨b1, 3, none⟩) hbw (.int .i64 (j : Int)))
              have HXY := ((((show BoxN ((X.drewN mV).drewN nq) b1 45 _ from HX0.out).set 0 (.int .i64 (va : Int))).set 1 (.int .i64 (i : Int))).set 2 (.int .i64 (vb : Int))).set 3 (.int .i64 (j : Int))
              simp only [World.drewN_drewN] at HBY HXY
              generalize ((((X.drewN (mV + nq)).setCell ⟨b1, 0, none⟩ (.int .i64 (va : Int))).setCell ⟨b1, 1, none⟩ (.int .i64 (i : Int))).setCell ⟨b1, 2, none⟩ (.int .i64 (vb : Int))).setCell ⟨b1, 3, none⟩ (.int .i64 (j : Int)) = Y at *
              clear d0 d1 d2 d3 f0 f1 f2 f3
              have f0 := HXY.frozen 0
              have f1 := HXY.frozen 1
              have f2 := HXY.frozen 2
              have f3 := HXY.frozen 3
              have d0 := HXY.cell 0
              have d1 := HXY.cell 1
              have d2 := HXY.cell 2
              have d3 := HXY.cell 3
              simp only [Array.setIfInBounds, List.size_toArray, List.length_cons, List.length_nil] at d0 d1 d2 d3
              go_wp2
              rw [Exit.noGoto_ret]
              refine bodyPost_ret (v := .tuple #[.agg #[.int .i64 (va : Int), .int .i64 (i : Int), .int .i64 (vb : Int), .int .i64 (j : Int)], .bool true]) (by simp [results, Tryd.f57, go_sem, d0, d1, d2, d3, f0, f1, f2, f3]) rfl ?_
              exact ⟨.inl ⟨va, i, vb, j, rfl, HTT.out⟩, (((HBY.out.setCell (p := ⟨b1, 0, none⟩) hbw _).setCell (p := ⟨b1, 1, none⟩) hbw _).setCell (p := ⟨b1, 2, none⟩) hbw _).setCell (p := ⟨b1, 3, none⟩) hbw _⟩
        · have g3 : ¬ (j : Int) < (n : Int) := by omega
          obtain rfl : j = n := by omega
          have HN : Hid (∀ b d, b < i + 1 → d < j → ¬ (ldiff (bef j r b) (bef j r d) ≠ 0 ∧ ldiff (bef j r d) (bef j r b) ≠ 0)) := fun b d hb hd => by
            by_cases e : b = i
            · subst e; exact hq.out d hd
            · exact hp.out b d (by omega) hd
          go_wp2
          exact ⟨⟨i + 1, by omega, int_eq (by omega), rfl, HN, _, rfl⟩, by simp [intOf]; omega⟩
    · have g1 : ¬ (i : Int) < (n : Int) := by omega
      obtain rfl : i = n := by omega
      have HNO : Hid (∀ a b c d, ¬ TwoTwo i r a b c d) := fun a b c d h => by
        obtain ⟨b, d, hb, hd, h1, h2⟩ := two_iff.1 ⟨a, b, c, d, h⟩
        exact hp.out b d hb hd ⟨h1, h2⟩
      have f0 := HX0.out.frozen 0
      have f1 := HX0.out.frozen 1
      have f2 := HX0.out.frozen 2
      have f3 := HX0.out.frozen 3
      have d0 := HX0.out.cell 0
      have d1 := HX0.out.cell 1
      have d2 := HX0.out.cell 2
      have d3 := HX0.out.cell 3
      go_wp2
      refine bodyPost_ret (v := .tuple #[.agg #[.int .i64 0, .int .i64 0, .int .i64 0, .int .i64 0], .bool false]) (by simp [results, Tryd.f57, go_sem, d0, d1, d2, d3, f0, f1, f2, f3]) rfl ?_
      have hbw : w.heap.size ≤ b1 := Nat.le_of_eq hb1.out.symm
      exact ⟨.inr ⟨rfl, HNO.out⟩, ((((below_dr HB0.out _).setCell (p := ⟨b1, 0, none⟩) hbw _).setCell (p := ⟨b1, 1, none⟩) hbw _).setCell (p := ⟨b1, 2, none⟩) hbw _).setCell (p := ⟨b1, 3, none⟩) hbw _⟩
end Go.Proofs.YtgpijajgaclhfaaDoor
