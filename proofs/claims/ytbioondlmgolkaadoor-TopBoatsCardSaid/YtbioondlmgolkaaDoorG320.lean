/- Walks of the functions that look at edges. The library's comparison of two lists of integers; the program's check of edges. -/
import Derived.Deep.QuietTactic
import Derived.BigQuiet
import Derived.Test.YtbioondlmgolkaaDoorHuIu
import Derived.Test.YtbioondlmgolkaaDoorHuQr
set_option linter.unusedVariables false
set_option linter.unusedSimpArgs false
namespace Go.Proofs.YtbioondlmgolkaaDoor.Hu
open Go.RowKit

/-- a row of pairs of integers in memory, where there is one -/
def Pairs (w : World) (a : Option Addr) (ps : List (Int × Int)) : Prop :=
  ps ≠ [] → ∃ b off, a = some ⟨b, off, none⟩ ∧ b < w.heap.size ∧ ∀ j, j < ps.length → w.cell? ⟨b, off + j * 2, none⟩ = some (.int .i64 (ps[j]?.getD (0, 0)).1) ∧ w.cell? ⟨b, off + j * 2 + 1, none⟩ = some (.int .i64 (ps[j]?.getD (0, 0)).2)
theorem Pairs.below {n : Nat} {w W : World} {a : Option Addr} {ps : List (Int × Int)} (h : Pairs w a ps) (hb : Below n w W) (hn : w.heap.size ≤ n) : Pairs W a ps := fun hne => by
  obtain ⟨b, off, e, hlt, hc⟩ := h hne
  exact ⟨b, off, e, Nat.lt_of_lt_of_le hlt hb.size, fun j hj => ⟨(hb.cell (p := ⟨b, off + j * 2, none⟩) (Nat.lt_of_lt_of_le hlt hn)).trans (hc j hj).1, (hb.cell (p := ⟨b, off + j * 2 + 1, none⟩) (Nat.lt_of_lt_of_le hlt hn)).trans (hc j hj).2⟩⟩

def badAt (n : Int) (ps : List (Int × Int)) (i : Nat) : Bool :=
  decide ((ps[i]?.getD (0, 0)).1 < 0) || decide ((ps[i]?.getD (0, 0)).2 ≤ (ps[i]?.getD (0, 0)).1) || decide (n ≤ (ps[i]?.getD (0, 0)).2) ||
    (decide (0 < i) && (decide ((ps[i]?.getD (0, 0)).1 < (ps[i - 1]?.getD (0, 0)).1) || (decide ((ps[i - 1]?.getD (0, 0)).1 = (ps[i]?.getD (0, 0)).1) && decide ((ps[i]?.getD (0, 0)).2 ≤ (ps[i - 1]?.getD (0, 0)).2))))
def edgesB (n : Int) (ps : List (Int × Int)) : Bool := (List.range ps.length).all fun i => !badAt n ps i
end Go.Proofs.YtbioondlmgolkaaDoor.Hu
namespace Go.Proofs.YtbioondlmgolkaaDoor.Hu
open Go.RowKit

def cmpI (x y : Int) : Int := if x < y then -1 else if y < x then 1 else 0
def cmpL : List Int → List Int → Int
  | [], [] => 0
  | [], _ :: _ => -1
  | _ :: _, [] => 1
  | x :: xs, y :: ys => if x < y then -1 else if y < x then 1 else cmpL xs ys
theorem cmpL_drop (xs ys : List Int) : ∀ (k : Nat), (∀ j, j < k → xs[j]?.getD 0 = ys[j]?.getD 0) → k ≤ xs.length → k ≤ ys.length → cmpL xs ys = cmpL (xs.drop k) (ys.drop k)
  | 0, _, _, _ => by simp
  | k + 1, h, h1, h2 => by
    rw [cmpL_drop xs ys k (fun j hj => h j (by omega)) (by omega) (by omega)]
    have e := h k (by omega)
    rw [List.drop_eq_getElem_cons (by omega : k < xs.length), List.drop_eq_getElem_cons (by omega : k < ys.length)]
    have e1 : xs[k] = ys[k] := by simpa [List.getElem?_eq_getElem (by omega : k < xs.length), List.getElem?_eq_getElem (by omega : k < ys.length)] using e
    simp only [cmpL, e1, Int.lt_irrefl, if_false]
theorem cmpL_at (xs ys : List Int) (k : Nat) (h : ∀ j, j < k → xs[j]?.getD 0 = ys[j]?.getD 0) (h1 : k < xs.length) (h2 : k < ys.length) (hne : xs[k]?.getD 0 ≠ ys[k]?.getD 0) : cmpL xs ys = cmpI (xs[k]?.getD 0) (ys[k]?.getD 0) := by
  rw [cmpL_drop xs ys k h (by omega) (by omega), List.drop_eq_getElem_cons h1, List.drop_eq_getElem_cons h2]
  simp only [List.getElem?_eq_getElem h1, List.getElem?_eq_getElem h2, Option.getD_some] at hne ⊢
  simp only [cmpL, cmpI]
  split
  · rfl
  · split
    · rfl
    · omega

theorem isNaN_any (x : Int) (w : World) : Calls Tryd.prog 47 #[.int .i64 x] w fun e w' => e = .returned (.bool false) ∧ w' = w := by
  go_enter Tryd.func47, Tryd.ntmps47
  go_wp2
  go_ret
  exact ⟨rfl, rfl⟩
theorem compare_any (x y : Int) (w : World) : Calls Tryd.prog 27 #[.int .i64 x, .int .i64 y] w fun e w' => e = .returned (.int .i64 (cmpI x y)) ∧ w' = w := by
  have H : Hid (cmpI x y = if x < y then -1 else if y < x then 1 else 0) := rfl
  go_enter Tryd.func27, Tryd.ntmps27
  go_wp2_with (first | (go_at_call 47; refine (isNaN_any _ _).mono ?_; rintro e w' ⟨rfl, rfl⟩))
  all_goals (go_ret; refine ⟨ret_int ?_, rfl⟩; rw [H.out])
  · rw [if_pos (by assumption)]
  · rw [if_neg (by omega), if_pos (by assumption)]
  · rw [if_neg (by omega), if_neg (by omega)]
set_option maxHeartbeats 1000000 in
theorem compareL_any (b1 o1 b2 o2 c1 c2 : Nat) (xs ys : List Int) (w : World) (len : Nat) (hx : xs.length = len) (hy : ys.length = len) (hl : len ≤ 1099511627776)
    (h1 : ∀ j, j < len → w.cell? ⟨b1, o1 + j, none⟩ = some (.int .i64 (xs[j]?.getD 0))) (h2 : ∀ j, j < len → w.cell? ⟨b2, o2 + j, none⟩ = some (.int .i64 (ys[j]?.getD 0))) :
    Calls Tryd.prog 16 #[.slice (some ⟨b1, o1, none⟩) len c1, .slice (some ⟨b2, o2, none⟩) len c2] w fun e w' => e = .returned (.int .i64 (cmpL xs ys)) ∧ w' = w := by
  have HX := Lib.hid hx
  have HY := Lib.hid hy
  clear hx hy
  go_enter Tryd.func16, Tryd.ntmps16
  go_wp2
  go_loopw [11] (fun i wr => ∃ k : Nat, k ≤ len ∧ i = .int .i64 k ∧ Hid (∀ j, j < k → xs[j]?.getD 0 = ys[j]?.getD 0) ∧ wr = w) (fun i _ => len - (intOf i).toNat)
  case atStart => exact ⟨0, Nat.zero_le _, rfl, (fun j hj => by omega : ∀ j, j < 0 → xs[j]?.getD 0 = ys[j]?.getD 0), rfl⟩
  case round =>
    obtain ⟨k, hk, rfl, hh, rfl⟩ := hrel
    have g1 : k < len → wr.cell? ⟨b1, o1 + k, none⟩ = some (.int .i64 (xs[k]?.getD 0)) := fun h => h1 k h
    have g2 : k < len → wr.cell? ⟨b2, o2 + k, none⟩ = some (.int .i64 (ys[k]?.getD 0)) := fun h => h2 k h
    clear h1 h2
    obtain ⟨x, hx⟩ : ∃ x, x = xs[k]?.getD 0 := ⟨_, rfl⟩
    obtain ⟨y, hy⟩ : ∃ y, y = ys[k]?.getD 0 := ⟨_, rfl⟩
    rw [← hx] at g1
    rw [← hy] at g2
    have Hx := Lib.hid hx
    have Hy := Lib.hid hy
    clear hx hy
    have hcz : x = y → cmpI x y = 0 := fun e => by simp [cmpI, e]
    have hcn : x ≠ y → cmpI x y ≠ 0 := fun e => by unfold cmpI; split; · decide
                                                   · split
                                                     · decide
                                                     · omega
    have HC := And.intro hcz hcn
    clear hcz hcn
    have HC' := Lib.hid HC
    clear HC
    go_wp2_with (first | (go_at_call 27; refine (compare_any x y _).mono ?_; rintro e w' ⟨rfl, rfl⟩))
    · have hc : (cmpI x y != 0) = true := by assumption
      have hne : x ≠ y := fun e => by rw [HC'.out.1 e] at hc; simp at hc
      go_ret
      refine ⟨ret_int ?_, rfl⟩
      rw [cmpL_at xs ys k hh.out (by rw [HX.out]; assumption) (by rw [HY.out]; assumption) (by rw [← Hx.out, ← Hy.out]; exact hne), ← Hx.out, ← Hy.out]
    · have hc : (cmpI x y != 0) = false := by assumption
      have he : x = y := Classical.byContradiction fun e => by have := HC'.out.2 e; rw [bne_eq_false_iff_eq] at hc; exact this hc
      go_roundw
      case rel =>
        refine ⟨k + 1, by omega, by go_num, ?_, trivial⟩
        show ∀ j, j < k + 1 → _
        intro j hj
        by_cases e : j = k
        · rw [e, ← Hx.out, ← Hy.out, he]
        · exact hh.out j (by omega)
      case measure => simp [intOf]; omega
    · have : k = len := by omega
      subst this
      go_ret
      refine ⟨ret_int ?_, rfl⟩
      rw [cmpL_drop xs ys k hh.out (by rw [HX.out]; exact Nat.le_refl _) (by rw [HY.out]; exact Nat.le_refl _), ← HX.out, List.drop_length, HX.out, ← HY.out, List.drop_length]
      rfl

/-- what the check of a graph comes to -/
def checkP (n : Int) (ps : List (Int × Int)) : Int := if n < 1 ∨ 16 < n then 1 else if edgesB n ps = true then 0 else 40
def lastOf (ps : List (Int × Int)) (k : Nat) : Int × Int := if k = 0 then (-1, -1) else ps[k - 1]?.getD (0, 0)
theorem bad_iff (n : Int) (ps : List (Int × Int)) (k : Nat) :
    badAt n ps k = true ↔ (cmpL [(ps[k]?.getD (0, 0)).1, (ps[k]?.getD (0, 0)).2] [(lastOf ps k).1, (lastOf ps k).2] ≤ 0 ∨ (ps[k]?.getD (0, 0)).1 < 0 ∨ (ps[k]?.getD (0, 0)).2 ≤ (ps[k]?.getD (0, 0)).1 ∨ n ≤ (ps[k]?.getD (0, 0)).2) := by
  unfold badAt lastOf
  generalize (ps[k]?.getD (0, 0)).1 = x
  generalize (ps[k]?.getD (0, 0)).2 = y
  by_cases hk : k = 0
  · subst hk
    simp only [cmpL, if_true]
    simp
    split
    · omega
    · split <;> omega
  · simp only [if_neg hk, cmpL]
    have : 0 < k := by omega
    generalize (ps[k - 1]?.getD (0, 0)).1 = px
    generalize (ps[k - 1]?.getD (0, 0)).2 = py
    simp [this]
    split
    · omega
    · split
      · omega
      · split
        · omega
        · split <;> omega
set_option maxHeartbeats 1000000 in
theorem pcheck_any (n : Int) (a : Option Addr) (cap : Nat) (ps : List (Int × Int)) (w : World) (hl : ps.length ≤ 1099511627776) (hg : Pairs w a ps) :
    Calls Tryd.prog 28 #[.int .i64 n, .slice a ps.length cap] w fun e w' => e = .returned (.int .i64 (checkP n ps)) ∧ Below w.heap.size w w' := by
  have HP : Hid (checkP n ps = if n < 1 ∨ 16 < n then 1 else if edgesB n ps = true then 0 else 40) := rfl
  have HQ : Hid (edgesB n ps = (List.range ps.length).all fun i => !badAt n ps i) := rfl
  obtain ⟨len, HL⟩ : ∃ len, Hid (ps.length = len) := ⟨_, rfl⟩
  rw [HL.out] at hl HQ ⊢
  by_cases hn : n < 1 ∨ 16 < n
  · have HN := Lib.hid hn
    rcases hn with hn | hn
    all_goals
      go_enter Tryd.func28, Tryd.ntmps28
      go_wp2
      go_ret
      exact ⟨ret_int (by rw [HP.out, if_pos HN.out]), Below.refl _ _⟩
  · have hn1 : 1 ≤ n := by omega
    have hn2 : n ≤ 16 := by omega
    have HN := Lib.hid hn
    clear hn
    go_enter Tryd.func28, Tryd.ntmps28
    go_wp2
    go_loopw [17] (fun i wr => ∃ (k : Nat) (lx ly : Int), k ≤ len ∧ i = .int .i64 k ∧ Hid (∀ j, j < k → (!badAt n ps j) = true) ∧ Hid ((lx, ly) = lastOf ps k) ∧ BoxN wr w.heap.size 24 #[.int .i64 lx, .int .i64 ly] ∧ Below w.heap.size w wr) (fun i _ => len - (intOf i).toNat)
    case atStart => exact ⟨0, -1, -1, Nat.zero_le _, rfl, (fun j hj => by omega : ∀ j, j < 0 → (!badAt n ps j) = true), rfl, BoxN.new rfl, (Below.refl _ _).alloc (Nat.le_refl _) _⟩
    case round =>
      obtain ⟨k, lx, ly, hk, rfl, hh, hlast, hbox, hB⟩ := hrel
      by_cases hkl : k < len
      · have hsz := hbox.lt
        obtain ⟨b, off, rfl, hb, hc⟩ := hg (by intro e; rw [e] at HL; have := HL.out; simp at this; omega)
        have hck := hc k (by rw [HL.out]; exact hkl)
        have hc1 : wr.cell? ⟨b, off + k * 2, none⟩ = some (.int .i64 (ps[k]?.getD (0, 0)).1) := (hB.cell (p := ⟨b, off + k * 2, none⟩) hb).trans hck.1
        have hc2 : wr.cell? ⟨b, off + k * 2 + 1, none⟩ = some (.int .i64 (ps[k]?.getD (0, 0)).2) := (hB.cell (p := ⟨b, off + k * 2 + 1, none⟩) hb).trans hck.2
        have hbad := bad_iff n ps k
        rw [← hlast.out] at hbad
        have hnext : lastOf ps (k + 1) = ((ps[k]?.getD (0, 0)).1, (ps[k]?.getD (0, 0)).2) := by unfold lastOf; simp
        generalize (ps[k]?.getD (0, 0)).1 = x at hc1 hbad hnext
        generalize (ps[k]?.getD (0, 0)).2 = y at hc2 hbad hnext
        dsimp only at hbad
        have cmp : ∀ m, Calls Tryd.prog 16 #[.slice (some ⟨wr.heap.size, 0, none⟩) 2 2, .slice (some ⟨w.heap.size, 0, none⟩) 2 2] ((wr.alloc (.cells #[.int .i64 x, .int .i64 y] 24)).drewN m) fun e w' => e = .returned (.int .i64 (cmpL [x, y] [lx, ly])) ∧ w' = (wr.alloc (.cells #[.int .i64 x, .int .i64 y] 24)).drewN m := fun m => by
          have nb : BoxN (wr.alloc (.cells #[.int .i64 x, .int .i64 y] 24)) wr.heap.size 24 #[.int .i64 x, .int .i64 y] := BoxN.new rfl
          have ob := hbox.alloc (.cells #[.int .i64 x, .int .i64 y] 24)
          refine compareL_any _ 0 _ 0 2 2 [x, y] [lx, ly] _ 2 rfl rfl (by omega) (fun j hj => ?_) (fun j hj => ?_)
          · rw [World.cell?_drewN, nb.cell]; rcases (show j = 0 ∨ j = 1 by omega) with rfl | rfl <;> rfl
          · rw [World.cell?_drewN, ob.cell]; rcases (show j = 0 ∨ j = 1 by omega) with rfl | rfl <;> rfl
        generalize cmpL [x, y] [lx, ly] = c at cmp hbad
        have CMP := Lib.hid cmp
        have HB := Lib.hid hbad
        have HNX := Lib.hid hnext
        have l0 := hbox.cell 0
        have l1 := hbox.cell 1
        have lf0 := hbox.frozen 0
        have lf1 := hbox.frozen 1
        simp only [List.getElem?_toArray, List.getElem?_cons_zero, List.getElem?_cons_succ] at l0 l1
        clear cmp hbad hck hc hg hnext
        have hki : ((k : Nat) : Int) < ((len : Nat) : Int) := by omega
        by_cases c1 : c ≤ 0
        · go_wp2
          go_quiet ((go_at_call 16; exact Calls.quiet_of_same (CMP.out _)))
          go_wp2
          go_ret
          refine ⟨ret_int ?_, below_dr (hB.alloc hB.size _) nq⟩
          rw [HP.out, if_neg HN.out, if_neg (by rw [HQ.out, all_not hkl (by rw [HB.out.2 (.inl c1)]; rfl)]; simp)]
        · by_cases c2 : x < 0
          · go_wp2
            go_quiet ((go_at_call 16; exact Calls.quiet_of_same (CMP.out _)))
            go_wp2
            go_ret
            refine ⟨ret_int ?_, below_dr (hB.alloc hB.size _) nq⟩
            rw [HP.out, if_neg HN.out, if_neg (by rw [HQ.out, all_not hkl (by rw [HB.out.2 (.inr (.inl c2))]; rfl)]; simp)]
          · by_cases c3 : y ≤ x
            · go_wp2
              go_quiet ((go_at_call 16; exact Calls.quiet_of_same (CMP.out _)))
              go_wp2
              go_ret
              refine ⟨ret_int ?_, below_dr (hB.alloc hB.size _) nq⟩
              rw [HP.out, if_neg HN.out, if_neg (by rw [HQ.out, all_not hkl (by rw [HB.out.2 (.inr (.inr (.inl c3)))]; rfl)]; simp)]
            · go_wp2
              go_quiet ((go_at_call 16; exact Calls.quiet_of_same (CMP.out _)))
              go_wp2
              · have c4 : n ≤ y := by omega
                go_ret
                refine ⟨ret_int ?_, below_dr (hB.alloc hB.size _) nq⟩
                rw [HP.out, if_neg HN.out, if_neg (by rw [HQ.out, all_not hkl (by rw [HB.out.2 (.inr (.inr (.inr c4)))]; rfl)]; simp)]
              · have c4 : ¬ n ≤ y := by omega
                go_roundw
                case rel => exact ⟨k + 1, x, y, by omega, by go_num, all_step hh.out (by rw [Bool.not_eq_true']; rw [Bool.eq_false_iff]; intro e; rcases HB.out.1 e with h | h | h | h <;> omega), HNX.out.symm, ((hbox.alloc _).set (W := (wr.alloc _).drewN nq) 0 _).set 1 _, ((below_dr (hB.alloc hB.size _) nq).setCell (p := ⟨w.heap.size, 0, none⟩) (Nat.le_refl _) _).setCell (p := ⟨w.heap.size, 1, none⟩) (Nat.le_refl _) _⟩
                case measure => simp [intOf]; omega
      · go_wp2
        have : k = len := by omega
        subst this
        go_ret
        exact ⟨ret_int (by rw [HP.out, if_neg HN.out, if_pos (by rw [HQ.out]; exact all_of hh.out)]), hB⟩
end Go.Proofs.YtbioondlmgolkaaDoor.Hu
