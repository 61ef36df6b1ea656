/- Walks of the functions that look at edges. -/
import Derived.Test.YtfbobojpocnfeaaIt
import Derived.Test.YtfbobojpocnfeaaQr
import Derived.Deep.QuietTactic
import Derived.BigQuiet
namespace Go.Proofs.Ytfbobojpocnfeaa
open Go.RowKit

/-- a row of pairs of integers in memory, where there is one -/
def Pairs (w : World) (a : Option Addr) (ps : List (Int × Int)) : Prop :=
  ps ≠ [] → ∃ b off, a = some ⟨b, off, none⟩ ∧ b < w.heap.size ∧ ∀ j, j < ps.length → w.cell? ⟨b, off + j * 2, none⟩ = some (.int .i64 (ps[j]?.getD (0, 0)).1) ∧ w.cell? ⟨b, off + j * 2 + 1, none⟩ = some (.int .i64 (ps[j]?.getD (0, 0)).2)
theorem Pairs.below {n : Nat} {w W : World} {a : Option Addr} {ps : List (Int × Int)} (h : Pairs w a ps) (hb : Below n w W) (hn : w.heap.size ≤ n) : Pairs W a ps := fun hne => by
  obtain ⟨b, off, e, hlt, hc⟩ := h hne
  exact ⟨b, off, e, Nat.lt_of_lt_of_le hlt hb.size, fun j hj => ⟨(hb.cell (p := ⟨b, off + j * 2, none⟩) (Nat.lt_of_lt_of_le hlt hn)).trans (hc j hj).1, (hb.cell (p := ⟨b, off + j * 2 + 1, none⟩) (Nat.lt_of_lt_of_le hlt hn)).trans (hc j hj).2⟩⟩

def badAt (n : Int) (ps : List (Int × Int)) (i : Nat) : Bool :=
  decide ((ps[i]?.getD (0, 0)).1 < 0) || decide ((ps[i]?.getD (0, 0)).2 ≤ (ps[i]?.getD (0, 0)).1) || decide (n ≤ (ps[i]?.getD (0, 0)).2) ||
    (decide (0 < i) && (decide ((ps[i]?.getD (0, 0)).1 < (ps[i - 1]?.getD (0, 0)).1) || (decide ((ps[i - 1]?.getD (0, 0)).1 = (ps[i]?.getD (0, 0)).1) && decide ((ps[i]?.getD (0, 0)).2 ≤ (ps[i - 1]?.getD (0, 0)).2))))
def edgesB (n : Int) (ps : List (Int × Int)) : Bool := (List.range ps.length).all fun i => !badAt n ps i

set_option maxHeartbeats 1000000 in
theorem edges_any (n : Int) (a : Option Addr) (cap : Nat) (ps : List (Int × Int)) (w : World) (hl : ps.length ≤ 1099511627776) (hg : Pairs w a ps) :
    Calls Try.prog 48 #[.int .i64 n, .slice a ps.length cap] w fun e w' => e = .returned (.bool (edgesB n ps)) ∧ ∃ m, w' = w.drewN m := by
  have HQ : Hid (edgesB n ps = (List.range ps.length).all fun i => !badAt n ps i) := rfl
  have hlen : Hid (ps.length = ps.length) := rfl
  obtain ⟨len, HL⟩ : ∃ len, Hid (ps.length = len) := ⟨_, rfl⟩
  rw [HL.out] at hl HQ ⊢
  go_enter Try.func48, Try.ntmps48
  go_wp2
  go_loopw [5] (fun i wr => ∃ k m : Nat, k ≤ len ∧ i = .int .i64 k ∧ Hid (∀ j, j < k → (!badAt n ps j) = true) ∧ Hid (wr = w.drewN m)) (fun i _ => len - (intOf i).toNat)
  case atStart => exact ⟨0, 0, Nat.zero_le _, rfl, fun j hj => by omega, rfl⟩
  case round =>
    obtain ⟨k, m, hk, rfl, hh, hw⟩ := hrel
    by_cases hkl : k < len
    · obtain ⟨b, off, rfl, hb, hc⟩ := hg (by intro e; rw [e] at HL; have := HL.out; simp at this; omega)
      have hck := hc k (by rw [HL.out]; exact hkl)
      have hc1 : wr.cell? ⟨b, off + k * 2, none⟩ = some (.int .i64 (ps[k]?.getD (0, 0)).1) := by rw [hw.out]; exact hck.1
      have hc2 : wr.cell? ⟨b, off + k * 2 + 1, none⟩ = some (.int .i64 (ps[k]?.getD (0, 0)).2) := by rw [hw.out]; exact hck.2
      have hp1 : 0 < k → wr.cell? ⟨b, off + (k - 1) * 2, none⟩ = some (.int .i64 (ps[k - 1]?.getD (0, 0)).1) := fun h => by rw [hw.out]; exact (hc (k - 1) (by rw [HL.out]; omega)).1
      have hp2 : 0 < k → wr.cell? ⟨b, off + (k - 1) * 2 + 1, none⟩ = some (.int .i64 (ps[k - 1]?.getD (0, 0)).2) := fun h => by rw [hw.out]; exact (hc (k - 1) (by rw [HL.out]; omega)).2
      have HB : Hid (badAt n ps k = (decide ((ps[k]?.getD (0, 0)).1 < 0) || decide ((ps[k]?.getD (0, 0)).2 ≤ (ps[k]?.getD (0, 0)).1) || decide (n ≤ (ps[k]?.getD (0, 0)).2) ||
        (decide (0 < k) && (decide ((ps[k]?.getD (0, 0)).1 < (ps[k - 1]?.getD (0, 0)).1) || (decide ((ps[k - 1]?.getD (0, 0)).1 = (ps[k]?.getD (0, 0)).1) && decide ((ps[k]?.getD (0, 0)).2 ≤ (ps[k - 1]?.getD (0, 0)).2)))))) := rfl
      generalize (ps[k]?.getD (0, 0)).1 = x at hc1 HB
      generalize (ps[k]?.getD (0, 0)).2 = y at hc2 HB
      generalize (ps[k - 1]?.getD (0, 0)).1 = px at hp1 HB
      generalize (ps[k - 1]?.getD (0, 0)).2 = py at hp2 HB
      clear hck hc hg hlen
      have hki : ((k : Nat) : Int) < ((len : Nat) : Int) := by omega
      have hk0i : (0 : Int) ≤ (k : Int) := by omega
      go_wp2
      go_quiet (fail)
      go_wp2
      all_goals first
        | (go_ret
           refine ⟨ret_bool ?_, m + nq, by rw [hw.out]; simp⟩
           rw [HQ.out]; refine (all_not hkl ?_).symm
           rw [HB.out]; simp; omega)
        | (go_roundw
           case rel => exact ⟨k + 1, m + nq, by omega, by go_num, all_step hh.out (by rw [HB.out]; simp; omega), by rw [hw.out]; simp [Hid]⟩
           case measure => simp [intOf]; omega)
    · go_wp2
      have : k = len := by omega
      subst this
      go_ret
      exact ⟨ret_bool (by rw [HQ.out]; exact (all_of hh.out).symm), m, hw.out⟩
end Go.Proofs.Ytfbobojpocnfeaa
