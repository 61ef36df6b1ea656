/- Walks of the program's crowd: all, quiet. -/
import Derived.Test.YtfbobojpocnfeaaW1
namespace Go.Proofs.Ytfbobojpocnfeaa
open Go.RowKit

/-- the program's crowd at a block: how many, and the neighbours of each -/
structure Crowd (w : World) (B : Nat) (g : List Nat) : Prop where
  lt : B < w.heap.size
  n : w.cell? ⟨B, 0, none⟩ = some (.int .i64 ((g.length : Nat) : Int))
  next : ∀ j, j < 10 → w.cell? ⟨B, 1 + j, none⟩ = some (.int .i64 ((g[j]?.getD 0 : Nat) : Int))

theorem call_any (B n : Nat) (w : World) (hn : n < 20) (h : w.cell? ⟨B, 0, none⟩ = some (.int .i64 (n : Int))) :
    Calls Try.prog 37 #[.pointer (some ⟨B, 0, none⟩)] w fun e w' => e = .returned (.int .i64 (full n)) ∧ w' = w := by
  have h1 := (sm_pw hn).lt
  go_enter Try.func37, Try.ntmps37
  go_wp2
  go_ret
  exact ⟨ret_int (full_cast n), rfl⟩

theorem cquiet_any (B : Nat) (g : List Nat) (s : Nat) (w : World) (hl : g.length ≤ 10) (hs : Sm s) (hsm : ∀ i : Nat, Sm (g[i]?.getD 0)) (hg : Crowd w B g) :
    Calls Try.prog 38 #[.pointer (some ⟨B, 0, none⟩), .int .i64 s] w fun e w' => e = .returned (.bool (quietB g s)) ∧ w' = w := by
  have HQ : Hid (quietB g s = (List.range g.length).all fun i => !(s.testBit i && (((g[i]?.getD 0) &&& s) != 0))) := rfl
  obtain ⟨_, hn, hc⟩ := hg
  generalize hlen : g.length = len at *
  have HL := Lib.hid hlen
  clear hlen
  go_enter Try.func38, Try.ntmps38
  go_wp2
  go_loop [10] (fun i => ∃ k : Nat, k ≤ len ∧ i = .int .i64 k ∧ Hid (∀ j, j < k → (!(s.testBit j && (((g[j]?.getD 0) &&& s) != 0))) = true)) (fun i => 64 - (intOf i).toNat)
  case atStart => exact ⟨0, Nat.zero_le _, rfl, fun j hj => by omega⟩
  case round =>
    obtain ⟨k, hk, rfl, hh⟩ := hrel
    have hcell : k < len → w.cell? ⟨B, 1 + k, none⟩ = some (.int .i64 ((g[k]?.getD 0 : Nat) : Int)) := fun h => hc k (by omega)
    clear hc
    go_wp2
    · have hkl : k < len := by assumption
      have h1 : s.testBit k = true := by assumption
      have h2 : (((g[k]?.getD 0 &&& s : Nat) : Int) != 0) = true := by assumption
      rw [cast_bne] at h2
      go_ret
      exact ⟨ret_bool (by rw [HQ.out]; exact (all_not hkl (by simp only [h1, h2]; rfl)).symm), rfl⟩
    · have hkl : k < len := by assumption
      have h2 : (((g[k]?.getD 0 &&& s : Nat) : Int) != 0) = false := by assumption
      rw [cast_bne] at h2
      go_round
      case rel => exact ⟨k + 1, by omega, by go_num, all_step hh.out (by rw [h2]; simp)⟩
      case measure => simp [intOf]; omega
    · have hkl : k < len := by assumption
      have h1 : ¬ s.testBit k = true := by assumption
      go_round
      case rel => exact ⟨k + 1, by omega, by go_num, all_step hh.out (by simp [h1])⟩
      case measure => simp [intOf]; omega
    · have hkl : ¬ k < len := by assumption
      have : k = len := by omega
      subst this
      go_ret
      exact ⟨ret_bool (by rw [HQ.out]; exact (all_of hh.out).symm), rfl⟩
end Go.Proofs.Ytfbobojpocnfeaa
