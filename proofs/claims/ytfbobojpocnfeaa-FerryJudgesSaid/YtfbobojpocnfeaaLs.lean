/- The reference's Least: a walk; and how long a shortest plan is. -/
import Derived.Test.YtfbobojpocnfeaaTr
import Derived.Test.YtfbobojpocnfeaaAl
namespace Go.Proofs.Ytfbobojpocnfeaa
open Go.RowKit Go.Shelf

theorem path0 {g : List Nat} (hl : g.length ≤ 10) : ∀ (ps : List Nat) (s t : St), Within s.1 (full g.length) → isPath g 0 s ps t → t.1 = s.1
  | [], _, _, _, h => by cases h; rfl
  | p :: ps, s, t, hw, h => by
    have hfs : Sm (full g.length) := sm_full (by omega)
    have hp0 : p = 0 := by
      apply Classical.byContradiction
      intro hc
      have h1 := size_pos (Nat.lt_of_le_of_lt (h.1.1.trans (bank_within hw)).le hfs) hc
      have h2 := h.1.2.1
      omega
    have := path0 hl ps _ t (next_within hw h.1) h.2
    rw [this, hp0]
    show s.1 ^^^ 0 = s.1
    exact Nat.xor_zero _
theorem full_ne {n : Nat} (h : 1 ≤ n) : full n ≠ 0 := fun e => by
  have := testBit_full n 0
  rw [e, Nat.zero_testBit, decide_eq_true (show 0 < n by omega)] at this
  cases this
/-- a shortest plan has at most 2 n + 1 trips -/
theorem shortest_le {g : List Nat} {seats : Nat} {ps : List Nat} (hl : g.length ≤ 10) (hg : 1 ≤ g.length) (hi : Irr g) (hsy : Sym g) (hp : isPath g seats (start g) ps goal) (hmin : ∀ qs, isPath g seats (start g) qs goal → ps.length ≤ qs.length) : 1 ≤ seats ∧ ps.length ≤ 2 * g.length + 1 := by
  have h1 : 1 ≤ seats := by
    apply Classical.byContradiction
    intro hc
    have : seats = 0 := by omega
    subst this
    exact full_ne hg (path0 hl ps _ _ (within_refl _) hp).symm
  obtain ⟨qs, hq, hql⟩ := plan_of_struct hl hsy (struct_of_plan hl hg hi h1 hp)
  exact ⟨h1, Nat.le_trans (hmin qs hq) hql⟩
set_option maxRecDepth 100000 in
set_option maxHeartbeats 1000000 in
theorem rleast_any (a : Option Addr) (cap : Nat) (g : List Nat) (w : World) (hl : g.length ≤ 10) (hsm : ∀ i : Nat, Sm (g[i]?.getD 0)) (hg : Sets w a g) (m : Nat) (hm : 1 ≤ m) (hm2 : m ≤ 10) (hp : ∃ qs, isPath g m (start g) qs goal) (hno : ∀ s, 1 ≤ s → s < m → ∀ qs, ¬ isPath g s (start g) qs goal) :
    Calls Try.prog 13 #[.slice a g.length cap] w fun e w' => e = .returned (.int .i64 (m : Int)) ∧ Below w.heap.size w w' := by
  have KT : Hid (∀ (s : Nat) W, Below w.heap.size w W → 1 ≤ s → s ≤ m → Calls Try.prog 15 #[.slice a g.length cap, .int .i64 (s : Int)] W fun e w' => ∃ r : Int, e = .returned (.int .i64 r) ∧ (r < 0 ↔ s < m) ∧ Below w.heap.size w w') := by
    intro s W hB h1 h2
    refine (trips_any a cap g s W hl hsm (hg.below hB)).mono ?_
    rintro e w' ⟨r, rfl, hR, hB'⟩
    refine ⟨r, rfl, ?_, hB.trans (hB'.mono hB.size)⟩
    rcases hR with ⟨rfl, hn⟩ | ⟨ps, rfl, hps, _⟩
    · rw [Int.toNat_natCast] at hn
      refine iff_of_true (by omega) (Classical.byContradiction fun hc => ?_)
      have : s = m := by omega
      subst this
      obtain ⟨qs, hq⟩ := hp
      exact hn qs hq
    · rw [Int.toNat_natCast] at hps
      refine iff_of_false (by omega) fun h => hno s h1 h ps hps
  generalize g.length = n at *
  have HB0 := Lib.hid (Below.refl w.heap.size w)
  clear hg hsm hp hno
  go_enter Try.func13, Try.ntmps13
  go_wp2
  go_loopw [3] (fun s3 wr => ∃ s : Nat, s3 = .int .i64 s ∧ 1 ≤ s ∧ s ≤ m ∧ Hid (Below w.heap.size w wr)) (fun s3 _ => 20 - (intOf s3).toNat)
  case atStart => exact ⟨1, rfl, by omega, hm, HB0⟩
  case round =>
    obtain ⟨s, rfl, h1, h2, hB⟩ := hrel
    by_cases hlt : s < m
    · go_wp2_with (go_at_call 15; refine (KT.out s _ hB.out h1 h2).mono ?_; rintro e w1 ⟨r, rfl, hr, hB1⟩; have hr0 : r < 0 := hr.2 hlt; have HB1 := Lib.hid hB1; clear hr hB1; try dsimp only)
      exact ⟨⟨s + 1, by go_num, by omega, by omega, HB1⟩, by simp [intOf]; omega⟩
    · go_wp2_with (go_at_call 15; refine (KT.out s _ hB.out h1 h2).mono ?_; rintro e w1 ⟨r, rfl, hr, hB1⟩; have hr0 : ¬ r < 0 := fun h => hlt (hr.1 h); have HB1 := Lib.hid hB1; clear hr hB1; try dsimp only)
      go_ret
      obtain rfl : s = m := by omega
      exact ⟨rfl, HB1.out⟩
end Go.Proofs.Ytfbobojpocnfeaa
