/- Walks of the exported functions: IsQuiet, Cover, Plan, Least. -/
import Derived.Test.YtfbobojpocnfeaaPl
namespace Go.Proofs.Ytfbobojpocnfeaa
open Go.RowKit Go.Shelf

theorem foldE_sm : ∀ (ps : List (Int × Int)) (g : List Nat), (∀ e ∈ ps, 0 ≤ e.1 ∧ e.1 < e.2 ∧ e.2 < (g.length : Int)) → g.length < 20 → (∀ i : Nat, Sm (g[i]?.getD 0)) → ∀ i : Nat, Sm ((ps.foldl (fun g e => addE g e.1.toNat e.2.toNat) g)[i]?.getD 0)
  | [], _, _, _, h => h
  | e :: ps, g, hp, hl, h => by
    have he := hp e List.mem_cons_self
    refine foldE_sm ps (addE g e.1.toNat e.2.toNat) (fun e' he' => by rw [addE_length]; exact hp e' (List.mem_cons_of_mem _ he')) (by rw [addE_length]; exact hl) (addE_sm g _ _ (by omega) (by omega) (by omega) hl h)
theorem edgesB_mem {n : Int} {ps : List (Int × Int)} (h : edgesB n ps = true) : ∀ e ∈ ps, 0 ≤ e.1 ∧ e.1 < e.2 ∧ e.2 < n := fun e he => by
  obtain ⟨k, hk⟩ := List.getElem?_of_mem he
  have := edgesB_at h k (List.getElem?_eq_some_iff.1 hk).1
  rw [hk] at this
  exact this
theorem ofE_sm {n : Nat} {ps : List (Int × Int)} (hn : n ≤ 10) (h : edgesB n ps = true) : ∀ i : Nat, Sm ((ofE n ps)[i]?.getD 0) :=
  foldE_sm ps _ (fun e he => by simpa using edgesB_mem h e he) (by simp; omega) (fun i => by
    rw [List.getElem?_replicate]
    split
    · exact (by unfold Sm; decide : Sm 0)
    · exact (by unfold Sm; decide : Sm 0))
theorem start_ne (g : List Nat) : start g ≠ goal := fun e => Bool.noConfusion (show (false : Bool) = true from congrArg Prod.snd e)
/-- a graph that the chapter takes -/
structure Good (n : Nat) (ps : List (Int × Int)) (a : Option Addr) (w : World) : Prop where
  hl : ps.length ≤ 1099511627776
  hg : Pairs w a ps
  n1 : 1 ≤ n
  n2 : n ≤ 10
  ok : edgesB n ps = true
theorem Good.open {n : Nat} {ps : List (Int × Int)} {a : Option Addr} {w : World} (h : Good n ps a w) (cap : Nat) :
    Calls Try.prog 33 #[.int .i64 n, .slice a ps.length cap] w fun e w' => ∃ B, e = .returned (.tuple #[.pointer (some ⟨B, 0, none⟩), .int .i64 0]) ∧ w.heap.size ≤ B ∧ Crowd w' B (ofE n ps) ∧ Below w.heap.size w w' :=
  open_ok n a cap ps w h.hl h.hg h.n1 h.n2 h.ok

theorem isQuiet_ok (n : Nat) (ps : List (Int × Int)) (a : Option Addr) (cap : Nat) (w : World) (h : Good n ps a w) (s : Nat) (hs : s ≤ full n) :
    Calls Try.prog 26 #[.int .i64 n, .slice a ps.length cap, .int .i64 s] w fun e w' => e = .returned (.tuple #[.bool (quietB (ofE n ps) s), .int .i64 0]) ∧ Below w.heap.size w w' := by
  have HO := Lib.hid (h.open cap)
  have hl : (ofE n ps).length = n := ofE_length n ps
  have hsm := ofE_sm h.n2 h.ok
  have hn2 := h.n2
  clear h
  generalize ofE n ps = g at *
  have hfs : Sm (full n) := sm_full (by omega)
  have hss : Sm s := Nat.lt_of_le_of_lt hs hfs
  go_enter Try.func26, Try.ntmps26
  go_wp2_with (first
    | (go_at_call 33; refine (HO.out).mono ?_; rintro e w1 ⟨B, rfl, hBB, hcr, hB1⟩; have hcn := hcr.n; rw [hl] at hcn)
    | (go_at_call 37; refine (call_any B n w1 (by omega) hcn).mono ?_; rintro e w2 ⟨rfl, rfl⟩)
    | (go_at_call 38; refine (cquiet_any B g s _ (by omega) hss hsm hcr).mono ?_; rintro e w2 ⟨rfl, rfl⟩))
  all_goals (go_ret2; exact ⟨rfl, hB1⟩)
theorem cover_ok (n : Nat) (ps : List (Int × Int)) (a : Option Addr) (cap : Nat) (w : World) (h : Good n ps a w) :
    Calls Try.prog 24 #[.int .i64 n, .slice a ps.length cap] w fun e w' => e = .returned (.tuple #[.int .i64 (coverF (ofE n ps)), .int .i64 0]) ∧ Below w.heap.size w w' := by
  have HO := Lib.hid (h.open cap)
  have hl : (ofE n ps).length = n := ofE_length n ps
  have hsm := ofE_sm h.n2 h.ok
  have hn2 := h.n2
  clear h
  generalize ofE n ps = g at *
  go_enter Try.func24, Try.ntmps24
  go_wp2_with (first
    | (go_at_call 33; refine (HO.out).mono ?_; rintro e w1 ⟨B, rfl, hBB, hcr, hB1⟩)
    | (go_at_call 35; refine (callsIn_wide.1 (cover_in B g w1 (by omega) hsm hcr)).mono ?_; rintro e w2 ⟨rfl, hB2⟩))
  go_ret2
  exact ⟨rfl, hB1.trans (hB2.mono hB1.size)⟩
theorem cover_err (n : Int) (ps : List (Int × Int)) (a : Option Addr) (cap : Nat) (w : World) (hl : ps.length ≤ 1099511627776) (hg : Pairs w a ps) (hne : openCode n ps ≠ 0) :
    Calls Try.prog 24 #[.int .i64 n, .slice a ps.length cap] w fun e w' => e = .returned (.tuple #[.int .i64 0, .int .i64 (openCode n ps)]) ∧ Below w.heap.size w w' := by
  have HO := Lib.hid (open_err n a cap ps w hl hg hne)
  generalize openCode n ps = c at *
  have hb : (c != 0) = true := by simpa using hne
  clear hne
  go_enter Try.func24, Try.ntmps24
  go_wp2_with (first | (go_at_call 33; refine (HO.out).mono ?_; rintro e w1 ⟨rfl, hB1⟩))
  go_ret2
  exact ⟨rfl, hB1⟩
theorem isQuiet_err (n : Int) (ps : List (Int × Int)) (a : Option Addr) (cap : Nat) (w : World) (s : Int) (hl : ps.length ≤ 1099511627776) (hg : Pairs w a ps) (hne : openCode n ps ≠ 0) :
    Calls Try.prog 26 #[.int .i64 n, .slice a ps.length cap, .int .i64 s] w fun e w' => e = .returned (.tuple #[.bool false, .int .i64 (openCode n ps)]) ∧ Below w.heap.size w w' := by
  have HO := Lib.hid (open_err n a cap ps w hl hg hne)
  generalize openCode n ps = c at *
  have hb : (c != 0) = true := by simpa using hne
  clear hne
  go_enter Try.func26, Try.ntmps26
  go_wp2_with (first | (go_at_call 33; refine (HO.out).mono ?_; rintro e w1 ⟨rfl, hB1⟩))
  go_ret2
  exact ⟨rfl, hB1⟩
theorem least_err (n : Int) (ps : List (Int × Int)) (a : Option Addr) (cap : Nat) (w : World) (hl : ps.length ≤ 1099511627776) (hg : Pairs w a ps) (hne : openCode n ps ≠ 0) :
    Calls Try.prog 12 #[.int .i64 n, .slice a ps.length cap] w fun e w' => e = .returned (.tuple #[.int .i64 0, .int .i64 (openCode n ps)]) ∧ Below w.heap.size w w' := by
  have HO := Lib.hid (open_err n a cap ps w hl hg hne)
  generalize openCode n ps = c at *
  have hb : (c != 0) = true := by simpa using hne
  clear hne
  go_enter Try.func12, Try.ntmps12
  go_wp2_with (first | (go_at_call 33; refine (HO.out).mono ?_; rintro e w1 ⟨rfl, hB1⟩))
  go_ret2
  exact ⟨rfl, hB1⟩
theorem plan_err (n : Int) (ps : List (Int × Int)) (a : Option Addr) (cap : Nat) (w : World) (s : Int) (hl : ps.length ≤ 1099511627776) (hg : Pairs w a ps) (hne : openCode n ps ≠ 0) :
    Calls Try.prog 14 #[.int .i64 n, .slice a ps.length cap, .int .i64 s] w fun e w' => e = .returned (.tuple #[.slice none 0 0, .bool false, .int .i64 (openCode n ps)]) ∧ Below w.heap.size w w' := by
  have HO := Lib.hid (open_err n a cap ps w hl hg hne)
  generalize openCode n ps = c at *
  have hb : (c != 0) = true := by simpa using hne
  clear hne
  go_enter Try.func14, Try.ntmps14
  go_wp2_with (first | (go_at_call 33; refine (HO.out).mono ?_; rintro e w1 ⟨rfl, hB1⟩))
  go_ret3
  exact ⟨rfl, hB1⟩
theorem isQuiet_out (n : Nat) (ps : List (Int × Int)) (a : Option Addr) (cap : Nat) (w : World) (h : Good n ps a w) (s : Int) (hs : s < 0 ∨ (full n : Int) < s) :
    Calls Try.prog 26 #[.int .i64 n, .slice a ps.length cap, .int .i64 s] w fun e w' => e = .returned (.tuple #[.bool false, .int .i64 1]) ∧ Below w.heap.size w w' := by
  have HO := Lib.hid (h.open cap)
  have hl : (ofE n ps).length = n := ofE_length n ps
  have hn2 := h.n2
  clear h
  generalize ofE n ps = g at *
  go_enter Try.func26, Try.ntmps26
  go_wp2_with (first
    | (go_at_call 33; refine (HO.out).mono ?_; rintro e w1 ⟨B, rfl, hBB, hcr, hB1⟩; have hcn := hcr.n; rw [hl] at hcn)
    | (go_at_call 37; refine (call_any B n w1 (by omega) hcn).mono ?_; rintro e w2 ⟨rfl, rfl⟩))
  all_goals (go_ret2; exact ⟨rfl, hB1⟩)
theorem plan_out (n : Nat) (ps : List (Int × Int)) (a : Option Addr) (cap : Nat) (w : World) (h : Good n ps a w) (s : Int) (hs : s < 0 ∨ 10 < s) :
    Calls Try.prog 14 #[.int .i64 n, .slice a ps.length cap, .int .i64 s] w fun e w' => e = .returned (.tuple #[.slice none 0 0, .bool false, .int .i64 1]) ∧ Below w.heap.size w w' := by
  have HO := Lib.hid (h.open cap)
  generalize ofE n ps = g at *
  go_enter Try.func14, Try.ntmps14
  go_wp2_with (first
    | (go_at_call 33; refine (HO.out).mono ?_; rintro e w1 ⟨B, rfl, hBB, hcr, hB1⟩))
  all_goals (go_ret3; exact ⟨rfl, hB1⟩)
theorem coverF_sm {g : List Nat} (hl : g.length ≤ 10) : Sm (coverF g) := by
  have hfs : Sm (full g.length) := sm_full (by omega)
  unfold coverF
  cases hf : (subs (full g.length)).find? (covTest g (covBest g)) with
  | none => exact covFold_sm g _ _ hfs
  | some s => exact Nat.lt_of_le_of_lt (mem_subs.1 (List.mem_of_find?_eq_some hf)).le hfs
theorem PlanR.mono {g : List Nat} {seats base base' : Nat} {v : Value} {ok : Bool} {W : World} (h : PlanR g seats base v ok W) (hb : base' ≤ base) : PlanR g seats base' v ok W := by
  rcases h with h | ⟨h1, ps, h2, h3⟩
  · exact .inl h
  · exact .inr ⟨h1, ps, h2.mono hb, h3⟩
theorem plan_ok (n : Nat) (ps : List (Int × Int)) (a : Option Addr) (cap : Nat) (w : World) (h : Good n ps a w) (s : Nat) (hs : s ≤ 10) :
    Calls Try.prog 14 #[.int .i64 n, .slice a ps.length cap, .int .i64 s] w fun e w' => ∃ v ok, e = .returned (.tuple #[v, .bool ok, .int .i64 0]) ∧ Below w.heap.size w w' ∧ PlanR (ofE n ps) s w.heap.size v ok w' := by
  have HO := Lib.hid (h.open cap)
  have hl : (ofE n ps).length = n := ofE_length n ps
  have hsm := ofE_sm h.n2 h.ok
  have hn2 := h.n2
  clear h
  generalize ofE n ps = g at *
  go_enter Try.func14, Try.ntmps14
  go_wp2_with (first
    | (go_at_call 33; refine (HO.out).mono ?_; rintro e w1 ⟨B, rfl, hBB, hcr, hB1⟩)
    | (go_at_call 36; refine (callsIn_wide.1 (plan_in B g s w1 (by omega) hsm hcr (start_ne g))).mono ?_; rintro e w2 ⟨v, ok, rfl, hB2, hR⟩))
  go_ret3
  exact ⟨v, ok, rfl, hB1.trans (hB2.mono hB1.size), hR.mono hB1.size⟩
theorem least_ok (n : Nat) (ps : List (Int × Int)) (a : Option Addr) (cap : Nat) (w : World) (h : Good n ps a w) (m : Nat) (hm : 1 ≤ m) (hmc : size (coverF (ofE n ps)) ≤ m) (hm2 : m ≤ 10) (hp : ∃ qs, isPath (ofE n ps) m (start (ofE n ps)) qs goal) (hno : ∀ s, 1 ≤ s → size (coverF (ofE n ps)) ≤ s → s < m → ∀ qs, ¬ isPath (ofE n ps) s (start (ofE n ps)) qs goal) :
    Calls Try.prog 12 #[.int .i64 n, .slice a ps.length cap] w fun e w' => e = .returned (.tuple #[.int .i64 m, .int .i64 0]) ∧ Below w.heap.size w w' := by
  have HO := Lib.hid (h.open cap)
  have hl : (ofE n ps).length = n := ofE_length n ps
  have hsm := ofE_sm h.n2 h.ok
  have hn2 := h.n2
  clear h
  generalize ofE n ps = g at *
  have hpp := Lib.hid hp
  have hnn := Lib.hid hno
  clear hp hno
  have hcs : Sm (coverF g) := coverF_sm (by omega)
  go_enter Try.func12, Try.ntmps12
  go_wp2_with (first
    | (go_at_call 33; refine (HO.out).mono ?_; rintro e w1 ⟨B, rfl, hBB, hcr, hB1⟩)
    | (go_at_call 35; refine (callsIn_wide.1 (cover_in B g w1 (by omega) hsm hcr)).mono ?_; rintro e w2 ⟨rfl, hB2⟩)
    | (go_at_call 34; refine (count_any (coverF g) _ hcs.lt).mono ?_; rintro e w3 ⟨rfl, rfl⟩))
  go_loopw [8] (fun s8 wr => ∃ s : Nat, s8 = .int .i64 s ∧ 1 ≤ s ∧ size (coverF g) ≤ s ∧ s ≤ m ∧ Below w.heap.size w wr ∧ Crowd wr B g) (fun s8 _ => 20 - (intOf s8).toNat)
  case atStart => exact ⟨max 1 (size (coverF g)), by congr 1; omega, by omega, by omega, by omega, hB1.trans (hB2.mono hB1.size), hcr.below hB2 hcr.lt⟩
  case round =>
    obtain ⟨s, rfl, h1, h2, h3, h4, h5⟩ := hrel
    go_wp2_with (first
      | (go_at_call 36; refine (callsIn_wide.1 (plan_in B g s _ (by omega) hsm h5 (start_ne g))).mono ?_; rintro e w2 ⟨v, ok, rfl, hB2, hR⟩))
    · have hk : ok = true := by assumption
      rcases hR with ⟨h6, _⟩ | ⟨_, ps', _, hp', _⟩
      · rw [hk] at h6; cases h6
      · have hsm : s = m := by
          by_cases e : s < m
          · exact absurd hp' (hnn.out s h1 h2 e ps')
          · omega
        subst hsm
        go_ret2
        exact ⟨rfl, h4.trans (hB2.mono h4.size)⟩
    · have hk : ¬ ok = true := by first | assumption | (intro e; simp_all)
      rcases hR with ⟨_, _, hno⟩ | ⟨h6, _⟩
      · have hsm : s ≠ m := by
          rintro rfl
          obtain ⟨qs, hqs⟩ := hpp.out
          exact hno qs hqs
        exact ⟨⟨s + 1, by simp, by omega, by omega, by omega, h4.trans (hB2.mono h4.size), h5.below hB2 h5.lt⟩, by simp [intOf]; omega⟩
      · exact absurd h6 hk
end Go.Proofs.Ytfbobojpocnfeaa
