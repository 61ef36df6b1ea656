/- The reference's list of a graph's edges, and the law's tame: walks. What they make is a graph that the chapter takes. -/
import Derived.Test.YtfbobojpocnfeaaOw
namespace Go.Proofs.Ytfbobojpocnfeaa
open Go.RowKit Go.Shelf

/-- the last pair lies before (i, j) -/
def LastLt (ps : List (Int × Int)) (i j : Nat) : Prop := ∀ p, ps.getLast? = some p → p.1 < (i : Int) ∨ (p.1 = (i : Int) ∧ p.2 < (j : Int))
theorem LastLt.nil (i j : Nat) : LastLt [] i j := fun p h => by simp at h
theorem LastLt.snoc (ps : List (Int × Int)) (i j : Nat) : LastLt (ps ++ [((i : Int), (j : Int))]) i (j + 1) := fun p h => by
  simp at h; subst h; exact .inr ⟨rfl, by simp; omega⟩
theorem LastLt.next {ps : List (Int × Int)} {i j : Nat} (h : LastLt ps i j) : LastLt ps i (j + 1) := fun p hp => by
  rcases h p hp with h | h
  · exact .inl h
  · exact .inr ⟨h.1, by omega⟩
theorem LastLt.row {ps : List (Int × Int)} {i j : Nat} (h : LastLt ps i j) (k : Nat) : LastLt ps (i + 1) k := fun p hp => by
  rcases h p hp with h | h
  · exact .inl (by omega)
  · exact .inl (by omega)
theorem LastLt.start {ps : List (Int × Int)} {i : Nat} (h : LastLt ps i 0) (k : Nat) : LastLt ps i k := fun p hp => by
  rcases h p hp with h | h
  · exact .inl h
  · exact .inr ⟨h.1, by omega⟩
theorem badAt_append {n : Int} {ps : List (Int × Int)} (x : Int × Int) {k : Nat} (hk : k < ps.length) : badAt n (ps ++ [x]) k = badAt n ps k := by
  unfold badAt
  rw [List.getElem?_append_left hk, List.getElem?_append_left (by omega)]
theorem edgesB_snoc {n : Nat} {ps : List (Int × Int)} {i j : Nat} (h : edgesB n ps = true) (hl : LastLt ps i j) (hij : i < j) (hj : j < n) : edgesB n (ps ++ [((i : Int), (j : Int))]) = true := by
  unfold edgesB at *
  rw [List.all_eq_true] at *
  intro k hk
  rw [List.mem_range, List.length_append, List.length_singleton] at hk
  by_cases e : k < ps.length
  · rw [badAt_append _ e]; exact h k (List.mem_range.2 e)
  · have e : k = ps.length := by omega
    subst e
    unfold badAt
    have g1 : (ps ++ [((i : Int), (j : Int))])[ps.length]? = some ((i : Int), (j : Int)) := by simp
    rw [g1]
    by_cases h0 : ps.length = 0
    · simp [h0]; omega
    · have hne : ps ≠ [] := by intro e; rw [e] at h0; exact h0 rfl
      have g2 : (ps ++ [((i : Int), (j : Int))])[ps.length - 1]? = some (ps.getLast hne) := by
        rw [List.getElem?_append_left (by omega), ← List.getLast?_eq_getElem?, List.getLast?_eq_some_getLast hne]
      rw [g2]
      have := hl _ (List.getLast?_eq_some_getLast hne)
      simp
      omega
theorem pairCells_snoc : ∀ (ps : List (Int × Int)) (x : Int × Int), pairCells (ps ++ [x]) = pairCells ps ++ [.int .i64 x.1, .int .i64 x.2]
  | [], _ => rfl
  | p :: ps, x => by simp only [List.cons_append, pairCells, pairCells_snoc ps x]
/-- what has been listed when one stands at (i, j) -/
def LiOut (w W : World) (n i j : Nat) (v : Value) : Prop :=
  ∃ ps : List (Int × Int), QRow W w.heap.size 49 2 v ps.length (pairCells ps) ∧ ps.length ≤ i * 20 + j ∧ edgesB n ps = true ∧ LastLt ps i j ∧ Below w.heap.size w W
theorem LiOut.row {w W : World} {n i j : Nat} {v : Value} (h : LiOut w W n i j v) (hj : j ≤ 20) (k : Nat) : LiOut w W n (i + 1) k v := by
  obtain ⟨ps, h1, h2, h3, h4, h5⟩ := h
  exact ⟨ps, h1, by omega, h3, h4.row k, h5⟩
theorem LiOut.start {w W : World} {n i : Nat} {v : Value} (h : LiOut w W n i 0 v) (k : Nat) : LiOut w W n i k v := by
  obtain ⟨ps, h1, h2, h3, h4, h5⟩ := h
  exact ⟨ps, h1, by omega, h3, h4.start k, h5⟩
theorem LiOut.next {w W : World} {n i j : Nat} {v : Value} (h : LiOut w W n i j v) : LiOut w W n i (j + 1) v := by
  obtain ⟨ps, h1, h2, h3, h4, h5⟩ := h
  exact ⟨ps, h1, by omega, h3, h4.next, h5⟩
theorem LiOut.below {w W : World} {n i j : Nat} {v : Value} (h : LiOut w W n i j v) : Below w.heap.size w W := by
  obtain ⟨ps, h1, h2, h3, h4, h5⟩ := h
  exact h5
theorem cells_newB (W : World) (t : TypeId) (u u' : Value) : ∀ (j : Nat) (x : Value), [u, u'][j]? = some x → (W.alloc (.cells #[u, u'] t)).cell? ((⟨W.heap.size, 0, none⟩ : Addr).add j) = some x := fun j x h => by
  rw [Addr.add_lit, Nat.zero_add, (BoxN.new (W := W) (t := t) (vs := #[u, u']) rfl).cell]
  simpa using h
/-- the row lies in new memory -/
def Fresh (n : Nat) (a : Option Addr) (ps : List (Int × Int)) : Prop := ps ≠ [] → ∀ ad, a = some ad → n ≤ ad.block
set_option maxHeartbeats 1000000 in
theorem listed_any (a : Option Addr) (cap : Nat) (g : List Nat) (w : World) (hl : g.length ≤ 16) (hsm : ∀ i : Nat, Sm (g[i]?.getD 0)) (hg : Sets w a g) :
    Calls Try.prog 32 #[.slice a g.length cap] w fun e w' => ∃ (ps : List (Int × Int)) (a' : Option Addr) (c' : Nat), e = .returned (.slice a' ps.length c') ∧ Pairs w' a' ps ∧ edgesB g.length ps = true ∧ ps.length ≤ 400 ∧ Below w.heap.size w w' ∧ Fresh w.heap.size a' ps := by
  obtain ⟨i0, hi, hz0, hz1, hz2⟩ := info_parts info49
  obtain ⟨b, off, rfl, hb, hc⟩ := hg
  generalize hlen : g.length = n at *
  have HL := Lib.hid hlen
  clear hlen
  have HC := Lib.hid hc
  have HS := Lib.hid hsm
  clear hc hsm
  go_enter Try.func32, Try.ntmps32
  go_wp2
  go_loopw [3, 4, 5] (fun v s4 s5 wr => ∃ i : Nat, i ≤ n ∧ s4 = .int .i64 i ∧ LiOut w wr n i 0 v) (fun _ s4 _ _ => n - (intOf s4).toNat)
  case atStart => exact ⟨0, Nat.zero_le _, rfl, [], QRow.nil _ _ _ _, Nat.zero_le _, rfl, LastLt.nil _ _, Below.refl _ _⟩
  case round =>
    obtain ⟨i, hin, rfl, hli⟩ := hrel
    obtain ⟨wo, hwo⟩ : ∃ wo : World, wo = wr := ⟨_, rfl⟩
    by_cases hil : i < n
    · go_wp2
      go_loopw [3, 5] (fun v s5 wr => ∃ j : Nat, i < j ∧ j ≤ n ∧ s5 = .int .i64 j ∧ LiOut w wr n i j v) (fun _ s5 _ => n - (intOf s5).toNat)
      case atStart => exact ⟨i + 1, by omega, by omega, by go_num, hli.start _⟩
      case round =>
        obtain ⟨j, hij, hjn, rfl, hlj⟩ := hrel
        by_cases hjl : j < n
        · have hci := (hlj.below.cell (p := ⟨b, off + i, none⟩) hb).trans (HC.out i hil)
          have hgi := HS.out i
          generalize g[i]?.getD 0 = gi at hci hgi
          obtain ⟨ps, q1, q2, q3, q4, q5⟩ := hlj
          have HQ3 := Lib.hid q3
          have HQ4 := Lib.hid q4
          clear q3 q4 hli
          have hsz := q5.size
          go_wp2_with (at_builtin; go_must (refine wpList_append_q _ rfl (.tmp 28) (.tmp 32) 22 rfl w.heap.size 49 i0 _ 2 16 Try.underlying22 hi hz0 hz1 hz2 rfl (by decide) _ ps.length (pairCells ps) rfl (q1.alloc _) ⟨wr.heap.size, 0, none⟩ 1 1 [.int .i64 (i : Int), .int .i64 (j : Int)] rfl rfl (cells_newB _ _ _ _) (by simp [Value.oneCell']) (by unfold maxLen; omega) (by omega) (by simp; omega) ?_); intro v' w' hq hgr hbl)
          · have hb1 : (gi.testBit j) = true := by assumption
            refine ⟨⟨j + 1, by omega, by omega, by go_num, ps ++ [((i : Int), (j : Int))], ?_, ?_, edgesB_snoc HQ3.out HQ4.out hij hjl, LastLt.snoc _ _ _, ?_⟩, by simp [intOf]; omega⟩
            · rw [pairCells_snoc, List.length_append]; exact hq
            · simp; omega
            · exact Below.grown (q5.alloc hsz _) hgr (by simp; omega) (fun k hk => (q1.lt k hk).1)
          · exact ⟨⟨j + 1, by omega, by omega, by go_num, LiOut.next ⟨ps, q1, q2, HQ3.out, HQ4.out, q5⟩⟩, by simp [intOf]; omega⟩
        · go_wp2
          exact ⟨⟨i + 1, by omega, by go_num, hlj.row (by omega) 0⟩, by simp [intOf]; omega⟩
    · go_wp2
      obtain ⟨ps, q1, q2, q3, q4, q5⟩ := hli
      obtain ⟨p, c, rfl⟩ := q1.isSlice
      go_ret
      refine ⟨ps, p, c, rfl, fun hne => ?_, q3, by omega, q5, fun hne ad hd => by
        obtain ⟨gb, o, cap', e, h1, _⟩ := q1.at (List.length_pos_iff.2 hne)
        cases e; cases hd; exact h1⟩
      obtain ⟨gb, o, cap', e, h1, h2, h3, h4, h5, h6⟩ := q1.at (List.length_pos_iff.2 hne)
      cases e
      refine ⟨gb, o, rfl, h2, fun j hj => ?_⟩
      have := pairCells_get ps j hj
      exact ⟨(h5 (j * 2) (by omega)).trans this.1, (h5 (j * 2 + 1) (by omega)).trans this.2⟩
end Go.Proofs.Ytfbobojpocnfeaa
