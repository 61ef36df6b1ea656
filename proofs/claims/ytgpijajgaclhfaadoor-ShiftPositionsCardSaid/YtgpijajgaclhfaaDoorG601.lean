/- Fishburn in plain text: how many different ends intervals have. How many different ends intervals have: the law's walk. A law's walk: ShiftFishburn. -/
import Derived.Test.YtgpijajgaclhfaaDoorG308
import Derived.Test.YtgpijajgaclhfaaDoorG502
import Derived.Test.YtgpijajgaclhfaaDoorG315
set_option linter.unusedVariables false
set_option linter.unusedSimpArgs false
namespace Go.Proofs.YtgpijajgaclhfaaDoor
open Go.RowKit

/-- the different ends of m intervals -/
structure EndsP (l u : Nat → Int) (m : Nat) (all : List Int) : Prop where
  nd : all.Nodup
  mem : ∀ v, v ∈ all ↔ ∃ i, i < m ∧ (v = l i ∨ v = u i)
theorem EndsP.len {l u : Nat → Int} {m : Nat} {a b : List Int} (h : EndsP l u m a) (k : EndsP l u m b) : a.length = b.length :=
  Nat.le_antisymm (nodup_in a b h.nd fun x hx => (k.mem x).2 ((h.mem x).1 hx)) (nodup_in b a k.nd fun x hx => (h.mem x).2 ((k.mem x).1 hx))
/-- the canonical intervals have as many ends as there are sets before -/
theorem canon_ends {n : Nat} {r : Nat → Nat → Bool} {L : List Nat} {all : List Int} (O : OrdP n r) (hn : 1 ≤ n) (h64 : n ≤ 64) (h : SetsL n r L) (h22 : ∀ a b c d, ¬ TwoTwo n r a b c d)
    (E : EndsP (fun y => (lftS L (bef n r y) : Int)) (fun x => (rgtTo L x L.length : Int)) n all) : all.length = L.length := by
  have h1 := (h.first O hn h64).1
  have hR : EndsP (fun y => (lftS L (bef n r y) : Int)) (fun x => (rgtTo L x L.length : Int)) n ((List.range L.length).map fun (k : Nat) => (k : Int)) := by
    refine ⟨?_, fun v => ?_⟩
    · unfold List.Nodup
      rw [List.pairwise_map]
      exact List.pairwise_lt_range.imp fun hlt e => by omega
    · rw [List.mem_map]
      constructor
      · rintro ⟨k, hk, rfl⟩
        rw [List.mem_range] at hk
        have hm : nthN L k ∈ L := by unfold nthN; rw [List.getElem?_eq_getElem hk]; exact List.getElem_mem hk
        obtain ⟨y, hy, ey⟩ := (h.mem _).1 hm
        refine ⟨y, hy, .inl ?_⟩
        have := h.idx hk
        rw [ey] at this
        show (k : Int) = (lftS L (bef n r y) : Int)
        rw [this]
      · rintro ⟨i, hi, e | e⟩
        · exact ⟨lftS L (bef n r i), List.mem_range.2 (h.at hi).1, e.symm⟩
        · exact ⟨rgtTo L i L.length, List.mem_range.2 (rgtTo_spec O hn h64 h h22 i L.length h1 (Nat.le_refl _)).1, e.symm⟩
  rw [E.len hR, List.length_map, List.length_range]
/-- no intervals that represent the order have fewer ends -/
theorem fewest_ends {l u : Nat → Int} {n : Nat} {L : List Nat} {all : List Int} (h : SetsL n (ivR l u n) L) (E : EndsP l u n all) : L.length ≤ all.length := by
  have hch : ∀ s, ∃ y, s ∈ L → y < n ∧ s = bef n (ivR l u n) y := fun s => by
    by_cases hs : s ∈ L
    · obtain ⟨y, hy⟩ := (h.mem s).1 hs
      exact ⟨y, fun _ => hy⟩
    · exact ⟨0, fun h => absurd h hs⟩
  have hf : ∃ f : Nat → Nat, ∀ s, s ∈ L → f s < n ∧ s = bef n (ivR l u n) (f s) := ⟨fun s => Classical.choose (hch s), fun s => Classical.choose_spec (hch s)⟩
  obtain ⟨f, hf⟩ := hf
  have := nodup_in (L.map fun s => l (f s)) all (by
    unfold List.Nodup
    rw [List.pairwise_map]
    refine List.Pairwise.imp_of_mem ?_ h.nodup
    intro a b ha hb hab e
    have h1 := hf a ha
    have h2 := hf b hb
    exact hab (by rw [h1.2, h2.2]; exact ivR_left h1.1 h2.1 e)) fun v hv => by
    obtain ⟨s, hs, rfl⟩ := List.mem_map.1 hv
    exact (E.mem _).2 ⟨f s, (hf s hs).1, .inl rfl⟩
  rwa [List.length_map] at this
end Go.Proofs.YtgpijajgaclhfaaDoor
namespace Go.Proofs.YtgpijajgaclhfaaDoor
open Go.RowKit Go.Shelf

def ii (l : List Int) : List Value := l.map fun v => .int .i64 v
theorem ii_len (l : List Int) : (ii l).length = l.length := by simp [ii]
theorem ii_one (l : List Int) : ∀ u ∈ ii l, u.oneCell' = true := fun u hu => by
  obtain ⟨j, _, rfl⟩ := List.mem_map.1 hu; rfl
theorem ii_app (l : List Int) (v : Int) : ii (l ++ [v]) = ii l ++ [.int .i64 v] := by simp [ii]
theorem ii_get {l : List Int} {j : Nat} (hj : j < l.length) : (ii l)[j]? = some (.int .i64 (l[j]?.getD 0)) := by
  unfold ii; rw [List.getElem?_map, List.getElem?_eq_getElem hj]; rfl
/-- the k-th end of the i-th interval -/
def evE (l u : Nat → Int) (i k : Nat) : Int := if k = 0 then l i else u i
/-- the different ends that have been seen -/
structure EndsTo (l u : Nat → Int) (i k : Nat) (all : List Int) : Prop where
  nd : all.Nodup
  mem : ∀ v, v ∈ all ↔ ∃ i' k', k' < 2 ∧ (i' < i ∨ (i' = i ∧ k' < k)) ∧ v = evE l u i' k'
theorem EndsTo.next {l u : Nat → Int} {i : Nat} {all : List Int} (h : EndsTo l u i 2 all) : EndsTo l u (i + 1) 0 all :=
  ⟨h.nd, fun v => (h.mem v).trans ⟨fun ⟨i', k', h1, h2, h3⟩ => ⟨i', k', h1, by omega, h3⟩, fun ⟨i', k', h1, h2, h3⟩ => ⟨i', k', h1, by omega, h3⟩⟩⟩
theorem EndsTo.old {l u : Nat → Int} {i k : Nat} {all : List Int} (h : EndsTo l u i k all) (hm : evE l u i k ∈ all) : EndsTo l u i (k + 1) all :=
  ⟨h.nd, fun v => by
    constructor
    · intro hv
      obtain ⟨i', k', h1, h2, h3⟩ := (h.mem v).1 hv
      exact ⟨i', k', h1, by omega, h3⟩
    · rintro ⟨i', k', h1, h2, h3⟩
      by_cases e : i' = i ∧ k' = k
      · rw [h3, e.1, e.2]; exact hm
      · exact (h.mem v).2 ⟨i', k', h1, by omega, h3⟩⟩
theorem EndsTo.new {l u : Nat → Int} {i k : Nat} {all : List Int} (h : EndsTo l u i k all) (hk : k < 2) (hm : evE l u i k ∉ all) : EndsTo l u i (k + 1) (all ++ [evE l u i k]) where
  nd := by
    rw [List.nodup_append]
    refine ⟨h.nd, by simp, fun a ha b hb e => ?_⟩
    rw [List.mem_singleton] at hb
    subst hb; subst e; exact hm ha
  mem := fun v => by
    rw [List.mem_append, List.mem_singleton]
    constructor
    · rintro (hv | hv)
      · obtain ⟨i', k', h1, h2, h3⟩ := (h.mem v).1 hv
        exact ⟨i', k', h1, by omega, h3⟩
      · exact ⟨i, k, hk, by omega, hv⟩
    · rintro ⟨i', k', h1, h2, h3⟩
      by_cases e : i' = i ∧ k' = k
      · rw [h3, e.1, e.2]; exact .inr rfl
      · exact .inl ((h.mem v).2 ⟨i', k', h1, by omega, h3⟩)
theorem EndsTo.all {l u : Nat → Int} {m : Nat} {all : List Int} (h : EndsTo l u m 0 all) : EndsP l u m all :=
  ⟨h.nd, fun v => (h.mem v).trans ⟨fun ⟨i', k', h1, h2, h3⟩ => ⟨i', by omega, by
    unfold evE at h3; split at h3
    · exact .inl h3
    · exact .inr h3⟩, fun ⟨i, hi, h3⟩ => h3.elim (fun h => ⟨i, 0, by omega, by omega, h⟩) (fun h => ⟨i, 1, by omega, by omega, h⟩)⟩⟩
set_option maxRecDepth 100000 in
set_option maxHeartbeats 8000000 in
theorem ends_any (p : Option Addr) (c : Nat) (ps : List (Int × Int)) (w : World) (hl : ps.length ≤ 13) (hP : Pairs w p ps) :
    Calls Tryd.prog 32 #[.slice p ps.length c] w fun e w' => ∃ all, e = .returned (.int .i64 (all.length : Nat)) ∧ EndsP (la ps) (ua ps) ps.length all ∧ Below w.heap.size w w' := by
  obtain ⟨i0, hi0, hz0, hz1, hz2⟩ := info_parts info3
  have HP := Lib.hid hP
  obtain ⟨m, HM⟩ : ∃ m, Hid (ps.length = m) := ⟨_, rfl⟩
  rw [HM.out] at hl ⊢
  clear hP
  go_enter Tryd.func32, Tryd.ntmps32
  go_upto_region 3 with (fail)
  go_loopw [3, 4] (fun s3 s4 wr => ∃ (i len : Nat) (all : List Int), i ≤ m ∧ s4 = .int .i64 (i : Int) ∧ all.length = len ∧ len ≤ 2 * i ∧ QRow wr w.heap.size 3 1 s3 len (ii all) ∧ Hid (EndsTo (la ps) (ua ps) i 0 all) ∧ Hid (Below w.heap.size w wr)) (fun _ s4 _ => m - (intOf s4).toNat)
  case atStart => exact ⟨0, 0, [], by omega, rfl, rfl, by omega, QRow.nil _ _ _ _, ⟨List.Pairwise.nil, fun v => Iff.intro (fun h => by cases h) (fun ⟨i', k', _, h, _⟩ => by omega)⟩, Below.refl _ _⟩
  case round =>
    obtain ⟨i, len, all, hi, rfl, hal, hlen, hq, hE, hB⟩ := hrel
    have HAL := Lib.hid hal
    clear hal
    obtain ⟨pa, ca, rfl⟩ := hq.isSlice
    by_cases him : i < m
    · have g1 : (i : Int) < (m : Int) := by omega
      have g0 : (0 : Int) ≤ (i : Int) := by omega
      obtain ⟨b, o, rfl, hb, k1, k2⟩ := HP.out.at (k := i) (by rw [HM.out]; exact him)
      have HEV : Hid (∀ k, k < 2 → ∀ W, Below w.heap.size w W → W.cell? ⟨b, o + i * 2 + k, none⟩ = some (.int .i64 (evE (la ps) (ua ps) i k))) := fun k hk W hW => by
        refine (hW.cell (p := ⟨b, o + i * 2 + k, none⟩) hb).trans ?_
        rcases (show k = 0 ∨ k = 1 by omega) with rfl | rfl
        · exact k1
        · exact k2
      clear k1 k2
      go_upto_region 6 with (fail)
      go_loopw [3, 5] (fun s3 s5 wr => ∃ (k len : Nat) (all : List Int), k ≤ 2 ∧ s5 = .int .i64 (k : Int) ∧ all.length = len ∧ len ≤ 2 * i + k ∧ QRow wr w.heap.size 3 1 s3 len (ii all) ∧ Hid (EndsTo (la ps) (ua ps) i k all) ∧ Hid (Below w.heap.size w wr)) (fun _ s5 _ => 2 - (intOf s5).toNat)
      case atStart => exact ⟨0, len, all, by omega, rfl, HAL.out, by omega, hq, hE, hB⟩
      case round =>
        clear hq hE hB HAL hlen
        obtain ⟨k, len, all, hk, rfl, hal, hlen, hq, hE, hB⟩ := hrel
        have HAL := Lib.hid hal
        clear hal
        obtain ⟨pa, ca, rfl⟩ := hq.isSlice
        by_cases hk2 : k < 2
        · have g2 : (k : Int) < 2 := by omega
          have g3 : (0 : Int) ≤ (k : Int) := by omega
          have g4 : (k : Int) < ((2 : Nat) : Int) := by omega
          obtain ⟨v, hv⟩ : ∃ v, Hid (v = evE (la ps) (ua ps) i k) := ⟨_, rfl⟩
          have HRN : Hid (∀ j, j < len → ∃ b o, pa = some ⟨b, o, none⟩ ∧ wr.cell? ⟨b, o + j, none⟩ = some (.int .i64 (all[j]?.getD 0))) := fun j hj => by
            obtain ⟨b, o, cap, e, _, hb, _, _, hc, _⟩ := hq.at (by omega)
            cases e
            exact ⟨b, o, rfl, (hc j (by omega)).trans (ii_get (by rw [HAL.out]; exact hj))⟩
          have HQ := Lib.hid hq
          have hk1 := HEV.out k hk2 wr hB.out
          rw [← hv.out] at hk1
          clear hq
          obtain ⟨wo, hwo⟩ : ∃ wo, Hid (wo = wr) := ⟨_, rfl⟩
          rw [← hwo.out] at hB HQ HRN hk1 ⊢
          clear hwo
          go_upto_region 10 with (fail)
          go_loopw [6, 7] (fun s6 s7 wr => ∃ (j : Nat) (f : Bool), j ≤ len ∧ s7 = .int .i64 (j : Int) ∧ s6 = .bool f ∧ Hid (f = true ↔ ∀ j', j' < j → all[j']?.getD 0 ≠ v) ∧ ∃ z, Hid (wr = wo.drewN z)) (fun _ s7 _ => len - (intOf s7).toNat)
          case atStart => exact ⟨0, true, by omega, rfl, rfl, ⟨fun _ j' h => by omega, fun _ => rfl⟩, 0, rfl⟩
          case round =>
            obtain ⟨j, f, hj, rfl, rfl, hf, z, hw⟩ := hrel
            rw [hw.out]
            clear hw
            by_cases hjl : j < len
            · have g5 : (j : Int) < (len : Int) := by omega
              have g6 : (0 : Int) ≤ (j : Int) := by omega
              obtain ⟨bz, oz, rfl, hcz⟩ := HRN.out j hjl
              obtain ⟨y, hy⟩ : ∃ y, Hid (y = all[j]?.getD 0) := ⟨_, rfl⟩
              rw [← hy.out] at hcz
              have HN : Hid (∀ f2 : Bool, (f2 = true ↔ f = true ∧ y ≠ v) → (f2 = true ↔ ∀ j', j' < j + 1 → all[j']?.getD 0 ≠ v)) := fun f2 h => h.trans ⟨fun h2 j' hj' => by
                by_cases e : j' = j
                · subst e; rw [← hy.out]; exact h2.2
                · exact hf.out.1 h2.1 j' (by omega), fun h2 => ⟨hf.out.2 fun j' hj' => h2 j' (by omega), by rw [hy.out]; exact h2 j (by omega)⟩⟩
              cases f
              · have HF := Lib.hid (HN.out false (by simp))
                clear HN
                go_wp2
                go_quiet (fail)
                go_wp2
                exact ⟨⟨j + 1, false, by omega, int_eq (by omega), rfl, HF, _, rfl⟩, by simp [intOf]; omega⟩
              · by_cases e : y = v
                · have q1 : (y != v) = false := by rw [e]; simp
                  have HF := Lib.hid (HN.out false (by simp [e]))
                  clear HN e
                  go_wp2
                  go_quiet (fail)
                  go_wp2
                  exact ⟨⟨j + 1, false, by omega, int_eq (by omega), rfl, HF, _, rfl⟩, by simp [intOf]; omega⟩
                · have q1 : (y != v) = true := by rw [bne_iff_ne]; exact e
                  have HF := Lib.hid ((HN.out true (by simp [e])).1 rfl)
                  clear HN e
                  go_wp2
                  go_quiet (fail)
                  go_wp2
                  exact ⟨⟨j + 1, true, by omega, int_eq (by omega), rfl, ⟨fun _ => HF.out, fun _ => rfl⟩, _, rfl⟩, by simp [intOf]; omega⟩
            · have g5 : ¬ (j : Int) < (len : Int) := by omega
              obtain rfl : len = j := by omega
              have HIN : Hid (f = true ↔ evE (la ps) (ua ps) i k ∉ all) := by
                refine hf.out.trans ⟨fun h hm => ?_, fun h j' hj' e => h ?_⟩
                · obtain ⟨j', hj', e⟩ := List.mem_iff_getElem.1 hm
                  refine h j' (by rw [← HAL.out]; exact hj') ?_
                  rw [List.getElem?_eq_getElem hj', hv.out]; exact e
                · rw [← hv.out, ← e, List.getElem?_eq_getElem (by rw [HAL.out]; exact hj')]; exact List.getElem_mem _
              have HQz : Hid (QRow (wo.drewN z) w.heap.size 3 1 (.slice pa len ca) len (ii all)) := HQ.out
              have HBz := Lib.hid (below_dr hB.out z)
              have hszz : w.heap.size ≤ (wo.drewN z).heap.size := HBz.out.size
              have hk1z : (wo.drewN z).cell? ⟨b, o + i * 2 + k, none⟩ = some (.int .i64 v) := hk1
              clear hk1
              generalize wo.drewN z = Z at *
              cases f
              · have HE2 : Hid (EndsTo (la ps) (ua ps) i (k + 1) all) := hE.out.old (Classical.byContradiction fun h => by cases HIN.out.2 h)
                go_wp2
                exact ⟨⟨k + 1, len, all, by omega, int_eq (by omega), HAL.out, by omega, HQz.out, HE2, HBz⟩, by simp [intOf]; omega⟩
              · have HE2 : Hid (EndsTo (la ps) (ua ps) i (k + 1) (all ++ [v])) := by rw [hv.out]; exact hE.out.new hk2 (HIN.out.1 rfl)
                have HAL2 : Hid ((all ++ [v]).length = len + 1) := by unfold Hid; rw [List.length_append, HAL.out]; rfl
                have HQA := Lib.hid (HQz.out.alloc (.cells #[.int .i64 v] 3))
                have HLT := Lib.hid (fun kk (e : _ = some kk) => (HQz.out.lt kk e).1)
                go_wp2_with (at_builtin; go_must (refine wpList_append_q _ rfl (.tmp 39) (.tmp 46) 28 rfl w.heap.size 3 i0 (.int .i64 0) 1 8 Tryd.underlying28 hi0 hz0 hz1 hz2 rfl (by decide) _ len (ii all) rfl HQA.out ⟨_, 0, none⟩ 1 1 [.int .i64 v] rfl rfl (cells_new1 _ _ _) (by simp [Value.oneCell']) (by unfold maxLen; omega) (by omega) (by simp; omega) ?_); intro v7 w7 hq7 hg7 ho7; have HQ7 : Hid (QRow w7 w.heap.size 3 1 v7 (len + 1) (ii (all ++ [v]))) := (by rw [ii_app]; exact hq7); have HB7 : Hid (Below w.heap.size w w7) := Below.grown (HBz.out.alloc hszz _) hg7 (by simp; omega) (fun kk e => HLT.out kk e); clear hq7 hg7 ho7)
                exact ⟨⟨k + 1, len + 1, all ++ [v], by omega, int_eq (by omega), HAL2.out, by omega, HQ7.out, HE2, HB7⟩, by simp [intOf]; omega⟩
        · have g2 : ¬ (k : Int) < 2 := by omega
          obtain rfl : k = 2 := by omega
          have HE2 := Lib.hid hE.out.next
          go_wp2
          exact ⟨⟨i + 1, len, all, by omega, int_eq (by omega), HAL.out, by omega, hq, HE2, hB⟩, by simp [intOf]; omega⟩
    · have g1 : ¬ (i : Int) < (m : Int) := by omega
      obtain rfl : m = i := by omega
      go_wp2
      go_ret
      exact ⟨all, by rw [HAL.out]; rfl, hE.out.all, hB.out⟩
end Go.Proofs.YtgpijajgaclhfaaDoor
namespace Go.Proofs.YtgpijajgaclhfaaDoor
open Go.RowKit Go.Shelf

theorem ins_at {L : List Nat} {s : Nat} : ∀ j, j ≤ L.length → (∀ i, i < j → LtS (nthN L i) s) ∨ ∃ k, k < j ∧ (∀ i, i < k → LtS (nthN L i) s) ∧ ¬ LtS (nthN L k) s
  | 0, _ => .inl fun i h => by omega
  | j + 1, hj => by
    rcases ins_at (L := L) (s := s) j (by omega) with h | ⟨k, h1, h2⟩
    · by_cases e : LtS (nthN L j) s
      · refine .inl fun i hi => ?_
        by_cases e2 : i = j
        · subst e2; exact e
        · exact h i (by omega)
      · exact .inr ⟨j, by omega, h, e⟩
    · exact .inr ⟨k, by omega, h2⟩
theorem setsTo_ex (n : Nat) (r : Nat → Nat → Bool) : ∀ x, ∃ L, SetsTo n r x L
  | 0 => ⟨[], List.Pairwise.nil, fun s => Iff.intro (fun h => by cases h) (fun ⟨y, hy, _⟩ => by omega)⟩
  | x + 1 => by
    obtain ⟨L, h⟩ := setsTo_ex n r x
    rcases ins_at (L := L) (s := bef n r x) L.length (Nat.le_refl _) with h1 | ⟨k, hk, h1, h2⟩
    · exact ⟨_, h.put (Nat.le_refl _) h1 (fun h => by omega)⟩
    · by_cases e : nthN L k = bef n r x
      · exact ⟨_, h.has hk e⟩
      · refine ⟨_, h.put (Nat.le_of_lt hk) h1 fun _ => ?_⟩
        rcases ltS_tri (nthN L k) (bef n r x) with h3 | h3 | h3
        · exact absurd h3 h2
        · exact absurd h3 e
        · exact h3
theorem sets_ex (n : Nat) (r : Nat → Nat → Bool) : ∃ L, SetsL n r L := (setsTo_ex n r n).elim fun L h => ⟨L, h.all⟩
theorem canonPs_at {n : Nat} {r : Nat → Nat → Bool} {L : List Nat} {x : Nat} (hx : x < n) : la (canonPs n r L) x = ((lftS L (bef n r x) : Nat) : Int) ∧ ua (canonPs n r L) x = ((rgtTo L x L.length : Nat) : Int) := by
  unfold la ua canonPs
  rw [List.getElem?_map, List.getElem?_range hx]
  exact ⟨rfl, rfl⟩
theorem canon_rel {k : Nat} {R : Nat → Nat → Bool} {L : List Nat} (hk : TabOK k (fun _ => k) R) (hL : SetsL k R L) (h22 : ∀ a b c d, ¬ TwoTwo k R a b c d) {x y : Nat} (hx : x < k) (hy : y < k) : relI (canonPs k R L) x y = R x y := by
  unfold relI
  rw [(canonPs_at hx).2, (canonPs_at hy).1]
  have := canon hk.ord hk.n1 (by have := hk.n12; omega) hL h22 hx hy
  rw [Bool.eq_iff_iff, this]
  simp
theorem canon_ok {k : Nat} {R : Nat → Nat → Bool} {L : List Nat} (hk : TabOK k (fun _ => k) R) (hL : SetsL k R L) (h22 : ∀ a b c d, ¬ TwoTwo k R a b c d) : ivsOK (canonPs k R L) := by
  refine ⟨by rw [canonPs_len]; exact hk.n1, by rw [canonPs_len]; exact hk.n12, fun x hx => ?_⟩
  rw [canonPs_len] at hx
  have h1 := canon_rel hk hL h22 hx hx
  rw [hk.ord.irr x hx] at h1
  unfold relI at h1
  simp at h1
  exact h1
theorem EndsP.congr {l u l' u' : Nat → Int} {m : Nat} {all : List Int} (h : EndsP l u m all) (e : ∀ i, i < m → l i = l' i ∧ u i = u' i) : EndsP l' u' m all :=
  ⟨h.nd, fun v => (h.mem v).trans ⟨fun ⟨i, hi, h3⟩ => ⟨i, hi, by rw [← (e i hi).1, ← (e i hi).2]; exact h3⟩, fun ⟨i, hi, h3⟩ => ⟨i, hi, by rw [(e i hi).1, (e i hi).2]; exact h3⟩⟩⟩
theorem canon_many {k : Nat} {R : Nat → Nat → Bool} {L : List Nat} {all : List Int} (hk : TabOK k (fun _ => k) R) (hL : SetsL k R L) (h22 : ∀ a b c d, ¬ TwoTwo k R a b c d) (E : EndsP (la (canonPs k R L)) (ua (canonPs k R L)) k all) : all.length = L.length :=
  canon_ends hk.ord hk.n1 (by have := hk.n12; omega) hL h22 (E.congr fun i hi => canonPs_at hi)
theorem relI_few {ps : List (Int × Int)} {L : List Nat} {all : List Int} (hL : SetsL ps.length (relI ps) L) (E : EndsP (la ps) (ua ps) ps.length all) : L.length ≤ all.length := by
  refine fewest_ends (l := la ps) (u := ua ps) (n := ps.length) ⟨hL.up, fun s => (hL.mem s).trans ?_⟩ E
  have e : ∀ y, y < ps.length → bef ps.length (relI ps) y = bef ps.length (ivR (la ps) (ua ps) ps.length) y := fun y hy => bs_congr fun x hx => by
    unfold relI ivR; simp [hx, hy]
  exact ⟨fun ⟨y, hy, h⟩ => ⟨y, hy, by rw [h, e y hy]⟩, fun ⟨y, hy, h⟩ => ⟨y, hy, by rw [h, e y hy]⟩⟩
/-- the law's second part: any intervals -/
theorem ends_canon (p : Option Addr) (k c : Nat) (R : Nat → Nat → Bool) (L : List Nat) (w : World) (hk : TabOK k (fun _ => k) R) (hL : SetsL k R L) (h22 : ∀ a b c d, ¬ TwoTwo k R a b c d) (hP : Pairs w p (canonPs k R L)) :
    Calls Tryd.prog 32 #[.slice p k c] w fun e w' => e = .returned (.int .i64 (L.length : Nat)) ∧ Below w.heap.size w w' := by
  have := ends_any p c (canonPs k R L) w (by rw [canonPs_len]; have := hk.n12; omega) hP
  rw [canonPs_len] at this
  refine this.mono ?_
  rintro e w' ⟨all, rfl, hE, hB⟩
  rw [canon_many hk hL h22 hE]
  exact ⟨rfl, hB⟩
theorem from_canon (p : Option Addr) (k c : Nat) (R : Nat → Nat → Bool) (L : List Nat) (w : World) (hk : TabOK k (fun _ => k) R) (hL : SetsL k R L) (h22 : ∀ a b c d, ¬ TwoTwo k R a b c d) (hP : Pairs w p (canonPs k R L)) :
    Calls Tryd.prog 14 #[.slice p k c] w fun e w' => ∃ q d, e = .returned (.tuple #[.slice q k d, .int .i64 0]) ∧ TblI w' q k (fun _ => k) (relI (canonPs k R L)) ∧ Below w.heap.size w w' := by
  have := from_ok p c (canonPs k R L) w (canon_ok hk hL h22) hP
  rw [canonPs_len] at this
  exact this
theorem same_canon (p q : Option Addr) (k c d : Nat) (R : Nat → Nat → Bool) (L : List Nat) (w : World) (hk : TabOK k (fun _ => k) R) (hL : SetsL k R L) (h22 : ∀ a b c d, ¬ TwoTwo k R a b c d) (hT : TblI w p k (fun _ => k) R) (hQ : TblI w q k (fun _ => k) (relI (canonPs k R L))) :
    Calls Tryd.prog 19 #[.slice p k c, .slice q k d] w fun e w' => e = .returned (.bool true) ∧ Below w.heap.size w w' := by
  refine (rSame_any p q k c d R _ w (by have := hk.n12; omega) hT hQ).mono ?_
  rintro e w' ⟨h1, z, rfl⟩
  exact ⟨h1.dec (b := true) ⟨fun _ i j hi hj => (canon_rel hk hL h22 hi hj).symm, fun _ => rfl⟩, below_dr (Below.refl _ _) z⟩
set_option maxRecDepth 100000 in
set_option maxHeartbeats 8000000 in
theorem law6 (a : Option Addr) (n cap : Nat) (ln : Nat → Nat) (r : Nat → Nat → Bool) (a2 : Option Addr) (cap2 : Nat) (ps : List (Int × Int)) (w : World) (hP : TabIn w a n cap ln r) (hP2 : PairsIn w a2 cap2 ps) (hT : Tab w) :
    Calls Tryd.prog 6 #[.slice a n cap, .slice a2 ps.length cap2] w fun e w' => e = .returned (.bool true) ∧ Below w.heap.size w w' := by
  have HTM := Lib.hid (tame_any a n cap ln r w hP)
  have HSP : Hid (∀ W, Below w.heap.size w W → Calls Tryd.prog 13 #[.slice a2 ps.length cap2] W fun e w' => ∃ p c, e = .returned (.slice p (ps.take 13).length c) ∧ Pairs w' p (ps.take 13) ∧ Below W.heap.size W w') := fun W hW => spans_any a2 cap2 ps W ⟨hP2.g.below hW (Nat.le_refl _), hP2.fits, hP2.capm, hP2.nil⟩
  have HT := Lib.hid hT
  clear hP hP2 hT
  obtain ⟨len, HLEN⟩ : ∃ len, Hid (ps.length = len) := ⟨_, rfl⟩
  rw [HLEN.out] at HSP ⊢
  obtain ⟨xs, hxs⟩ : ∃ xs, Hid (xs = ps.take 13) := ⟨_, rfl⟩
  rw [← hxs.out] at HSP
  have hxl : xs.length ≤ 13 := by rw [hxs.out, List.length_take]; omega
  have HXL := Lib.hid hxl
  obtain ⟨m, HM⟩ : ∃ m, Hid (xs.length = m) := ⟨_, rfl⟩
  rw [HM.out] at HSP hxl
  clear hxs
  obtain ⟨cc, hc, hc0, hc2⟩ := CkI.code xs
  have HC := Lib.hid hc
  clear hc
  go_enter Tryd.func6, Tryd.ntmps6
  go_upto_region 2 with (go_at_call 22; refine HTM.out.mono ?_; rintro e w1 ⟨p, k, c, R, rfl, hT1, hok, hB1⟩; have HT1 := Lib.hid hT1; have HOK := Lib.hid hok; have HB1 := Lib.hid hB1; clear hT1 hok hB1)
  clear HTM
  have hk12 := HOK.out.n12
  obtain ⟨L, hL⟩ : ∃ L, SetsL k R L := sets_ex k R
  have HL := Lib.hid hL
  clear hL
  have htb1 := HT.out.below HB1.out (Nat.le_refl _)
  by_cases h22 : ∃ a b c d, TwoTwo k R a b c d
  · have H22 := Lib.hid h22
    have HIV := Lib.hid (ivs_two p k c R w1 HOK.out h22 htb1 HT1.out)
    clear h22 htb1
    go_upto_region 3 with (go_at_call 24; refine HIV.out.mono ?_; rintro e w2 ⟨rfl, hB2⟩; have HT2 := Lib.hid (HT1.out.below hB2 (Nat.le_refl _)); have HB2 := Lib.hid (HB1.out.trans (hB2.mono HB1.out.size)); clear hB2)
    have HTY := Lib.hid (two_yes p k c R w2 HOK.out H22.out (HT.out.below HB2.out (Nat.le_refl _)) HT2.out)
    clear HIV
    go_upto_region 4 with (go_at_call 25; refine HTY.out.mono ?_; rintro e w3 ⟨x0, x1, x2, x3, rfl, htt, hB3⟩; have HT3 := Lib.hid (HT2.out.below hB3 (Nat.le_refl _)); have HB3 := Lib.hid (HB2.out.trans (hB3.mono HB2.out.size)); clear htt hB3)
    have HB4 := Lib.hid (HB3.out.alloc HB3.out.size (.cells #[.int .i64 (x0 : Int), .int .i64 (x1 : Int), .int .i64 (x2 : Int), .int .i64 (x3 : Int)] 45))
    have HT4 := Lib.hid (HT3.out.below ((Below.refl w3.heap.size w3).alloc (Nat.le_refl _) (.cells #[.int .i64 (x0 : Int), .int .i64 (x1 : Int), .int .i64 (x2 : Int), .int .i64 (x3 : Int)] 45)) (Nat.le_refl _))
    generalize w3.alloc (.cells #[.int .i64 (x0 : Int), .int .i64 (x1 : Int), .int .i64 (x2 : Int), .int .i64 (x3 : Int)] 45) = X at *
    have HMG := Lib.hid (mag_ok p k c R X HOK.out HT4.out)
    clear HTY
    go_upto_region 5 with (go_at_call 23; refine HMG.out.mono ?_; rintro e W0 ⟨L', rfl, hL', hB5⟩; rw [hL'.unique HL.out]; have HB0 := Lib.hid (HB4.out.trans (hB5.mono HB4.out.size)); clear hL' hB5)
    clear HMG
    go_upto_region 11 with (fail)
    have HSPX := Lib.hid (HSP.out W0 HB0.out)
    go_upto_region 12 with (go_at_call 13; refine HSPX.out.mono ?_; rintro e w6 ⟨p6, c6, rfl, hP6, hB6⟩; have HP6 := Lib.hid hP6; have HB6 := Lib.hid (HB0.out.trans (hB6.mono HB0.out.size)); clear hP6 hB6)
    have HRI : Hid (Calls Tryd.prog 16 #[.slice p6 m c6] w6 fun e w' => e = .returned (.int .i64 cc) ∧ ∃ q, w' = w6.drewN q) := by
      have := rIntervals_any p6 c6 xs w6 (by have := HXL.out; omega) HP6.out
      rw [HM.out] at this
      refine this.mono ?_
      rintro e w' ⟨⟨d, rfl, hd⟩, h⟩
      rw [HC.out.unique hd]; exact ⟨rfl, h⟩
    have HAWA : Hid (∀ V, Below w.heap.size w V → Calls Tryd.prog 17 #[] V fun e w' => e = .returned (.bool true) ∧ Below V.heap.size V w') := fun V hV => awake_any V (HT.out.below hV (Nat.le_refl _))
    by_cases h0 : cc = 0
    · have hok := HC.out.zero.1 h0
      have HOX := Lib.hid hok
      have hm12 : m ≤ 12 := by have := hok.2.1; rw [HM.out] at this; exact this
      subst h0
      have HTX : Hid (TabOK m (fun _ => m) (relI xs)) := by have := relI_tab hok; rw [HM.out] at this; exact this
      have HNX : Hid (∀ a b c d, ¬ TwoTwo m (relI xs) a b c d) := by have := relI_no22 (ps := xs); rw [HM.out] at this; exact this
      obtain ⟨L2, hL2⟩ : ∃ L2, SetsL m (relI xs) L2 := sets_ex m (relI xs)
      have HL2 := Lib.hid hL2
      clear hL2 hok
      go_upto_region 14 with (go_at_call 16; refine HRI.out.mono ?_; rintro e w7 ⟨rfl, q7, hw7⟩; subst hw7)
      have HB7 := Lib.hid (below_dr HB6.out q7)
      have HP7 : Hid (Pairs (w6.drewN q7) p6 xs) := HP6.out.below (below_dr (Below.refl w6.heap.size _) q7) (Nat.le_refl _)
      generalize w6.drewN q7 = w7 at *
      have HF : Hid (Calls Tryd.prog 14 #[.slice p6 m c6] w7 fun e w' => ∃ p c, e = .returned (.tuple #[.slice p m c, .int .i64 0]) ∧ TblI w' p m (fun _ => m) (relI xs) ∧ Below w7.heap.size w7 w') := by
        have := from_ok p6 c6 xs w7 HOX.out HP7.out
        rw [HM.out] at this
        exact this
      go_upto_region 15 with (go_at_call 14; refine HF.out.mono ?_; rintro e w8 ⟨p8, c8, rfl, hT8, hB8⟩; have HT8 := Lib.hid hT8; have HP8 := Lib.hid (HP7.out.below hB8 (Nat.le_refl _)); have HB8 := Lib.hid (HB7.out.trans (hB8.mono HB7.out.size)); clear hT8 hB8)
      have HMG := Lib.hid (mag_ok p8 m c8 (relI xs) w8 HTX.out HT8.out)
      clear HF
      go_upto_region 16 with (go_at_call 23; refine HMG.out.mono ?_; rintro e w9 ⟨L', rfl, hL', hB9⟩; rw [hL'.unique HL2.out]; have HT9 := Lib.hid (HT8.out.below hB9 (Nat.le_refl _)); have HP9 := Lib.hid (HP8.out.below hB9 (Nat.le_refl _)); have HB9 := Lib.hid (HB8.out.trans (hB9.mono HB8.out.size)); clear hL' hB9)
      have HIV := Lib.hid (ivs_no p8 m c8 (relI xs) L2 w9 HTX.out HL2.out HNX.out (HT.out.below HB9.out (Nat.le_refl _)) HT9.out)
      clear HMG
      go_upto_region 17 with (go_at_call 24; refine HIV.out.mono ?_; rintro e w10 ⟨q10, c10, rfl, hQ10, hB10⟩; have HQ10 := Lib.hid hQ10; have HP10 := Lib.hid (HP9.out.below hB10 (Nat.le_refl _)); have HB10 := Lib.hid (HB9.out.trans (hB10.mono HB9.out.size)); clear hQ10 hB10)
      clear HIV
      have HE1 := Lib.hid (ends_canon q10 m c10 (relI xs) L2 w10 HTX.out HL2.out HNX.out HQ10.out)
      have HE2 : Hid (∀ V, Below w10.heap.size w10 V → Calls Tryd.prog 32 #[.slice p6 m c6] V fun e w' => (∃ z : Nat, e = .returned (.int .i64 (z : Int)) ∧ L2.length ≤ z) ∧ Below V.heap.size V w') := fun V hV => by
        have := ends_any p6 c6 xs V HXL.out (HP10.out.below hV (Nat.le_refl _))
        rw [HM.out] at this
        refine this.mono ?_
        rintro e w' ⟨all, rfl, hE, hB⟩
        have hl2 := HL2.out
        rw [← HM.out] at hl2 hE
        exact ⟨⟨_, rfl, relI_few hl2 hE⟩, hB⟩
      obtain ⟨ll, hll⟩ : ∃ ll, Hid (L2.length = ll) := ⟨_, rfl⟩
      rw [hll.out] at HE1 HE2 ⊢
      clear hll
      go_wp2_with (first
        | (go_at_call 32; with_reducible refine HE1.out.mono ?_; rintro e w11 ⟨rfl, hB11⟩; have HB11 := Lib.hid hB11; have HE3 := Lib.hid (HE2.out w11 hB11); clear hB11)
        | (go_at_call 32; with_reducible refine HE3.out.mono ?_; rintro e w12 ⟨⟨z, rfl, hz⟩, hB12⟩; have hzz : (ll : Int) ≤ (z : Int) := (by omega); have HB12 := Lib.hid (HB10.out.trans ((HB11.out.trans (hB12.mono HB11.out.size)).mono HB10.out.size)); have HAW := Lib.hid (HAWA.out w12 HB12.out); clear hB12)
        | (go_at_call 17; refine HAW.out.mono ?_; rintro e w13 ⟨rfl, hB13⟩; have HB13 := Lib.hid (HB12.out.trans (hB13.mono HB12.out.size)); clear hB13))
      go_ret
      exact ⟨rfl, HB13.out⟩
    · have g0 : (cc != 0) = true := by rw [bne_iff_ne]; exact h0
      have HAW := Lib.hid (fun q => HAWA.out (w6.drewN q) (below_dr HB6.out q))
      go_wp2_with (first
        | (go_at_call 16; refine HRI.out.mono ?_; rintro e w7 ⟨rfl, q7, hw7⟩; subst hw7)
        | (go_at_call 17; refine (HAW.out _).mono ?_; rintro e w13 ⟨rfl, hB13⟩; have HB13 := Lib.hid (HB6.out.trans (((below_dr (Below.refl w6.heap.size _) q7).trans hB13).mono HB6.out.size)); clear hB13))
      go_ret
      exact ⟨rfl, HB13.out⟩
  · have HNO : Hid (∀ a b c d, ¬ TwoTwo k R a b c d) := fun a b c d h => h22 ⟨a, b, c, d, h⟩
    have HIV := Lib.hid (ivs_no p k c R L w1 HOK.out HL.out HNO.out htb1 HT1.out)
    clear h22 htb1
    go_upto_region 3 with (go_at_call 24; refine HIV.out.mono ?_; rintro e w2 ⟨q2, c2, rfl, hQ2, hB2⟩; have HQ2 := Lib.hid hQ2; have HT2 := Lib.hid (HT1.out.below hB2 (Nat.le_refl _)); have HB2 := Lib.hid (HB1.out.trans (hB2.mono HB1.out.size)); clear hB2 hQ2)
    have HTY := Lib.hid (two_no p k c R w2 HOK.out HNO.out (HT.out.below HB2.out (Nat.le_refl _)) HT2.out)
    clear HIV
    go_upto_region 4 with (go_at_call 25; refine HTY.out.mono ?_; rintro e w3 ⟨rfl, hB3⟩; have HQ3 := Lib.hid (HQ2.out.below hB3 (Nat.le_refl _)); have HT3 := Lib.hid (HT2.out.below hB3 (Nat.le_refl _)); have HB3 := Lib.hid (HB2.out.trans (hB3.mono HB2.out.size)); clear hB3)
    have HB4 := Lib.hid (HB3.out.alloc HB3.out.size (.cells #[.int .i64 0, .int .i64 0, .int .i64 0, .int .i64 0] 45))
    have HB34 : Hid (Below w3.heap.size w3 (w3.alloc (.cells #[.int .i64 0, .int .i64 0, .int .i64 0, .int .i64 0] 45))) := (Below.refl w3.heap.size w3).alloc (Nat.le_refl _) (.cells #[.int .i64 0, .int .i64 0, .int .i64 0, .int .i64 0] 45)
    have HT4 := Lib.hid (HT3.out.below HB34.out (Nat.le_refl _))
    have HQ4 := Lib.hid (HQ3.out.below HB34.out (Nat.le_refl _))
    clear HB34
    generalize w3.alloc (.cells #[.int .i64 0, .int .i64 0, .int .i64 0, .int .i64 0] 45) = X at *
    have HMG := Lib.hid (mag_ok p k c R X HOK.out HT4.out)
    clear HTY
    go_upto_region 5 with (go_at_call 23; refine HMG.out.mono ?_; rintro e w5 ⟨L', rfl, hL', hB5⟩; rw [hL'.unique HL.out]; have HT5 := Lib.hid (HT4.out.below hB5 (Nat.le_refl _)); have HQ5 := Lib.hid (HQ4.out.below hB5 (Nat.le_refl _)); have HB5 := Lib.hid (HB4.out.trans (hB5.mono HB4.out.size)); clear hL' hB5)
    clear HMG
    have HFC := Lib.hid (from_canon q2 k c2 R L w5 HOK.out HL.out HNO.out HQ5.out)
    go_upto_region 9 with (go_at_call 14; refine HFC.out.mono ?_; rintro e w51 ⟨q51, c51, rfl, hT51, hB51⟩; have HT51 := Lib.hid hT51; have HT5' := Lib.hid (HT5.out.below hB51 (Nat.le_refl _)); have HQ5' := Lib.hid (HQ5.out.below hB51 (Nat.le_refl _)); have HB51 := Lib.hid (HB5.out.trans (hB51.mono HB5.out.size)); clear hT51 hB51)
    clear HFC
    have HSM := Lib.hid (same_canon p q51 k c c51 R L w51 HOK.out HL.out HNO.out HT5'.out HT51.out)
    have HEC : Hid (∀ V, Below w51.heap.size w51 V → Calls Tryd.prog 32 #[.slice q2 k c2] V fun e w' => e = .returned (.int .i64 (L.length : Nat)) ∧ Below V.heap.size V w') := fun V hV => ends_canon q2 k c2 R L V HOK.out HL.out HNO.out (HQ5'.out.below hV (Nat.le_refl _))
    obtain ⟨l1, hl1⟩ : ∃ l1, Hid (L.length = l1) := ⟨_, rfl⟩
    rw [hl1.out] at HEC ⊢
    clear hl1
    go_upto_region 11 with (first
      | (go_at_call 19; refine HSM.out.mono ?_; rintro e w52 ⟨rfl, hB52⟩; have HB52 := Lib.hid hB52; have HEC2 := Lib.hid (HEC.out w52 hB52); clear hB52)
      | (go_at_call 32; refine HEC2.out.mono ?_; rintro e W0 ⟨rfl, hB53⟩; have HB0 := Lib.hid (HB51.out.trans ((HB52.out.trans (hB53.mono HB52.out.size)).mono HB51.out.size)); clear hB53))
    clear HSM HEC HEC2
    have HSPX := Lib.hid (HSP.out W0 HB0.out)
    go_upto_region 12 with (go_at_call 13; refine HSPX.out.mono ?_; rintro e w6 ⟨p6, c6, rfl, hP6, hB6⟩; have HP6 := Lib.hid hP6; have HB6 := Lib.hid (HB0.out.trans (hB6.mono HB0.out.size)); clear hP6 hB6)
    have HRI : Hid (Calls Tryd.prog 16 #[.slice p6 m c6] w6 fun e w' => e = .returned (.int .i64 cc) ∧ ∃ q, w' = w6.drewN q) := by
      have := rIntervals_any p6 c6 xs w6 (by have := HXL.out; omega) HP6.out
      rw [HM.out] at this
      refine this.mono ?_
      rintro e w' ⟨⟨d, rfl, hd⟩, h⟩
      rw [HC.out.unique hd]; exact ⟨rfl, h⟩
    have HAWA : Hid (∀ V, Below w.heap.size w V → Calls Tryd.prog 17 #[] V fun e w' => e = .returned (.bool true) ∧ Below V.heap.size V w') := fun V hV => awake_any V (HT.out.below hV (Nat.le_refl _))
    by_cases h0 : cc = 0
    · have hok := HC.out.zero.1 h0
      have HOX := Lib.hid hok
      have hm12 : m ≤ 12 := by have := hok.2.1; rw [HM.out] at this; exact this
      subst h0
      have HTX : Hid (TabOK m (fun _ => m) (relI xs)) := by have := relI_tab hok; rw [HM.out] at this; exact this
      have HNX : Hid (∀ a b c d, ¬ TwoTwo m (relI xs) a b c d) := by have := relI_no22 (ps := xs); rw [HM.out] at this; exact this
      obtain ⟨L2, hL2⟩ : ∃ L2, SetsL m (relI xs) L2 := sets_ex m (relI xs)
      have HL2 := Lib.hid hL2
      clear hL2 hok
      go_upto_region 14 with (go_at_call 16; refine HRI.out.mono ?_; rintro e w7 ⟨rfl, q7, hw7⟩; subst hw7)
      have HB7 := Lib.hid (below_dr HB6.out q7)
      have HP7 : Hid (Pairs (w6.drewN q7) p6 xs) := HP6.out.below (below_dr (Below.refl w6.heap.size _) q7) (Nat.le_refl _)
      generalize w6.drewN q7 = w7 at *
      have HF : Hid (Calls Tryd.prog 14 #[.slice p6 m c6] w7 fun e w' => ∃ p c, e = .returned (.tuple #[.slice p m c, .int .i64 0]) ∧ TblI w' p m (fun _ => m) (relI xs) ∧ Below w7.heap.size w7 w') := by
        have := from_ok p6 c6 xs w7 HOX.out HP7.out
        rw [HM.out] at this
        exact this
      go_upto_region 15 with (go_at_call 14; refine HF.out.mono ?_; rintro e w8 ⟨p8, c8, rfl, hT8, hB8⟩; have HT8 := Lib.hid hT8; have HP8 := Lib.hid (HP7.out.below hB8 (Nat.le_refl _)); have HB8 := Lib.hid (HB7.out.trans (hB8.mono HB7.out.size)); clear hT8 hB8)
      have HMG := Lib.hid (mag_ok p8 m c8 (relI xs) w8 HTX.out HT8.out)
      clear HF
      go_upto_region 16 with (go_at_call 23; refine HMG.out.mono ?_; rintro e w9 ⟨L', rfl, hL', hB9⟩; rw [hL'.unique HL2.out]; have HT9 := Lib.hid (HT8.out.below hB9 (Nat.le_refl _)); have HP9 := Lib.hid (HP8.out.below hB9 (Nat.le_refl _)); have HB9 := Lib.hid (HB8.out.trans (hB9.mono HB8.out.size)); clear hL' hB9)
      have HIV := Lib.hid (ivs_no p8 m c8 (relI xs) L2 w9 HTX.out HL2.out HNX.out (HT.out.below HB9.out (Nat.le_refl _)) HT9.out)
      clear HMG
      go_upto_region 17 with (go_at_call 24; refine HIV.out.mono ?_; rintro e w10 ⟨q10, c10, rfl, hQ10, hB10⟩; have HQ10 := Lib.hid hQ10; have HP10 := Lib.hid (HP9.out.below hB10 (Nat.le_refl _)); have HB10 := Lib.hid (HB9.out.trans (hB10.mono HB9.out.size)); clear hQ10 hB10)
      clear HIV
      have HE1 := Lib.hid (ends_canon q10 m c10 (relI xs) L2 w10 HTX.out HL2.out HNX.out HQ10.out)
      have HE2 : Hid (∀ V, Below w10.heap.size w10 V → Calls Tryd.prog 32 #[.slice p6 m c6] V fun e w' => (∃ z : Nat, e = .returned (.int .i64 (z : Int)) ∧ L2.length ≤ z) ∧ Below V.heap.size V w') := fun V hV => by
        have := ends_any p6 c6 xs V HXL.out (HP10.out.below hV (Nat.le_refl _))
        rw [HM.out] at this
        refine this.mono ?_
        rintro e w' ⟨all, rfl, hE, hB⟩
        have hl2 := HL2.out
        rw [← HM.out] at hl2 hE
        exact ⟨⟨_, rfl, relI_few hl2 hE⟩, hB⟩
      obtain ⟨ll, hll⟩ : ∃ ll, Hid (L2.length = ll) := ⟨_, rfl⟩
      rw [hll.out] at HE1 HE2 ⊢
      clear hll
      go_wp2_with (first
        | (go_at_call 32; with_reducible refine HE1.out.mono ?_; rintro e w11 ⟨rfl, hB11⟩; have HB11 := Lib.hid hB11; have HE3 := Lib.hid (HE2.out w11 hB11); clear hB11)
        | (go_at_call 32; with_reducible refine HE3.out.mono ?_; rintro e w12 ⟨⟨z, rfl, hz⟩, hB12⟩; have hzz : (ll : Int) ≤ (z : Int) := (by omega); have HB12 := Lib.hid (HB10.out.trans ((HB11.out.trans (hB12.mono HB11.out.size)).mono HB10.out.size)); have HAW := Lib.hid (HAWA.out w12 HB12.out); clear hB12)
        | (go_at_call 17; refine HAW.out.mono ?_; rintro e w13 ⟨rfl, hB13⟩; have HB13 := Lib.hid (HB12.out.trans (hB13.mono HB12.out.size)); clear hB13))
      go_ret
      exact ⟨rfl, HB13.out⟩
    · have g0 : (cc != 0) = true := by rw [bne_iff_ne]; exact h0
      have HAW := Lib.hid (fun q => HAWA.out (w6.drewN q) (below_dr HB6.out q))
      go_wp2_with (first
        | (go_at_call 16; refine HRI.out.mono ?_; rintro e w7 ⟨rfl, q7, hw7⟩; subst hw7)
        | (go_at_call 17; refine (HAW.out _).mono ?_; rintro e w13 ⟨rfl, hB13⟩; have HB13 := Lib.hid (HB6.out.trans (((below_dr (Below.refl w6.heap.size _) q7).trans hB13).mono HB6.out.size)); clear hB13))
      go_ret
      exact ⟨rfl, HB13.out⟩
end Go.Proofs.YtgpijajgaclhfaaDoor
