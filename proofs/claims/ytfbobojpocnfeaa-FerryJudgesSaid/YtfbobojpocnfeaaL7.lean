/- FerryAlcuin: the walk of the law. -/
import Derived.Test.YtfbobojpocnfeaaL3
namespace Go.Proofs.Ytfbobojpocnfeaa
open Go.RowKit Go.Shelf

theorem um6 (z : Int) : ∃ r : Nat, r < 6 ∧ wrap64 (1 + wrap64 ((IntKind.u64.wrap z).tmod 6)) = ((1 + r : Nat) : Int) := by
  have h := um_lt z (show 1 ≤ 6 by decide)
  refine ⟨um z 6, h, ?_⟩
  have := um_eq z 6
  rw [show (((6 : Nat)) : Int) = 6 from rfl] at this
  rw [this, IntWalk.wrap64_in ((um z 6 : Nat) : Int) (by omega), IntWalk.wrap64_in _ (by omega)]; omega
theorem addE_keeps {g : List Nat} {x y i j : Nat} (hxy : x ≠ y) (hx : x < g.length) (hy : y < g.length) (h : (nb g i).testBit j = true) : (nb (addE g x y) i).testBit j = true := by
  unfold nb at *
  rw [addE_at g x y i hxy hx hy]
  by_cases a1 : i = x
  · subst a1; rw [if_pos rfl, Nat.testBit_or, h]; rfl
  · rw [if_neg a1]
    by_cases a2 : i = y
    · subst a2; rw [if_pos rfl, Nat.testBit_or, h]; rfl
    · rw [if_neg a2]; exact h
theorem foldE_edge : ∀ (ps : List (Int × Int)) (g : List Nat), (∀ e ∈ ps, 0 ≤ e.1 ∧ e.1 < e.2 ∧ e.2 < (g.length : Int)) → (∀ i j, (nb g i).testBit j = true → (nb (ps.foldl (fun g e => addE g e.1.toNat e.2.toNat) g) i).testBit j = true) ∧ ∀ e ∈ ps, (nb (ps.foldl (fun g e => addE g e.1.toNat e.2.toNat) g) e.1.toNat).testBit e.2.toNat = true
  | [], _, _ => ⟨fun _ _ h => h, fun e h => by cases h⟩
  | e :: ps, g, hp => by
    have he := hp e List.mem_cons_self
    obtain ⟨h1, h2⟩ := foldE_edge ps (addE g e.1.toNat e.2.toNat) (fun e' he' => by rw [addE_length]; exact hp e' (List.mem_cons_of_mem _ he'))
    refine ⟨fun i j h => h1 i j (addE_keeps (by omega) (by omega) (by omega) h), fun e' he' => ?_⟩
    rcases List.mem_cons.1 he' with rfl | he'
    · refine h1 _ _ ?_
      unfold nb
      rw [addE_at g e'.1.toNat e'.2.toNat e'.1.toNat (by omega) (by omega) (by omega), if_pos rfl, Nat.testBit_or, testBit_pw]; simp
    · exact h2 e' he'
theorem ofE_edge {n : Nat} {ps : List (Int × Int)} (h : edgesB n ps = true) : ∀ e ∈ ps, (nb (ofE n ps) e.1.toNat).testBit e.2.toNat = true :=
  (foldE_edge ps _ (fun e he => by simpa using edgesB_mem h e he)).2
/-- an edge has an end in the cover -/
theorem cover_edge {n : Nat} {ps : List (Int × Int)} (hn : n ≤ 10) (h : edgesB n ps = true) {e : Int × Int} (he : e ∈ ps) : (coverF (ofE n ps)).testBit e.1.toNat = true ∨ (coverF (ofE n ps)).testBit e.2.toNat = true := by
  have hl : (ofE n ps).length = n := ofE_length n ps
  have hq := (cover_facts (ofE n ps) (by omega)).2.1
  have hb := edgesB_mem h e he
  have hed := ofE_edge h e he
  apply Classical.byContradiction
  intro hc
  have h1 : (coverF (ofE n ps)).testBit e.1.toNat = false := by
    cases x : (coverF (ofE n ps)).testBit e.1.toNat with
    | false => rfl
    | true => exact absurd (.inl x) hc
  have h2 : (coverF (ofE n ps)).testBit e.2.toNat = false := by
    cases x : (coverF (ofE n ps)).testBit e.2.toNat with
    | false => rfl
    | true => exact absurd (.inr x) hc
  have := quietB_iff.1 hq e.1.toNat (by omega) (by rw [testBit_ldiff, testBit_full, h1]; simp; omega) e.2.toNat (by rw [testBit_ldiff, testBit_full, h2]; simp; omega)
  rw [hed] at this
  cases this
theorem or_tmod (a i j : Nat) (h : a.testBit i = true ∨ a.testBit j = true) : ((shr a i ||| shr a j : Nat) : Int).tmod 2 = 1 := by
  rw [Int.tmod_eq_emod_of_nonneg (Int.natCast_nonneg _)]
  have e : (shr a i ||| shr a j) % 2 = 1 := by
    have h0 := Nat.testBit_eq_decide_div_mod_eq (x := shr a i ||| shr a j) (i := 0)
    rw [Nat.testBit_or] at h0
    have z1 : (shr a i).testBit 0 = a.testBit i := by unfold shr; rw [← Nat.shiftRight_eq_div_pow, Nat.testBit_shiftRight]; simp
    have z2 : (shr a j).testBit 0 = a.testBit j := by unfold shr; rw [← Nat.shiftRight_eq_div_pow, Nat.testBit_shiftRight]; simp
    rw [z1, z2] at h0
    simp only [Nat.pow_zero, Nat.div_one] at h0
    exact of_decide_eq_true (by rw [← h0]; rcases h with h | h <;> simp [h])
  omega
/-- what the program says of structures for a number of seats -/
theorem both_struct (m : Nat) (qs : List (Int × Int)) (a1 : Option Addr) (c1 : Nat) (w2 : World) (hG : Good m qs a1 w2) (z : Int) (hz1 : 1 ≤ z) (hz2 : z ≤ 10) : ∃ q : Bool, (q = true ↔ HasS (ofE m qs) z) ∧
    (∀ W, Below w2.heap.size w2 W → Calls Try.prog 19 #[.int .i64 m, .slice a1 qs.length c1, .int .i64 z] W fun e w' => ∃ x1 x2 x3 y1 y2 : Nat, e = .returned (.tuple #[.agg #[.int .i64 x1, .int .i64 x2, .int .i64 x3, .int .i64 y1, .int .i64 y2], .bool q, .int .i64 0]) ∧ Below W.heap.size W w' ∧
        (q = true → ∀ W', Below w2.heap.size w2 W' → Calls Try.prog 22 #[.int .i64 m, .slice a1 qs.length c1, .int .i64 z, .agg #[.int .i64 x1, .int .i64 x2, .int .i64 x3, .int .i64 y1, .int .i64 y2]] W' fun e w'' => e = .returned (.bool true) ∧ Below W'.heap.size W' w'')) := by
  have hGl : (ofE m qs).length = m := ofE_length m qs
  have hsy := ofE_sym hG.ok
  have hm2 := hG.n2
  obtain ⟨q, hq⟩ : ∃ q : Bool, (q = true ↔ HasS (ofE m qs) z) := by
    by_cases h : HasS (ofE m qs) z
    · exact ⟨true, iff_of_true rfl h⟩
    · exact ⟨false, iff_of_false (by simp) h⟩
  refine ⟨q, hq, fun W hB => ?_⟩
  refine (structure_ok m qs a1 c1 W (hG.below hB) z hz1 hz2).mono ?_
  rintro e w' ⟨l, ok, rfl, hBw, hR⟩
  rcases hR with ⟨rfl, rfl, hno⟩ | ⟨rfl, x, x1, x2, rfl, hx, hs, hy, hqx, h1, hj, h2, h3⟩
  · have : q = false := by
      cases q with
      | false => rfl
      | true =>
        obtain ⟨x, hx, hgd⟩ := good_of_has (by omega) hsy (hq.1 rfl)
        exact absurd hgd (hno x hx)
    subst this
    exact ⟨0, 0, 0, 0, 0, rfl, hBw, fun h => by cases h⟩
  · have hgd : Good1 (ofE m qs) z x := ⟨hs, hy, hqx, x1, h1, hj, x2, h2, h3⟩
    have : q = true := hq.2 (has_of_good (by omega) hx hgd)
    subst this
    have hfs : Sm (full (ofE m qs).length) := sm_full (by omega)
    refine ⟨x1, x2, _, _, _, rfl, hBw, fun _ W' hB' => ?_⟩
    have hst := structR_B (by omega) hx hs hqx h1 hj h2 h3
    have := isStructure_in m qs a1 c1 W' (hG.below hB') z hz1 x1 x2 (ldiff (ldiff x x1) x2) (joinF (ofE m qs) x1 (ldiff (full (ofE m qs).length) x)) (joinF (ofE m qs) x2 (ldiff (full (ofE m qs).length) x))
    rw [hGl] at this
    have hj3 := h3.2.1
    rw [hGl] at hst ⊢
    rw [hGl] at hx hfs hj3 hj
    have := this (h1.trans hx).le (Nat.le_trans h2.le (Nat.le_trans (ldiff_le _ _) hx.le)) (Nat.le_trans (ldiff_le _ _) (Nat.le_trans (ldiff_le _ _) hx.le)) (Nat.le_trans (joinF_spec (sm_ldiff _ hfs) hj).1.le (ldiff_le _ _)) (Nat.le_trans (joinF_spec (sm_ldiff _ hfs) hj3).1.le (ldiff_le _ _))
    rw [hst] at this
    exact this
/-- the program's IsPlan takes a shortest plan -/
theorem isPlan_true (m : Nat) (qs : List (Int × Int)) (a1 : Option Addr) (c1 : Nat) (W : World) (hG : Good m qs a1 W) (z : Nat) (ad : Addr) (c L : Nat) (ps : List Nat) (hL : ps.length = L) (hLm : L ≤ 2 * m + 1) (hp : isPath (ofE m qs) z (start (ofE m qs)) ps goal) (hi : Ints W (some ad) (ps.map fun (p : Nat) => (p : Int))) :
    Calls Try.prog 18 #[.int .i64 m, .slice a1 qs.length c1, .int .i64 (z : Int), .slice (some ad) L c] W fun e w' => e = .returned (.bool true) ∧ Below W.heap.size W w' := by
  have hGl : (ofE m qs).length = m := ofE_length m qs
  have hl : (ps.map fun (p : Nat) => (p : Int)).length = L := by simp [hL]
  have hm2 := hG.n2
  obtain ⟨j1, j2⟩ := path_judged hp
  have := isPlan_ok m qs a1 c1 W hG z (by omega) (some ad) (ps.map fun (p : Nat) => (p : Int)) c hi (by omega) (by omega) (fun x hx => by
    obtain ⟨p, hp', rfl⟩ := List.mem_map.1 hx
    have h1 := path_within ps _ _ (within_refl _) hp p hp'
    have h2 : full (ofE m qs).length < 1048576 := sm_full (by omega)
    omega)
  rw [hl, j1] at this
  exact this
theorem plan14 (m : Nat) (qs : List (Int × Int)) (a1 : Option Addr) (c1 : Nat) (w2 : World) (hG : Good m qs a1 w2) (z : Nat) (hz : z ≤ 10) : ∃ (q : Bool) (L : Nat), L ≤ 2 * m + 1 ∧ (q = true ↔ ∃ ps, isPath (ofE m qs) z (start (ofE m qs)) ps goal) ∧
    (∀ W, Below w2.heap.size w2 W → Calls Try.prog 14 #[.int .i64 m, .slice a1 qs.length c1, .int .i64 (z : Int)] W fun e w' => ∃ v, e = .returned (.tuple #[v, .bool q, .int .i64 0]) ∧ Below W.heap.size W w' ∧ (q = false → v = .slice none 0 0) ∧
      (q = true → ∃ (ad : Addr) (c : Nat) (ps : List Nat), v = .slice (some ad) L c ∧ ps.length = L ∧ isPath (ofE m qs) z (start (ofE m qs)) ps goal ∧ Ints w' (some ad) (ps.map fun (p : Nat) => (p : Int)))) := by
  have hGl : (ofE m qs).length = m := ofE_length m qs
  have hsy := ofE_sym hG.ok
  have hirr := ofE_irr hG.ok
  have hm2 := hG.n2
  have hm1 := hG.n1
  by_cases hex : ∃ ps, isPath (ofE m qs) z (start (ofE m qs)) ps goal
  · obtain ⟨ps0, hp0, hmin0⟩ : ∃ ps, isPath (ofE m qs) z (start (ofE m qs)) ps goal ∧ ∀ qs', isPath (ofE m qs) z (start (ofE m qs)) qs' goal → ps.length ≤ qs'.length := by
      have key : ∀ n, (∃ ps, isPath (ofE m qs) z (start (ofE m qs)) ps goal ∧ ps.length ≤ n) → ∃ ps, isPath (ofE m qs) z (start (ofE m qs)) ps goal ∧ ∀ qs', isPath (ofE m qs) z (start (ofE m qs)) qs' goal → ps.length ≤ qs'.length := by
        intro n
        induction n with
        | zero => rintro ⟨ps, h1, h2⟩; exact ⟨ps, h1, fun _ _ => by omega⟩
        | succ n ih =>
          rintro ⟨ps, h1, h2⟩
          by_cases h : ∃ ps, isPath (ofE m qs) z (start (ofE m qs)) ps goal ∧ ps.length ≤ n
          · exact ih h
          · exact ⟨ps, h1, fun qs' hq => Classical.byContradiction fun hc => h ⟨qs', hq, by omega⟩⟩
      obtain ⟨ps, h⟩ := hex
      exact key ps.length ⟨ps, h, Nat.le_refl _⟩
    have hle := (shortest_le (by omega) (by omega) hirr hsy hp0 hmin0).2
    rw [hGl] at hle
    refine ⟨true, ps0.length, hle, by simp [hex], fun W hB => (plan_ok m qs a1 c1 W (hG.below hB) z hz).mono ?_⟩
    rintro e w' ⟨v, ok, rfl, hB', hR⟩
    rcases hR with ⟨_, _, hn⟩ | ⟨rfl, ps, hq, hp, hmin⟩
    · exact absurd hp0 (hn ps0)
    · have hL : ps.length = ps0.length := Nat.le_antisymm (hmin _ hp0) (hmin0 _ hp)
      have hpos : 0 < ps.length := by
        cases ps with
        | nil => exact absurd hp (start_ne _)
        | cons _ _ => simp
      obtain ⟨g, o, c, rfl, h1, h2, h3, h4, h5, h6⟩ := hq.at hpos
      refine ⟨_, rfl, hB', (fun h => by cases h), fun _ => ⟨⟨g, o, none⟩, c, ps, by rw [hL], hL, hp, fun _ => ⟨g, o, rfl, h2, fun j hj => ?_⟩⟩⟩
      rw [List.length_map] at hj
      rw [h5 j (by omega), List.getElem?_map, List.getElem?_map, List.getElem?_eq_getElem hj]
      rfl
  · refine ⟨false, 0, by omega, by simp [hex], fun W hB => (plan_ok m qs a1 c1 W (hG.below hB) z hz).mono ?_⟩
    rintro e w' ⟨v, ok, rfl, hB', hR⟩
    rcases hR with ⟨rfl, rfl, hn⟩ | ⟨rfl, ps, hq, hp, hmin⟩
    · exact ⟨_, rfl, hB', (fun _ => rfl), (fun h => by cases h)⟩
    · exact absurd ⟨ps, hp⟩ hex
set_option maxRecDepth 100000 in
set_option maxHeartbeats 4000000 in
theorem law7 (n : Int) (a : Option Addr) (cap : Nat) (ps : List (Int × Int)) (seats : Int) (w : World) (h : PairsIn w a cap ps) (_ : (Lit.int .i64 n).wf = true) (_ : (Lit.int .i64 seats).wf = true) :
    Calls Try.prog 7 #[.int .i64 n, .slice a ps.length cap, .int .i64 seats] w fun e w' => e = .returned (.bool true) ∧ Below w.heap.size w w' := by
  have HT := Lib.hid (tame_any n a cap ps 9 w h (by decide) (by decide))
  clear h
  generalize ps.length = len at *
  obtain ⟨r, hr, hur⟩ := um6 seats
  go_enter Try.func7, Try.ntmps7
  go_upto_region 3 with (first
    | (go_at_call 10; refine (HT.out).mono ?_; rintro e w2 ⟨m, qs, a1, c1, rfl, hm, hG, hB1⟩; have HG := Lib.hid hG; have HB1 := Lib.hid hB1; clear hG hB1; try dsimp only))
  simp only [hur]
  have hGl : (ofE m qs).length = m := ofE_length m qs
  have hsm := ofE_sm HG.out.n2 HG.out.ok
  have hsy := ofE_sym HG.out.ok
  have hirr := ofE_irr HG.out.ok
  have hok := HG.out.ok
  have hm2 := HG.out.n2
  have hm1 := HG.out.n1
  have hql := HG.out.hl
  obtain ⟨z, hzr⟩ : ∃ z, z = 1 + r := ⟨_, rfl⟩
  rw [← hzr]
  have hz1 : 1 ≤ z := by omega
  have hz2 : z ≤ 6 := by omega
  clear hur hzr
  have KG : Hid (∀ W, Below w2.heap.size w2 W → Good m qs a1 W) := fun W hB => HG.out.below hB
  obtain ⟨q, hq, K19⟩ := both_struct m qs a1 c1 w2 HG.out z (by omega) (by omega)
  obtain ⟨q', L, hLm, hq', K14⟩ : ∃ (q : Bool) (L : Nat), L ≤ 2 * m + 1 ∧ (q = true ↔ ∃ ps, isPath (ofE m qs) z (start (ofE m qs)) ps goal) ∧ (∀ W, Below w2.heap.size w2 W → Calls Try.prog 14 #[.int .i64 m, .slice a1 qs.length c1, .int .i64 (z : Int)] W fun e w' => ∃ v, e = .returned (.tuple #[v, .bool q, .int .i64 0]) ∧ Below W.heap.size W w' ∧ (q = false → v = .slice none 0 0) ∧
      (q = true → ∃ (ad : Addr) (c : Nat) (ps : List Nat), v = .slice (some ad) L c ∧ ps.length = L ∧ isPath (ofE m qs) z (start (ofE m qs)) ps goal ∧ Ints w' (some ad) (ps.map fun (p : Nat) => (p : Int)))) := plan14 m qs a1 c1 w2 HG.out z (by omega)
  obtain ⟨lm, l1, l2, l3, l4, l5, l6⟩ := least_seats (g := ofE m qs) (by omega) (by omega) hirr
  have hqq : q' = q := by
    have : q' = true ↔ q = true := hq'.trans (Iff.trans ⟨fun ⟨ps, hp⟩ => struct_of_plan (by omega) (by omega) hirr hz1 hp, fun h => let ⟨ps, hp, _⟩ := plan_of_struct (by omega) hsy h; ⟨ps, hp⟩⟩ hq.symm)
    cases q <;> cases q' <;> simp_all
  subst hqq
  have hge : q' = true ↔ lm ≤ z := hq'.trans ⟨fun ⟨ps, hp⟩ => Classical.byContradiction fun hc => l6 z hz1 (by omega) ps hp, fun h => let ⟨ps, hp⟩ := l5; ⟨ps, isPath_more h ps _ _ hp⟩⟩
  have KL : Hid (∀ W, Below w2.heap.size w2 W → Calls Try.prog 12 #[.int .i64 m, .slice a1 qs.length c1] W fun e w' => e = .returned (.tuple #[.int .i64 lm, .int .i64 0]) ∧ Below W.heap.size W w') := fun W hB => least_ok m qs a1 c1 W (KG.out W hB) lm l1 l2 l3 l5 (fun s h1 _ h3 => l6 s h1 h3)
  have KC : Hid (∀ W, Below w2.heap.size w2 W → Calls Try.prog 24 #[.int .i64 m, .slice a1 qs.length c1] W fun e w' => e = .returned (.tuple #[.int .i64 (coverF (ofE m qs)), .int .i64 0]) ∧ Below W.heap.size W w') := fun W hB => cover_ok m qs a1 c1 W (KG.out W hB)
  have hcs : Sm (coverF (ofE m qs)) := coverF_sm (by omega)
  have HED : Hid (∀ e ∈ qs, ((shr (coverF (ofE m qs)) e.1.toNat ||| shr (coverF (ofE m qs)) e.2.toNat : Nat) : Int).tmod 2 = 1) := fun e he => or_tmod _ _ _ (cover_edge hm2 hok he)
  have KP : Hid (∀ W, Below w2.heap.size w2 W → ∀ (ad : Addr) (c : Nat) (ps : List Nat), ps.length = L → isPath (ofE m qs) z (start (ofE m qs)) ps goal → Ints W (some ad) (ps.map fun (p : Nat) => (p : Int)) → Calls Try.prog 18 #[.int .i64 m, .slice a1 qs.length c1, .int .i64 (z : Int), .slice (some ad) L c] W fun e w' => e = .returned (.bool true) ∧ Below W.heap.size W w') := fun W hB ad c ps hL hp hi => isPlan_true m qs a1 c1 W (KG.out W hB) z ad c L ps hL hLm hp hi
  have H19 := Lib.hid K19
  have H14 := Lib.hid K14
  have HOK := Lib.hid (edgesB_mem hok)
  have HPR := Lib.hid (HG.out.hg)
  have KB := Lib.hid (Below.refl w2.heap.size w2)
  have hszc : size (coverF (ofE m qs)) ≤ 10 := by omega
  have KS : Hid (∀ W, Calls Try.prog 25 #[.int .i64 (coverF (ofE m qs) : Int)] W fun e w' => e = .returned (.int .i64 (size (coverF (ofE m qs)))) ∧ w' = W) := fun W => size_any _ W hcs
  have hl2 : ((L : Nat) : Int) ≤ 2 * (m : Int) + 1 := by omega
  clear K19 K14 hq hq' l5 l6 HG HT hsm hsy hirr hGl hok
  obtain ⟨sc, hsc⟩ : ∃ sc, Hid (sc = size (coverF (ofE m qs))) := ⟨_, rfl⟩
  rw [← hsc.out] at KS l2 l4 hszc
  obtain ⟨cv, hcv⟩ : ∃ cv, Hid (cv = coverF (ofE m qs)) := ⟨_, rfl⟩
  rw [← hcv.out] at KS KC HED hcs
  obtain ⟨ql, hqle⟩ : ∃ ql, Hid (ql = qs.length) := ⟨_, rfl⟩
  rw [← hqle.out] at KC KL H19 H14 KP hql ⊢
  have hL1 : L ≤ 21 := by omega
  cases q'
  · have hlt : ¬ ((lm : Nat) : Int) ≤ (z : Int) := by have h := hge; simp at h; omega
    clear hge
    go_upto_region 5 with (first
      | (go_at_call 14; refine (H14.out _ KB.out).mono ?_; rintro e w5 ⟨v, rfl, hB5, hf0, hst⟩; have HB5 := Lib.hid (KB.out.trans (hB5.mono KB.out.size)); obtain rfl := hf0 rfl; clear hB5 hf0 hst; try dsimp only)
      | (go_at_call 19; refine (H19.out _ HB5.out).mono ?_; rintro e w3 ⟨y0, y1, y2, y3, y4, rfl, hB3, hst⟩; have HB3 := Lib.hid (HB5.out.trans (hB3.mono HB5.out.size)); clear hB3 hst; try dsimp only))
    have hBox : BoxN (w3.alloc (.cells #[.int .i64 (y0 : Int), .int .i64 (y1 : Int), .int .i64 (y2 : Int), .int .i64 (y3 : Int), .int .i64 (y4 : Int)] 40)) w3.heap.size 40 #[.int .i64 (y0 : Int), .int .i64 (y1 : Int), .int .i64 (y2 : Int), .int .i64 (y3 : Int), .int .i64 (y4 : Int)] := BoxN.new rfl
    have HBY : Hid (Below w2.heap.size w2 (w3.alloc (.cells #[.int .i64 (y0 : Int), .int .i64 (y1 : Int), .int .i64 (y2 : Int), .int .i64 (y3 : Int), .int .i64 (y4 : Int)] 40))) := HB3.out.alloc HB3.out.size _
    have HBOX := Lib.hid hBox
    clear hBox
    generalize (w3.alloc (.cells #[.int .i64 (y0 : Int), .int .i64 (y1 : Int), .int .i64 (y2 : Int), .int .i64 (y3 : Int), .int .i64 (y4 : Int)] 40)) = Y at *
    go_wp2_with (first
      | (go_at_call 12; refine (KL.out _ HBY.out).mono ?_; rintro e w6 ⟨rfl, hB6⟩; have HB6 := Lib.hid (HBY.out.trans (hB6.mono HBY.out.size)); clear hB6; try dsimp only)
      | (go_at_call 24; refine (KC.out _ HB6.out).mono ?_; rintro e w7 ⟨rfl, hB7⟩; have HBX := Lib.hid (HB6.out.trans (hB7.mono HB6.out.size)); clear hB7; try dsimp only)
      | (go_at_call 25; refine (KS.out _).mono ?_; rintro e w8 ⟨rfl, hw⟩; subst hw; try dsimp only))
    go_loopw [19] (fun s19 wr => ∃ j : Nat, j ≤ ql ∧ s19 = .int .i64 j ∧ Hid (Below w2.heap.size w2 wr)) (fun s19 _ => ql - (intOf s19).toNat)
    case atStart => exact ⟨0, Nat.zero_le _, rfl, HBX⟩
    case round =>
      obtain ⟨j, hj, rfl, hB⟩ := hrel
      by_cases hjl : j < ql
      · have hjl' : j < qs.length := by rw [← hqle.out]; exact hjl
        obtain ⟨b, off, rfl, hblt, hcell⟩ := HPR.out (by intro h; rw [h] at hjl'; simp at hjl')
        obtain ⟨c1', c2'⟩ := hcell j hjl'
        obtain ⟨⟨u, v⟩, he⟩ : ∃ e, qs[j]? = some e := ⟨_, List.getElem?_eq_getElem hjl'⟩
        have hmem := List.mem_of_getElem? he
        obtain ⟨e1, e2, e3⟩ := HOK.out _ hmem
        have hed := HED.out _ hmem
        rw [he] at c1' c2'
        simp only [Option.getD_some] at c1' c2' e1 e2 e3 hed
        obtain ⟨un, rfl⟩ : ∃ un : Nat, u = un := ⟨u.toNat, by omega⟩
        obtain ⟨vn, rfl⟩ : ∃ vn : Nat, v = vn := ⟨v.toNat, by omega⟩
        have d1 : wr.cell? ⟨b, off + j * 2, none⟩ = some (.int .i64 (un : Int)) := (hB.out.cell (p := ⟨b, off + j * 2, none⟩) hblt).trans c1'
        have d2 : wr.cell? ⟨b, off + j * 2 + 1, none⟩ = some (.int .i64 (vn : Int)) := (hB.out.cell (p := ⟨b, off + j * 2 + 1, none⟩) hblt).trans c2'
        rw [Int.toNat_natCast, Int.toNat_natCast] at hed
        have hji : ((j : Nat) : Int) < (ql : Int) := by omega
        have hj0 : (0 : Int) ≤ ((j : Nat) : Int) := by omega
        have hu0 : (0 : Int) ≤ ((un : Nat) : Int) := by omega
        have hv0 : (0 : Int) ≤ ((vn : Nat) : Int) := by omega
        have hun : un < 10 := by omega
        have hvn : vn < 10 := by omega
        have hj1 : IntKind.i64.wrap ((j : Int) + 1) = (j : Int) + 1 := by rw [IntWalk.i64_in _ (by omega)]
        clear c1' c2' he hcell hjl' hmem e1 e2 e3
        go_wp2
        go_quiet (fail)
        go_wp2
        exact ⟨⟨j + 1, by omega, by go_num, Lib.hid (below_dr hB.out nq)⟩, by simp [intOf]; omega⟩
      · have hji : ¬ ((j : Nat) : Int) < (ql : Int) := by omega
        have t1 : (1 : Int) ≤ (lm : Int) := by omega
        have t2 : ((sc : Nat) : Int) ≤ (lm : Int) := by omega
        have t3 : ((lm : Nat) : Int) ≤ (sc : Int) + 1 := by omega
        go_wp2_with (go_at_call 17; refine (awake_any _).mono ?_; rintro e w9 ⟨rfl, hB9⟩; try dsimp only)
        go_ret
        exact ⟨rfl, HB1.out.trans ((hB.out.trans (hB9.mono hB.out.size)).mono HB1.out.size)⟩
  · have hlt : ((lm : Nat) : Int) ≤ (z : Int) := by have h := hge; simp at h; omega
    clear hge
    go_upto_region 5 with (first
      | (go_at_call 14; refine (H14.out _ KB.out).mono ?_; rintro e w5 ⟨v, rfl, hB5, hf0, hst⟩; have HB5 := Lib.hid (KB.out.trans (hB5.mono KB.out.size)); obtain ⟨ad, c, pl, rfl, g1, g2, g3⟩ := hst rfl; have HG1 := Lib.hid g1; have HG2 := Lib.hid g2; have HG3 := Lib.hid g3; clear hB5 hf0 hst g1 g2 g3; try dsimp only)
      | (go_at_call 19; refine (H19.out _ HB5.out).mono ?_; rintro e w3 ⟨y0, y1, y2, y3, y4, rfl, hB3, hst⟩; have HST := Lib.hid (hst rfl); have HI3 := Lib.hid (HG3.out.below hB3 (Nat.le_refl _)); have HB3 := Lib.hid (HB5.out.trans (hB3.mono HB5.out.size)); clear hB3 hst; try dsimp only))
    have hBox : BoxN (w3.alloc (.cells #[.int .i64 (y0 : Int), .int .i64 (y1 : Int), .int .i64 (y2 : Int), .int .i64 (y3 : Int), .int .i64 (y4 : Int)] 40)) w3.heap.size 40 #[.int .i64 (y0 : Int), .int .i64 (y1 : Int), .int .i64 (y2 : Int), .int .i64 (y3 : Int), .int .i64 (y4 : Int)] := BoxN.new rfl
    have HBY : Hid (Below w2.heap.size w2 (w3.alloc (.cells #[.int .i64 (y0 : Int), .int .i64 (y1 : Int), .int .i64 (y2 : Int), .int .i64 (y3 : Int), .int .i64 (y4 : Int)] 40))) := HB3.out.alloc HB3.out.size _
    have HBOX := Lib.hid hBox
    clear hBox
    have HIY : Hid (Ints (w3.alloc (.cells #[.int .i64 (y0 : Int), .int .i64 (y1 : Int), .int .i64 (y2 : Int), .int .i64 (y3 : Int), .int .i64 (y4 : Int)] 40)) (some ad) (pl.map fun (p : Nat) => (p : Int))) := HI3.out.below ((Below.refl _ w3).alloc (Nat.le_refl _) _) (Nat.le_refl _)
    generalize w3.heap.size = bY at *
    generalize (w3.alloc (.cells #[.int .i64 (y0 : Int), .int .i64 (y1 : Int), .int .i64 (y2 : Int), .int .i64 (y3 : Int), .int .i64 (y4 : Int)] 40)) = Y at *
    go_wp2_with (first
      | (go_at_call 12; refine (KL.out _ HBY.out).mono ?_; rintro e w6 ⟨rfl, hB6⟩; have HI6 := Lib.hid (HIY.out.below hB6 (Nat.le_refl _)); have HBO6 := Lib.hid (HBOX.out.below hB6 HBOX.out.lt); have HB6 := Lib.hid (HBY.out.trans (hB6.mono HBY.out.size)); clear hB6; try dsimp only)
      | (go_at_call 24; refine (KC.out _ HB6.out).mono ?_; rintro e w7 ⟨rfl, hB7⟩; have HI7 := Lib.hid (HI6.out.below hB7 (Nat.le_refl _)); have HBO7 := Lib.hid (HBO6.out.below hB7 HBO6.out.lt); have HB7 := Lib.hid (HB6.out.trans (hB7.mono HB6.out.size)); clear hB7; try dsimp only)
      | (go_at_call 18; refine (KP.out _ HB7.out ad c pl HG1.out HG2.out HI7.out).mono ?_; rintro e w8 ⟨rfl, hB8⟩; obtain ⟨l0, l1', l2', l3', l4', _⟩ := res5 (HBO7.out.below hB8 HBO7.out.lt); have HB8 := Lib.hid (HB7.out.trans (hB8.mono HB7.out.size)); clear hB8; try dsimp only)
      | (go_at_call 22; refine (HST.out _ HB8.out).mono ?_; rintro e w9 ⟨rfl, hB9⟩; have HBX := Lib.hid (HB8.out.trans (hB9.mono HB8.out.size)); clear hB9; try dsimp only)
      | (go_at_call 25; refine (KS.out _).mono ?_; rintro e w8 ⟨rfl, hw⟩; subst hw; try dsimp only))
    go_loopw [19] (fun s19 wr => ∃ j : Nat, j ≤ ql ∧ s19 = .int .i64 j ∧ Hid (Below w2.heap.size w2 wr)) (fun s19 _ => ql - (intOf s19).toNat)
    case atStart => exact ⟨0, Nat.zero_le _, rfl, HBX⟩
    case round =>
      obtain ⟨j, hj, rfl, hB⟩ := hrel
      by_cases hjl : j < ql
      · have hjl' : j < qs.length := by rw [← hqle.out]; exact hjl
        obtain ⟨b, off, rfl, hblt, hcell⟩ := HPR.out (by intro h; rw [h] at hjl'; simp at hjl')
        obtain ⟨c1', c2'⟩ := hcell j hjl'
        obtain ⟨⟨u, v⟩, he⟩ : ∃ e, qs[j]? = some e := ⟨_, List.getElem?_eq_getElem hjl'⟩
        have hmem := List.mem_of_getElem? he
        obtain ⟨e1, e2, e3⟩ := HOK.out _ hmem
        have hed := HED.out _ hmem
        rw [he] at c1' c2'
        simp only [Option.getD_some] at c1' c2' e1 e2 e3 hed
        obtain ⟨un, rfl⟩ : ∃ un : Nat, u = un := ⟨u.toNat, by omega⟩
        obtain ⟨vn, rfl⟩ : ∃ vn : Nat, v = vn := ⟨v.toNat, by omega⟩
        have d1 : wr.cell? ⟨b, off + j * 2, none⟩ = some (.int .i64 (un : Int)) := (hB.out.cell (p := ⟨b, off + j * 2, none⟩) hblt).trans c1'
        have d2 : wr.cell? ⟨b, off + j * 2 + 1, none⟩ = some (.int .i64 (vn : Int)) := (hB.out.cell (p := ⟨b, off + j * 2 + 1, none⟩) hblt).trans c2'
        rw [Int.toNat_natCast, Int.toNat_natCast] at hed
        have hji : ((j : Nat) : Int) < (ql : Int) := by omega
        have hj0 : (0 : Int) ≤ ((j : Nat) : Int) := by omega
        have hu0 : (0 : Int) ≤ ((un : Nat) : Int) := by omega
        have hv0 : (0 : Int) ≤ ((vn : Nat) : Int) := by omega
        have hun : un < 10 := by omega
        have hvn : vn < 10 := by omega
        have hj1 : IntKind.i64.wrap ((j : Int) + 1) = (j : Int) + 1 := by rw [IntWalk.i64_in _ (by omega)]
        clear c1' c2' he hcell hjl' hmem e1 e2 e3
        go_wp2
        go_quiet (fail)
        go_wp2
        exact ⟨⟨j + 1, by omega, by go_num, Lib.hid (below_dr hB.out nq)⟩, by simp [intOf]; omega⟩
      · have hji : ¬ ((j : Nat) : Int) < (ql : Int) := by omega
        have t1 : (1 : Int) ≤ (lm : Int) := by omega
        have t2 : ((sc : Nat) : Int) ≤ (lm : Int) := by omega
        have t3 : ((lm : Nat) : Int) ≤ (sc : Int) + 1 := by omega
        go_wp2_with (go_at_call 17; refine (awake_any _).mono ?_; rintro e w9 ⟨rfl, hB9⟩; try dsimp only)
        go_ret
        exact ⟨rfl, HB1.out.trans ((hB.out.trans (hB9.mono hB.out.size)).mono HB1.out.size)⟩
end Go.Proofs.Ytfbobojpocnfeaa
