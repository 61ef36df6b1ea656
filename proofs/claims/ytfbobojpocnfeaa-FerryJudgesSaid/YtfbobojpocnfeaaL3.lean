/- FerryPlans: the walk of the law. -/
import Derived.Test.YtfbobojpocnfeaaLs
import Derived.Test.YtfbobojpocnfeaaL5
namespace Go.Proofs.Ytfbobojpocnfeaa
open Go.RowKit Go.Shelf

/-- what both say of a number of seats: whether there is a plan, how long a shortest one is, and that it is one -/
theorem both_plan (m : Nat) (qs : List (Int × Int)) (a1 : Option Addr) (c1 b : Nat) (w2 : World) (hG : Good m qs a1 w2) (hS : Sets w2 (some ⟨b, 0, none⟩) (ofE m qs)) (z : Nat) (hz : z ≤ 10) : ∃ (q : Bool) (L : Nat), L ≤ 2 * m + 1 ∧ (q = true ↔ ∃ ps, isPath (ofE m qs) z (start (ofE m qs)) ps goal) ∧ (∀ W, Below w2.heap.size w2 W → Calls Try.prog 15 #[.slice (some ⟨b, 0, none⟩) m m, .int .i64 (z : Int)] W fun e w' => e = .returned (.int .i64 (if q then (L : Int) else -1)) ∧ Below W.heap.size W w') ∧
    (∀ W, Below w2.heap.size w2 W → Calls Try.prog 14 #[.int .i64 m, .slice a1 qs.length c1, .int .i64 (z : Int)] W fun e w' => ∃ v, e = .returned (.tuple #[v, .bool q, .int .i64 0]) ∧ Below W.heap.size W w' ∧ (q = false → v = .slice none 0 0) ∧
      (q = true → ∃ (ad : Addr) (c : Nat) (ps : List Nat), v = .slice (some ad) L c ∧ ps.length = L ∧ isPath (ofE m qs) z (start (ofE m qs)) ps goal ∧ Ints w' (some ad) (ps.map fun (p : Nat) => (p : Int)))) := by
  have hGl : (ofE m qs).length = m := ofE_length m qs
  have hsm := ofE_sm hG.n2 hG.ok
  have hsy := ofE_sym hG.ok
  have hirr := ofE_irr hG.ok
  have hm2 := hG.n2
  have hm1 := hG.n1
  have hKG : ∀ W, Below w2.heap.size w2 W → Good m qs a1 W ∧ Sets W (some ⟨b, 0, none⟩) (ofE m qs) := fun W hB => ⟨hG.below hB, hS.below hB⟩
  have KT : ∀ W, Below w2.heap.size w2 W → Calls Try.prog 15 #[.slice (some ⟨b, 0, none⟩) m m, .int .i64 (z : Int)] W fun e w' => ∃ r : Int, e = .returned (.int .i64 r) ∧ TripsR (ofE m qs) z r ∧ Below W.heap.size W w' := fun W hB => by
    have := trips_any (some ⟨b, 0, none⟩) m (ofE m qs) z W (by omega) hsm (hKG W hB).2
    rw [hGl] at this
    exact this
  by_cases hex : ∃ ps, isPath (ofE m qs) z (start (ofE m qs)) ps goal
  · obtain ⟨ps0, hp0, hmin0⟩ : ∃ ps, isPath (ofE m qs) z (start (ofE m qs)) ps goal ∧ ∀ qs', isPath (ofE m qs) z (start (ofE m qs)) qs' goal → ps.length ≤ qs'.length := by
      have key : ∀ n, (∃ ps, isPath (ofE m qs) z (start (ofE m qs)) ps goal ∧ ps.length ≤ n) → ∃ ps, isPath (ofE m qs) z (start (ofE m qs)) ps goal ∧ ∀ qs', isPath (ofE m qs) z (start (ofE m qs)) qs' goal → ps.length ≤ qs'.length := by
        intro n
        induction n with
        | zero => rintro ⟨ps, h1, h2⟩; exact ⟨ps, h1, fun _ _ => by omega⟩
        | succ n ih =>
          rintro ⟨ps, h1, h2⟩
          by_cases h : ∃ ps, isPath (ofE m qs) z (start (ofE m qs)) ps goal ∧ ps.length ≤ n
          · exact ih h
          · exact ⟨ps, h1, fun qs' hq => Classical.byContradiction fun hc => h ⟨qs', hq, by omega⟩⟩
      obtain ⟨ps, h⟩ := hex
      exact key ps.length ⟨ps, h, Nat.le_refl _⟩
    have hle := (shortest_le (by omega) (by omega) hirr hsy hp0 hmin0).2
    rw [hGl] at hle
    refine ⟨true, ps0.length, hle, by simp [hex], fun W hB => (KT W hB).mono ?_, fun W hB => (plan_ok m qs a1 c1 W (hKG W hB).1 z hz).mono ?_⟩
    · rintro e w' ⟨r, rfl, hR, hB'⟩
      refine ⟨?_, hB'⟩
      rcases hR with ⟨_, hn⟩ | ⟨ps, rfl, hps, hmin⟩
      · exact absurd hp0 (hn ps0)
      · rw [Int.toNat_natCast] at hps hmin
        rw [if_pos rfl, Nat.le_antisymm (hmin _ hp0) (hmin0 _ hps)]
    · rintro e w' ⟨v, ok, rfl, hB', hR⟩
      rcases hR with ⟨_, _, hn⟩ | ⟨rfl, ps, hq, hp, hmin⟩
      · exact absurd hp0 (hn ps0)
      · have hL : ps.length = ps0.length := Nat.le_antisymm (hmin _ hp0) (hmin0 _ hp)
        have hpos : 0 < ps.length := by
          cases ps with
          | nil => exact absurd hp (start_ne _)
          | cons _ _ => simp
        obtain ⟨g, o, c, rfl, h1, h2, h3, h4, h5, h6⟩ := hq.at hpos
        refine ⟨_, rfl, hB', (fun h => by cases h), fun _ => ⟨⟨g, o, none⟩, c, ps, by rw [hL], hL, hp, fun _ => ⟨g, o, rfl, h2, fun j hj => ?_⟩⟩⟩
        rw [List.length_map] at hj
        rw [h5 j (by omega), List.getElem?_map, List.getElem?_map, List.getElem?_eq_getElem hj]
        rfl
  · refine ⟨false, 0, by omega, by simp [hex], fun W hB => (KT W hB).mono ?_, fun W hB => (plan_ok m qs a1 c1 W (hKG W hB).1 z hz).mono ?_⟩
    · rintro e w' ⟨r, rfl, hR, hB'⟩
      refine ⟨?_, hB'⟩
      rcases hR with ⟨rfl, _⟩ | ⟨ps, rfl, hps, hmin⟩
      · rfl
      · rw [Int.toNat_natCast] at hps
        exact absurd ⟨ps, hps⟩ hex
    · rintro e w' ⟨v, ok, rfl, hB', hR⟩
      rcases hR with ⟨rfl, rfl, hn⟩ | ⟨rfl, ps, hq, hp, hmin⟩
      · exact ⟨_, rfl, hB', (fun _ => rfl), (fun h => by cases h)⟩
      · exact absurd ⟨ps, hp⟩ hex
theorem path_within {g : List Nat} {seats : Nat} : ∀ (ps : List Nat) (s t : St), Within s.1 (full g.length) → isPath g seats s ps t → ∀ p ∈ ps, p ≤ full g.length := by
  intro ps
  induction ps with
  | nil => intro s t _ _ p hp; cases hp
  | cons q qs ih =>
    intro s t hs h p hp
    rcases List.mem_cons.1 hp with rfl | hp
    · exact (h.1.1.trans (bank_within hs)).le
    · exact ih _ _ (next_within hs h.1) h.2 p hp
theorem risPlan_true (m : Nat) (qs : List (Int × Int)) (b : Nat) (W : World) (hm : m ≤ 10) (hok : edgesB m qs = true) (hS : Sets W (some ⟨b, 0, none⟩) (ofE m qs)) (z : Nat) (ad : Addr) (c L : Nat) (ps : List Nat) (hL : ps.length = L) (hLm : L ≤ 2 * m + 1) (hp : isPath (ofE m qs) z (start (ofE m qs)) ps goal) (hi : Ints W (some ad) (ps.map fun (p : Nat) => (p : Int))) :
    Calls Try.prog 16 #[.slice (some ⟨b, 0, none⟩) m m, .int .i64 (z : Int), .slice (some ad) L c] W fun e w' => e = .returned (.bool true) ∧ w' = W := by
  have hGl : (ofE m qs).length = m := ofE_length m qs
  have hl : (ps.map fun (p : Nat) => (p : Int)).length = L := by simp [hL]
  have := risPlan_any (some ⟨b, 0, none⟩) m (ofE m qs) z (some ad) (ps.map fun (p : Nat) => (p : Int)) c W (by omega) (ofE_sm hm hok) hS hi (by omega)
  obtain ⟨j1, j2⟩ := path_judged hp
  rw [hGl, hl, j1, show L % 2 = 1 by omega] at this
  exact this
set_option maxRecDepth 100000 in
set_option maxHeartbeats 4000000 in
theorem law3 (n : Int) (a : Option Addr) (cap : Nat) (ps : List (Int × Int)) (seats : Int) (w : World) (h : PairsIn w a cap ps) (_ : (Lit.int .i64 n).wf = true) (_ : (Lit.int .i64 seats).wf = true) :
    Calls Try.prog 3 #[.int .i64 n, .slice a ps.length cap, .int .i64 seats] w fun e w' => e = .returned (.bool true) ∧ Below w.heap.size w w' := by
  have HT := Lib.hid (tame_any n a cap ps 8 w h (by decide) (by decide))
  clear h
  generalize ps.length = len at *
  go_enter Try.func3, Try.ntmps3
  go_upto_region 3 with (first
    | (go_at_call 10; refine (HT.out).mono ?_; rintro e w1 ⟨m, qs, a1, c1, rfl, hm, hG, hB1⟩; have HG := Lib.hid hG; have HB1 := Lib.hid hB1; clear hG hB1; try dsimp only)
    | (go_at_call 11; refine (of_any m a1 c1 qs w1 HG.out).mono ?_; rintro e w2 ⟨b, rfl, hb, hS, hB2⟩; have HS := Lib.hid hS; have HB2 := Lib.hid hB2; clear hS hB2; try dsimp only))
  have hGl : (ofE m qs).length = m := ofE_length m qs
  have hsm := ofE_sm HG.out.n2 HG.out.ok
  have hsy := ofE_sym HG.out.ok
  have hirr := ofE_irr HG.out.ok
  have hok := HG.out.ok
  have hm2 := HG.out.n2
  have hm1 := HG.out.n1
  have hBW := HB1.out.trans (HB2.out.mono HB1.out.size)
  have hG2 : Good m qs a1 w2 := HG.out.below HB2.out
  have KG : Hid (∀ W, Below w2.heap.size w2 W → Good m qs a1 W ∧ Sets W (some ⟨b, 0, none⟩) (ofE m qs)) := fun W hB => ⟨hG2.below hB, HS.out.below hB⟩
  have KP : Hid (∀ z : Nat, z ≤ 10 → _) := fun z hz => both_plan m qs a1 c1 b w2 hG2 HS.out z hz
  have HBW := Lib.hid hBW
  have KO : Hid (∀ W (z : Int), Below w2.heap.size w2 W → (z < 0 ∨ 10 < z) → Calls Try.prog 14 #[.int .i64 m, .slice a1 qs.length c1, .int .i64 z] W fun e w' => e = .returned (.tuple #[.slice none 0 0, .bool false, .int .i64 1]) ∧ Below W.heap.size W w') := fun W z hB hz => plan_out m qs a1 c1 W (KG.out W hB).1 z hz
  obtain ⟨lm, l1, l2, l3, l4, l5, l6⟩ := least_seats (g := ofE m qs) (by omega) (by omega) hirr
  have KL : Hid (∀ W, Below w2.heap.size w2 W → Calls Try.prog 12 #[.int .i64 m, .slice a1 qs.length c1] W fun e w' => e = .returned (.tuple #[.int .i64 lm, .int .i64 0]) ∧ Below W.heap.size W w') := fun W hB => least_ok m qs a1 c1 W (KG.out W hB).1 lm l1 l2 l3 l5 (fun s h1 _ h3 => l6 s h1 h3)
  have KR : Hid (∀ W, Below w2.heap.size w2 W → Calls Try.prog 13 #[.slice (some ⟨b, 0, none⟩) m m] W fun e w' => e = .returned (.int .i64 lm) ∧ Below W.heap.size W w') := fun W hB => by
    have := rleast_any (some ⟨b, 0, none⟩) m (ofE m qs) W (by omega) hsm (KG.out W hB).2 lm l1 l3 l5 l6
    rw [hGl] at this
    exact this
  have HOK := Lib.hid hok
  have KB := Lib.hid (Below.refl w2.heap.size w2)
  clear l4 l5 l6 l2 HG HB1 HB2 HS hBW HT hsm hGl hsy hirr hok hG2
  generalize hql : qs.length = ql at *
  go_wp2_with (first
    | (go_at_call 12; refine (KL.out _ KB.out).mono ?_; rintro e w3 ⟨rfl, hB3⟩; have HB3 := Lib.hid hB3; clear hB3; try dsimp only)
    | (go_at_call 13; refine (KR.out _ HB3.out).mono ?_; rintro e w4 ⟨rfl, hB4⟩; have HB4 := Lib.hid (HB3.out.trans (hB4.mono HB3.out.size)); clear hB4; try dsimp only))
  go_loopw [2, 11, 12, 13, 14, 15] (fun s2 s11 _ _ _ _ wr => ∃ (k : Nat) (z : Int), k ≤ 3 ∧ s11 = .int .i64 k ∧ s2 = .int .i64 z ∧ Hid (Below w2.heap.size w2 wr)) (fun _ s11 _ _ _ _ _ => 3 - (intOf s11).toNat)
  case atStart => exact ⟨0, seats, by omega, rfl, rfl, HB4⟩
  case round =>
    obtain ⟨k, z, hk, rfl, rfl, hB⟩ := hrel
    by_cases hk2 : k < 3
    · have hki : ((k : Nat) : Int) < 3 := by omega
      by_cases hz : z < 0 ∨ 10 < z
      · have HK := Lib.hid (KO.out _ z hB.out hz)
        rcases hz with hz | hz
        all_goals
          go_wp2_with (first
            | (go_at_call 14; refine (HK.out).mono ?_; rintro e w5 ⟨rfl, hB5⟩; have HB5 := Lib.hid (hB.out.trans (hB5.mono hB.out.size)); clear hB5; try dsimp only))
          exact ⟨⟨k + 1, _, by omega, by go_num, rfl, HB5⟩, by simp [intOf]; omega⟩
      · obtain ⟨zn, rfl⟩ : ∃ zn : Nat, z = zn := ⟨z.toNat, by omega⟩
        have hz2 : zn ≤ 10 := by omega
        obtain ⟨q, L, hLm, hq, K15, K14⟩ := KP.out zn hz2
        have HK := Lib.hid (K14 _ hB.out)
        have HL := Lib.hid K15
        have HLM := Lib.hid hLm
        clear K15 K14 hz hq
        have hz0 : ¬ ((zn : Nat) : Int) < 0 := by omega
        have hz10 : ((zn : Nat) : Int) ≤ 10 := by omega
        have hL0 : ((L : Nat) : Int) = (L : Int) := rfl
        cases q
        · go_wp2_with (first
            | (go_at_call 14; refine (HK.out).mono ?_; rintro e w5 ⟨v, rfl, hB5, hf0, hst⟩; have HB5 := Lib.hid (hB.out.trans (hB5.mono hB.out.size)); obtain rfl := hf0 rfl; clear hB5 hf0 hst; try dsimp only)
            | (go_at_call 15; refine (HL.out _ HB5.out).mono ?_; rintro e w6 ⟨rfl, hB6⟩; have HB6 := Lib.hid (HB5.out.trans (hB6.mono HB5.out.size)); clear hB6; simp only [Bool.false_eq_true, if_false]; try dsimp only))
          exact ⟨⟨k + 1, _, by omega, by go_num, rfl, HB6⟩, by simp [intOf]; omega⟩
        · go_wp2_with (first
            | (go_at_call 14; refine (HK.out).mono ?_; rintro e w5 ⟨v, rfl, hB5, hf0, hst⟩; have HB5 := Lib.hid (hB.out.trans (hB5.mono hB.out.size)); obtain ⟨ad, c, pl, rfl, g1, g2, g3⟩ := hst rfl; have HG1 := Lib.hid g1; have HG2 := Lib.hid g2; have HG3 := Lib.hid g3; clear hB5 hf0 hst g1 g2 g3; try dsimp only)
            | (go_at_call 15; refine (HL.out _ HB5.out).mono ?_; rintro e w6 ⟨rfl, hB6⟩; have HI6 := Lib.hid (HG3.out.below hB6 (Nat.le_refl _)); have HB6 := Lib.hid (HB5.out.trans (hB6.mono HB5.out.size)); clear hB6; simp only [if_true]; try dsimp only)
            | (go_at_call 16; refine (risPlan_true m qs b _ (by omega) HOK.out (KG.out _ HB6.out).2 zn ad c L pl HG1.out HLM.out HG2.out HI6.out).mono ?_; rintro e w7 ⟨rfl, hw⟩; subst hw; try dsimp only))
          exact ⟨⟨k + 1, _, by omega, by go_num, rfl, HB6⟩, by simp [intOf]; omega⟩
    · have : k = 3 := by omega
      subst this
      go_wp2_with (go_at_call 17; refine (awake_any _).mono ?_; rintro e w6 ⟨rfl, hB6⟩; try dsimp only)
      go_ret
      exact ⟨rfl, HBW.out.trans ((hB.out.trans (hB6.mono hB.out.size)).mono HBW.out.size)⟩
end Go.Proofs.Ytfbobojpocnfeaa
