/- FerryJudges: the walk of the law. -/
import Derived.Test.YtfbobojpocnfeaaL7
import Derived.Test.YtfbobojpocnfeaaLp
namespace Go.Proofs.Ytfbobojpocnfeaa
open Go.RowKit Go.Shelf

/-- a region that draws its order and whose callees make memory, walked in the order of the text: each value is the same in every world that keeps what was there -/
theorem wp_region_below_lit {P : Program} {id : Nat} {Q : Exit → Act → World → Prop} {a : Act} {B : Nat} {w0 w : World} {l : List Oper} (hm : P.follows .mixedOrders = true) (hB : Region.lexB .any l.toArray = true) (h0 : Below B w0 w)
    (h : wpQuiet P l.toArray (fun W => Below B w0 W) (fun a' => ∀ W, Below B w0 W → Q .normal a' W) l a) : (Code.region id l.toArray true).wp P Q a w :=
  wp_region_quiet (C := fun W => Below B w0 W) hm hB (below_dr h0 1) (by simpa using h)
/-- what both say of any list -/
def jdg (g : List Nat) (s : Int) (xs : List Int) : Bool := decide (xs.length % 2 = 1) && judgeB g s (start g) xs
theorem isPlan_gen (m : Nat) (qs : List (Int × Int)) (a1 : Option Addr) (c1 : Nat) (W : World) (hG : Good m qs a1 W) (s : Int) (pa : Option Addr) (xs : List Int) (pc len : Nat) (hlen : len = xs.length) (hx : Ints W pa xs) (hlx : xs.length ≤ 1099511627776) (hrg : ∀ x ∈ xs, x < 9223372036854775808) :
    Calls Try.prog 18 #[.int .i64 m, .slice a1 qs.length c1, .int .i64 s, .slice pa len pc] W fun e w' => e = .returned (.bool (decide (0 ≤ s) && jdg (ofE m qs) s xs)) ∧ Below W.heap.size W w' := by
  subst hlen
  by_cases hs : 0 ≤ s
  · by_cases ho : xs.length % 2 = 1
    · have := isPlan_ok m qs a1 c1 W hG s hs pa xs pc hx hlx ho hrg
      unfold jdg
      rw [decide_eq_true hs, decide_eq_true ho]
      exact this
    · have := isPlan_out m qs a1 c1 W hG s pa xs.length pc hlx (.inr (by omega))
      unfold jdg
      rw [decide_eq_false ho, Bool.false_and, Bool.and_false]
      exact this
  · have := isPlan_out m qs a1 c1 W hG s pa xs.length pc hlx (.inl (by omega))
    rw [decide_eq_false hs, Bool.false_and]
    exact this
theorem risPlan_gen (m : Nat) (qs : List (Int × Int)) (b : Nat) (W : World) (hm : m ≤ 10) (hok : edgesB m qs = true) (hS : Sets W (some ⟨b, 0, none⟩) (ofE m qs)) (s : Int) (pa : Option Addr) (xs : List Int) (pc len : Nat) (hlen : len = xs.length) (hx : Ints W pa xs) (hlx : xs.length ≤ 1099511627776) :
    Calls Try.prog 16 #[.slice (some ⟨b, 0, none⟩) m m, .int .i64 s, .slice pa len pc] W fun e w' => e = .returned (.bool (jdg (ofE m qs) s xs)) ∧ w' = W := by
  subst hlen
  have hGl : (ofE m qs).length = m := ofE_length m qs
  have := risPlan_any (some ⟨b, 0, none⟩) m (ofE m qs) s pa xs pc W (by omega) (ofE_sm hm hok) hS hx hlx
  rw [hGl] at this
  exact this
theorem ints_of_q {W : World} {base n : Nat} {xs : List Int} {g o c : Nat} (h : QRow W base 3 1 (.slice (some ⟨g, o, none⟩) n c) n (xs.map fun x => .int .i64 x)) : Ints W (some ⟨g, o, none⟩) xs := fun hne => by
  have hn : n = xs.length := by have := h.1; simp at this; omega
  have hp : 0 < n := by rw [hn]; exact List.length_pos_iff.2 hne
  obtain ⟨g', o', c', e, h1, h2, h3, h4, h5, h6⟩ := h.at hp
  cases e
  refine ⟨g, o, rfl, h2, fun j hj => ?_⟩
  rw [h5 j (by omega), List.getElem?_map, List.getElem?_eq_getElem hj]
  rfl
theorem plan14c (m : Nat) (qs : List (Int × Int)) (a1 : Option Addr) (c1 : Nat) (w2 : World) (hG : Good m qs a1 w2) (z : Nat) (hz : z ≤ 10) : ∃ (q : Bool) (L : Nat), L ≤ 2 * m + 1 ∧ (q = true ↔ ∃ ps, isPath (ofE m qs) z (start (ofE m qs)) ps goal) ∧
    (∀ W, Below w2.heap.size w2 W → Calls Try.prog 14 #[.int .i64 m, .slice a1 qs.length c1, .int .i64 (z : Int)] W fun e w' => ∃ v, e = .returned (.tuple #[v, .bool q, .int .i64 0]) ∧ Below W.heap.size W w' ∧ (q = false → v = .slice none 0 0) ∧
      (q = true → ∃ (ad : Addr) (c : Nat) (ps : List Nat), v = .slice (some ad) L c ∧ ps.length = L ∧ isPath (ofE m qs) z (start (ofE m qs)) ps goal ∧ Ints w' (some ad) (ps.map fun (p : Nat) => (p : Int)) ∧ L ≤ c)) := by
  have hGl : (ofE m qs).length = m := ofE_length m qs
  have hsy := ofE_sym hG.ok
  have hirr := ofE_irr hG.ok
  have hm2 := hG.n2
  have hm1 := hG.n1
  by_cases hex : ∃ ps, isPath (ofE m qs) z (start (ofE m qs)) ps goal
  · obtain ⟨ps0, hp0, hmin0⟩ : ∃ ps, isPath (ofE m qs) z (start (ofE m qs)) ps goal ∧ ∀ qs', isPath (ofE m qs) z (start (ofE m qs)) qs' goal → ps.length ≤ qs'.length := by
      have key : ∀ n, (∃ ps, isPath (ofE m qs) z (start (ofE m qs)) ps goal ∧ ps.length ≤ n) → ∃ ps, isPath (ofE m qs) z (start (ofE m qs)) ps goal ∧ ∀ qs', isPath (ofE m qs) z (start (ofE m qs)) qs' goal → ps.length ≤ qs'.length := by
        intro n
        induction n with
        | zero => rintro ⟨ps, h1, h2⟩; exact ⟨ps, h1, fun _ _ => by omega⟩
        | succ n ih =>
          rintro ⟨ps, h1, h2⟩
          by_cases h : ∃ ps, isPath (ofE m qs) z (start (ofE m qs)) ps goal ∧ ps.length ≤ n
          · exact ih h
          · exact ⟨ps, h1, fun qs' hq => Classical.byContradiction fun hc => h ⟨qs', hq, by omega⟩⟩
      obtain ⟨ps, h⟩ := hex
      exact key ps.length ⟨ps, h, Nat.le_refl _⟩
    have hle := (shortest_le (by omega) (by omega) hirr hsy hp0 hmin0).2
    rw [hGl] at hle
    refine ⟨true, ps0.length, hle, by simp [hex], fun W hB => (plan_ok m qs a1 c1 W (hG.below hB) z hz).mono ?_⟩
    rintro e w' ⟨v, ok, rfl, hB', hR⟩
    rcases hR with ⟨_, _, hn⟩ | ⟨rfl, ps, hq, hp, hmin⟩
    · exact absurd hp0 (hn ps0)
    · have hL : ps.length = ps0.length := Nat.le_antisymm (hmin _ hp0) (hmin0 _ hp)
      have hpos : 0 < ps.length := by
        cases ps with
        | nil => exact absurd hp (start_ne _)
        | cons _ _ => simp
      obtain ⟨g, o, c, rfl, h1, h2, h3, h4, h5, h6⟩ := hq.at hpos
      refine ⟨_, rfl, hB', (fun h => by cases h), fun _ => ⟨⟨g, o, none⟩, c, ps, by rw [hL], hL, hp, (fun _ => ⟨g, o, rfl, h2, fun j hj => ?_⟩), by omega⟩⟩
      rw [List.length_map] at hj
      rw [h5 j (by omega), List.getElem?_map, List.getElem?_map, List.getElem?_eq_getElem hj]
      rfl
  · refine ⟨false, 0, by omega, by simp [hex], fun W hB => (plan_ok m qs a1 c1 W (hG.below hB) z hz).mono ?_⟩
    rintro e w' ⟨v, ok, rfl, hB', hR⟩
    rcases hR with ⟨rfl, rfl, hn⟩ | ⟨rfl, ps, hq, hp, hmin⟩
    · exact ⟨_, rfl, hB', (fun _ => rfl), (fun h => by cases h)⟩
    · exact absurd ⟨ps, hp⟩ hex
theorem ints_take {W : World} {a : Option Addr} {xs : List Int} (h : Ints W a xs) (k : Nat) : Ints W a (xs.take k) := fun hne => by
  obtain ⟨b, off, e, hb, hc⟩ := h (by rintro rfl; simp at hne)
  refine ⟨b, off, e, hb, fun j hj => ?_⟩
  rw [List.length_take] at hj
  rw [hc j (by omega), List.getElem?_take, if_pos (by omega)]
set_option maxRecDepth 100000 in
set_option maxHeartbeats 4000000 in
theorem law4 (n : Int) (a : Option Addr) (cap : Nat) (ps : List (Int × Int)) (pa : Option Addr) (pc : Nat) (xs : List Int) (w : World) (h : PairsIn w a cap ps) (hx : IntsIn w pa pc xs) (_ : (Lit.int .i64 n).wf = true) :
    Calls Try.prog 4 #[.int .i64 n, .slice a ps.length cap, .slice pa xs.length pc] w fun e w' => e = .returned (.bool true) ∧ Below w.heap.size w w' := by
  have HT := Lib.hid (tame_any n a cap ps 10 w h (by decide) (by decide))
  have HX := Lib.hid hx
  have hxl := Nat.le_trans hx.fits hx.capm
  have hxf := hx.fits
  have hxc := hx.capm
  unfold maxLen at hxl hxc
  clear h hx
  generalize ps.length = len at *
  obtain ⟨i0, hi, hz0, hz1, hz2⟩ := info_parts info3
  obtain ⟨xl, hxle⟩ : ∃ xl, Hid (xl = xs.length) := ⟨_, rfl⟩
  rw [← hxle.out] at hxl hxf ⊢
  have hxrg : Hid (∀ x ∈ xs, x < 9223372036854775808) := fun x hx => by have := (HX.out.lo x hx).2; omega
  go_enter Try.func4, Try.ntmps4
  go_upto_region 4 with (first
    | (go_at_call 10; refine (HT.out).mono ?_; rintro e w1 ⟨m, qs, a1, c1, rfl, hm, hG, hB1⟩; have HG := Lib.hid hG; have HB1 := Lib.hid hB1; clear hG hB1; try dsimp only)
    | (go_at_call 11; refine (of_any m a1 c1 qs w1 HG.out).mono ?_; rintro e w2 ⟨b, rfl, hb, hS, hB2⟩; have HS := Lib.hid hS; have HB2 := Lib.hid hB2; clear hS hB2; try dsimp only))
  have hGl : (ofE m qs).length = m := ofE_length m qs
  have hsm := ofE_sm HG.out.n2 HG.out.ok
  have hsy := ofE_sym HG.out.ok
  have hirr := ofE_irr HG.out.ok
  have hok := HG.out.ok
  have hm2 := HG.out.n2
  have hm1 := HG.out.n1
  have hBW := HB1.out.trans (HB2.out.mono HB1.out.size)
  have hG2 : Good m qs a1 w2 := HG.out.below HB2.out
  have KG : Hid (∀ W, Below w2.heap.size w2 W → Good m qs a1 W ∧ Sets W (some ⟨b, 0, none⟩) (ofE m qs)) := fun W hB => ⟨hG2.below hB, HS.out.below hB⟩
  obtain ⟨lm, l1, l2, l3, l4, l5, l6⟩ := least_seats (g := ofE m qs) (by omega) (by omega) hirr
  obtain ⟨q, L, hLm, hq, K14⟩ := plan14c m qs a1 c1 w2 hG2 lm l3
  obtain rfl : q = true := hq.2 l5
  have KL : Hid (∀ W, Below w2.heap.size w2 W → Calls Try.prog 12 #[.int .i64 m, .slice a1 qs.length c1] W fun e w' => e = .returned (.tuple #[.int .i64 lm, .int .i64 0]) ∧ Below W.heap.size W w') := fun W hB => least_ok m qs a1 c1 W (KG.out W hB).1 lm l1 l2 l3 l5 (fun s h1 _ h3 => l6 s h1 h3)
  have KP : Hid (∀ W, Below w2.heap.size w2 W → Calls Try.prog 14 #[.int .i64 m, .slice a1 qs.length c1, .int .i64 (lm : Int)] W fun e w' => ∃ (qb qo c : Nat) (ps : List Nat), e = .returned (.tuple #[.slice (some ⟨qb, qo, none⟩) L c, .bool true, .int .i64 0]) ∧ Below W.heap.size W w' ∧ ps.length = L ∧ isPath (ofE m qs) lm (start (ofE m qs)) ps goal ∧ Ints w' (some ⟨qb, qo, none⟩) (ps.map fun (p : Nat) => (p : Int)) ∧ L ≤ c) := fun W hB => (K14 W hB).mono fun e w' ⟨v, he, hB', _, ht⟩ => by
    obtain ⟨ad, c, ps, rfl, h1, h2, h3, h4⟩ := ht rfl
    obtain ⟨qb, qo, e', _⟩ := h3 (by
      intro h
      have : ps = [] := by simpa using h
      subst this
      exact start_ne _ h2)
    cases e'
    exact ⟨qb, qo, c, ps, he, hB', h1, h2, h3, h4⟩
  have K18 : Hid (∀ W, Below w2.heap.size w2 W → ∀ (s : Int) (pa : Option Addr) (xs : List Int) (pc len : Nat), len = xs.length → Ints W pa xs → xs.length ≤ 1000 → (∀ x ∈ xs, x < 9223372036854775808) → Calls Try.prog 18 #[.int .i64 m, .slice a1 qs.length c1, .int .i64 s, .slice pa len pc] W fun e w' => e = .returned (.bool (decide (0 ≤ s) && jdg (ofE m qs) s xs)) ∧ Below W.heap.size W w') :=
    fun W hB s pa xs pc len h1 h2 h3 h4 => isPlan_gen m qs a1 c1 W (KG.out W hB).1 s pa xs pc len h1 h2 (by omega) h4
  have K16 : Hid (∀ W, Below w2.heap.size w2 W → ∀ (s : Int) (pa : Option Addr) (xs : List Int) (pc len : Nat), len = xs.length → Ints W pa xs → xs.length ≤ 1000 → Calls Try.prog 16 #[.slice (some ⟨b, 0, none⟩) m m, .int .i64 s, .slice pa len pc] W fun e w' => e = .returned (.bool (jdg (ofE m qs) s xs)) ∧ w' = W) :=
    fun W hB s pa xs pc len h1 h2 h3 => risPlan_gen m qs b W hm2 hok (KG.out W hB).2 s pa xs pc len h1 h2 (by omega)
  have KT : Hid (∀ ps : List Nat, ps.length = L → isPath (ofE m qs) lm (start (ofE m qs)) ps goal → jdg (ofE m qs) lm (ps.map fun (p : Nat) => (p : Int)) = true ∧ (∀ x ∈ ps.map fun (p : Nat) => (p : Int), x < 9223372036854775808) ∧ 1 ≤ L) := fun ps hL hp => by
    obtain ⟨j1, j2⟩ := path_judged hp
    refine ⟨by unfold jdg; rw [j1, List.length_map, decide_eq_true j2]; rfl, fun x hx => ?_, by omega⟩
    obtain ⟨p, hp', rfl⟩ := List.mem_map.1 hx
    have h1 := path_within ps _ _ (within_refl _) hp p hp'
    have h2 : full (ofE m qs).length < 1048576 := sm_full (by omega)
    omega
  have HBW := Lib.hid hBW
  have KB := Lib.hid (Below.refl w2.heap.size w2)
  have hszw := hBW.size
  clear l4 l5 l6 l2 HG HB1 HB2 HS hBW HT hsm hGl hsy hirr hok hG2 hq K14 KG
  have hL21 : L ≤ 21 := by omega
  clear hLm
  generalize ofE m qs = g at *
  generalize qs.length = ql at *
  obtain ⟨ys, hys⟩ : ∃ ys, Hid (ys = xs.take 40) := ⟨_, rfl⟩
  obtain ⟨kl, hkl⟩ : ∃ kl, Hid (kl = ys.length) := ⟨_, rfl⟩
  have hkl1 : kl ≤ xl := by rw [hkl.out, hys.out, List.length_take, hxle.out]; omega
  have hkl2 : kl ≤ 40 := by rw [hkl.out, hys.out, List.length_take]; omega
  have hmin : min ((xl : Nat) : Int) 40 = (kl : Int) := by rw [hkl.out, hys.out, List.length_take, hxle.out]; omega
  have hyrg : Hid (∀ x ∈ ys, x < 9223372036854775808) := fun x hx => hxrg.out x (by rw [hys.out] at hx; exact List.mem_of_mem_take hx)
  have hkl3 : ys.length ≤ 1000 := by have := hkl.out; omega
  cases pa with
  | none =>
    have hc0 := HX.out.nil rfl
    subst hc0
    obtain rfl : xl = 0 := by omega
    obtain rfl : kl = 0 := by omega
    have HI3 : Hid (Ints w2 none ys) := fun hne => absurd (List.eq_nil_of_length_eq_zero (by have := hkl.out; omega)) hne
    have HB3 := KB
    go_wp2
    go_loopw [10] (fun s10 wr => ∃ s : Int, -1 ≤ s ∧ s ≤ 4 ∧ s10 = .int .i64 s ∧ Hid (Below w2.heap.size w2 wr) ∧ Hid (Ints wr none ys)) (fun s10 _ => (4 - intOf s10).toNat)
    case atStart => exact ⟨-1, by omega, by omega, rfl, HB3, HI3⟩
    case round =>
      clear HB3 HI3
      obtain ⟨s, hs1, hs2, rfl, hB, hI⟩ := hrel
      by_cases hs4 : s < 4
      · obtain ⟨J, hJ⟩ : ∃ J, Hid (J = jdg g s ys) := ⟨_, rfl⟩
        by_cases hs0 : 0 ≤ s
        · have HC18 := Lib.hid (K18.out _ hB.out s none ys 0 0 (by have := hkl.out; omega) hI.out hkl3 hyrg.out)
          rw [← hJ.out, decide_eq_true hs0, Bool.true_and] at HC18
          have HC16 := Lib.hid fun W (hBW : Below w2.heap.size w2 W) hIW => K16.out W hBW s none ys 0 0 (by have := hkl.out; omega) hIW hkl3
          rw [← hJ.out] at HC16
          go_wp2_with (first
            | (go_at_call 18; refine (HC18.out).mono ?_; rintro e w5 ⟨rfl, hB5⟩; have HI5 := Lib.hid (hI.out.below hB5 (Nat.le_refl _)); have HB5 := Lib.hid (hB.out.trans (hB5.mono hB.out.size)); clear hB5; try dsimp only)
            | (go_at_call 16; refine (HC16.out _ HB5.out HI5.out).mono ?_; rintro e w6 ⟨rfl, hw⟩; subst hw; try dsimp only))
          exact ⟨⟨s + 1, by omega, by omega, by go_num, HB5, HI5⟩, by simp [intOf]; omega⟩
        · have HC18 := Lib.hid (K18.out _ hB.out s none ys 0 0 (by have := hkl.out; omega) hI.out hkl3 hyrg.out)
          rw [decide_eq_false hs0, Bool.false_and] at HC18
          have hs0' : s < 0 := by omega
          go_wp2_with (first
            | (go_at_call 18; refine (HC18.out).mono ?_; rintro e w5 ⟨rfl, hB5⟩; have HI5 := Lib.hid (hI.out.below hB5 (Nat.le_refl _)); have HB5 := Lib.hid (hB.out.trans (hB5.mono hB.out.size)); clear hB5; try dsimp only))
          exact ⟨⟨s + 1, by omega, by omega, by go_num, HB5, HI5⟩, by simp [intOf]; omega⟩
      · clear hs1 hs2
        have hlm0 : (0 : Int) ≤ (lm : Int) := by omega
        have hL21i : ((L : Nat) : Int) ≤ 100 := by omega
        go_upto_region 15 with (first
          | (go_at_call 12; refine (KL.out _ hB.out).mono ?_; rintro e w5 ⟨rfl, hB5⟩; have HI5 := Lib.hid (hI.out.below hB5 (Nat.le_refl _)); have HB5 := Lib.hid (hB.out.trans (hB5.mono hB.out.size)); clear hB5; try dsimp only)
          | (go_at_call 14; refine (KP.out _ HB5.out).mono ?_; rintro e w6 ⟨qb, qo, c6, pl, rfl, hB6, h61, h62, h63, hLc⟩; have HI6 := Lib.hid (HI5.out.below hB6 (Nat.le_refl _)); have HB6 := Lib.hid (HB5.out.trans (hB6.mono HB5.out.size)); have HQ6 := Lib.hid h63; have HPL := Lib.hid h61; have HPP := Lib.hid h62; clear hB6 h61 h62 h63; have HJT := Lib.hid (K18.out _ HB6.out lm (some ⟨qb, qo, none⟩) (pl.map fun (p : Nat) => (p : Int)) c6 L (by rw [List.length_map, HPL.out]) HQ6.out (by rw [List.length_map, HPL.out]; omega) (KT.out pl HPL.out HPP.out).2.1); rw [(KT.out pl HPL.out HPP.out).1, decide_eq_true hlm0] at HJT; try dsimp only)
          | (go_at_call 18; refine (HJT.out).mono ?_; rintro e w7 ⟨rfl, hB7⟩; have HI7 := Lib.hid (HI6.out.below hB7 (Nat.le_refl _)); have HQ7 := Lib.hid (HQ6.out.below hB7 (Nat.le_refl _)); have HB7 := Lib.hid (HB6.out.trans (hB7.mono HB6.out.size)); clear hB7; try dsimp only))
        obtain ⟨hpj, hprg, hL1⟩ := KT.out pl HPL.out HPP.out
        obtain ⟨zs, hzs⟩ : ∃ zs : List Int, Hid (zs = pl.map fun (p : Nat) => (p : Int)) := ⟨_, rfl⟩
        have hzl : Hid (zs.length = L) := by unfold Hid; rw [hzs.out, List.length_map, HPL.out]
        rw [← hzs.out] at HQ7 hpj hprg
        have HJ1 := Lib.hid hpj
        have HZR := Lib.hid hprg
        clear hpj hprg
        have hcz : Hid (∀ j u, ((zs.map fun x => Value.int .i64 x))[j]? = some u → w7.cell? ((⟨qb, qo, none⟩ : Addr).add j) = some u) := fun j u hu => by
          have hj : j < zs.length := by have := (List.getElem?_eq_some_iff.1 hu).1; simpa using this
          obtain ⟨b', off, e, hb', hc⟩ := HQ7.out (by intro h; rw [h] at hj; simp at hj)
          cases e
          rw [Addr.add_lit, hc j hj]
          rw [List.getElem?_map, List.getElem?_eq_getElem hj] at hu
          rw [List.getElem?_eq_getElem hj]
          exact hu
        have hlz : Hid ((zs.map fun x => Value.int .i64 x).length = L * 1) := by unfold Hid; rw [List.length_map, hzl.out]; omega
        have hoz : Hid (∀ u ∈ (zs.map fun x => Value.int .i64 x), u.oneCell' = true) := fun u hu => by
          obtain ⟨x, _, rfl⟩ := List.mem_map.1 hu; rfl
        go_upto_region 16 with (at_builtin; go_must (refine wpList_append_q _ rfl (.tmp 90) (.tmp 91) 25 rfl w7.heap.size 3 i0 (.int .i64 0) 1 8 Try.underlying25 hi hz0 hz1 hz2 rfl (by decide) (.slice none 0 0) 0 [] rfl (QRow.nil _ _ _ _) ⟨qb, qo, none⟩ L c6 (zs.map fun x => Value.int .i64 x) rfl hlz.out hcz.out hoz.out (by unfold maxLen; omega) (by omega) (Nat.le_refl _) ?_); intro v8 w8 hq8 hg8 ho8)
        simp only [Nat.zero_add, List.nil_append] at hq8 ⊢
        obtain ⟨rb, ro, c8, rfl, r1, r2, r3, r4, r5, r6⟩ := hq8.at (by omega)
        have hB78 : Below w7.heap.size w7 w8 := Below.grown (Below.refl _ _) hg8 (Nat.le_refl _) (by intro r hr; cases hr)
        have HI8 := Lib.hid (HI7.out.below hB78 (Nat.le_refl _))
        have HQ8 := Lib.hid (HQ7.out.below hB78 (Nat.le_refl _))
        have hqlt : qb < w7.heap.size := by
          obtain ⟨b', off, e, hb', hc⟩ := HQ7.out (by intro h; have := hzl.out; rw [h] at this; simp at this; omega)
          cases e; exact hb'
        have HB78 := Lib.hid hB78
        have HR8 := Lib.hid hq8
        obtain ⟨kk, hkk⟩ : ∃ kk, Hid (kk = 0 % L) := ⟨_, rfl⟩
        have hkkL : kk < L := by rw [hkk.out]; exact Nat.mod_lt _ (by omega)
        clear hcz hlz hoz hg8 ho8 hq8 r5 hB78
        have hL0 : (0 : Int) < (L : Int) := by omega
        have hL0' : ¬ ((L : Nat) : Int) = 0 := by omega
        have hm1' : ((0 : Int)).tmod (L : Int) = (kk : Int) := by rw [Int.tmod_eq_emod_of_nonneg (by omega), hkk.out]; simp
        have hm2' : ((0 : Int)) % (L : Int) = (kk : Int) := by rw [hkk.out]; simp
        go_upto_region 19 with (fail)
        clear hm1' hm2'
        obtain ⟨rs, hrs⟩ : ∃ rs, Hid (rs = zs) := ⟨_, rfl⟩
        have HR9 : Hid (Ints w8 (some ⟨rb, ro, none⟩) rs) := by unfold Hid; rw [hrs.out]; exact ints_of_q HR8.out
        have HQ9 := HQ8
        have HI9 := HI8
        have HB9 := Lib.hid (HB7.out.trans (HB78.out.mono HB7.out.size))
        have HRRG : Hid (∀ x ∈ rs, x < 9223372036854775808) := by unfold Hid; rw [hrs.out]; exact HZR.out
        clear HR8 HQ8 HI8 HB78
        have hrsl : Hid (rs.length = L) := by unfold Hid; rw [hrs.out]; exact hzl.out
        generalize w8 = w9 at *
        obtain ⟨JR, hJR⟩ : ∃ J, Hid (J = jdg g lm rs) := ⟨_, rfl⟩
        obtain ⟨JT, hJT⟩ : ∃ J, Hid (J = jdg g lm (zs.take kk)) := ⟨_, rfl⟩
        have htl : Hid (kk = (zs.take kk).length) := by unfold Hid; rw [List.length_take, hzl.out]; omega
        have KR18 : Hid (∀ W, Below w9.heap.size w9 W → Calls Try.prog 18 #[.int .i64 m, .slice a1 ql c1, .int .i64 lm, .slice (some ⟨rb, ro, none⟩) L c8] W fun e w' => e = .returned (.bool JR) ∧ Below w9.heap.size w9 w') := fun W hB' => (K18.out W (HB9.out.trans (hB'.mono HB9.out.size)) lm (some ⟨rb, ro, none⟩) rs c8 L hrsl.out.symm (HR9.out.below hB' (Nat.le_refl _)) (by rw [hrsl.out]; omega) HRRG.out).mono fun e w' ⟨h1, h2⟩ => ⟨by rw [h1, hJR.out, decide_eq_true hlm0, Bool.true_and], hB'.trans (h2.mono hB'.size)⟩
        have KR16 : Hid (∀ W, Below w9.heap.size w9 W → Calls Try.prog 16 #[.slice (some ⟨b, 0, none⟩) m m, .int .i64 lm, .slice (some ⟨rb, ro, none⟩) L c8] W fun e w' => e = .returned (.bool JR) ∧ Below w9.heap.size w9 w') := fun W hB' => (K16.out W (HB9.out.trans (hB'.mono HB9.out.size)) lm (some ⟨rb, ro, none⟩) rs c8 L hrsl.out.symm (HR9.out.below hB' (Nat.le_refl _)) (by rw [hrsl.out]; omega)).mono fun e w' ⟨h1, h2⟩ => ⟨by rw [h1, hJR.out], by rw [h2]; exact hB'⟩
        have hIT : Hid (∀ W, Below w9.heap.size w9 W → Ints W (some ⟨qb, qo, none⟩) (zs.take kk)) := fun W hB' => ints_take (HQ9.out.below hB' (Nat.le_refl _)) kk
        have KT18 : Hid (∀ (c : Nat) W, Below w9.heap.size w9 W → Calls Try.prog 18 #[.int .i64 m, .slice a1 ql c1, .int .i64 lm, .slice (some ⟨qb, qo, none⟩) kk c] W fun e w' => e = .returned (.bool JT) ∧ Below w9.heap.size w9 w') := fun c W hB' => (K18.out W (HB9.out.trans (hB'.mono HB9.out.size)) lm (some ⟨qb, qo, none⟩) (zs.take kk) c kk htl.out (hIT.out W hB') (by rw [← htl.out]; omega) (fun x hx => HZR.out x (List.mem_of_mem_take hx))).mono fun e w' ⟨h1, h2⟩ => ⟨by rw [h1, hJT.out, decide_eq_true hlm0, Bool.true_and], hB'.trans (h2.mono hB'.size)⟩
        have KT16 : Hid (∀ (c : Nat) W, Below w9.heap.size w9 W → Calls Try.prog 16 #[.slice (some ⟨b, 0, none⟩) m m, .int .i64 lm, .slice (some ⟨qb, qo, none⟩) kk c] W fun e w' => e = .returned (.bool JT) ∧ Below w9.heap.size w9 w') := fun c W hB' => (K16.out W (HB9.out.trans (hB'.mono HB9.out.size)) lm (some ⟨qb, qo, none⟩) (zs.take kk) c kk htl.out (hIT.out W hB') (by rw [← htl.out]; omega)).mono fun e w' ⟨h1, h2⟩ => ⟨by rw [h1, hJT.out], by rw [h2]; exact hB'⟩
        have hkc : ((kk : Nat) : Int) ≤ (c6 : Int) := by omega
        have hk0 : (0 : Int) ≤ ((kk : Nat) : Int) := by omega
        refine wp_region_below_lit (B := w9.heap.size) (w0 := w9) (by kernel_rfl) (by kernel_rfl) (Below.refl _ _) ?_
        repeat (go_big_quiet_step ((intro hBz; first
          | rfl
          | (go_at_call 18; with_reducible exact KR18.out _ hBz)
          | (go_at_call 16; with_reducible exact KR16.out _ hBz)
          | (go_at_call 18; with_reducible exact KT18.out _ _ hBz)
          | (go_at_call 16; with_reducible exact KT16.out _ _ hBz))))
        refine wpQuiet_nil ?_
        intro w10 hB10
        have HI10 := Lib.hid (HI9.out.below hB10 (Nat.le_refl _))
        have HB10 := Lib.hid (HB9.out.trans (hB10.mono HB9.out.size))
        clear hB10
        obtain ⟨JB, hJB⟩ : ∃ J, Hid (J = jdg g 9223372036854775807 ys) := ⟨_, rfl⟩
        have KB18 : Hid (Calls Try.prog 18 #[.int .i64 m, .slice a1 ql c1, .int .i64 9223372036854775807, .slice none 0 0] w10 fun e w' => e = .returned (.bool JB) ∧ Below w10.heap.size w10 w') := (K18.out _ HB10.out 9223372036854775807 none ys 0 0 (by have := hkl.out; omega) HI10.out hkl3 hyrg.out).mono fun e w' ⟨h1, h2⟩ => ⟨by rw [h1, hJB.out, decide_eq_true (by decide), Bool.true_and], h2⟩
        have KB16 : Hid (∀ W, Below w10.heap.size w10 W → Calls Try.prog 16 #[.slice (some ⟨b, 0, none⟩) m m, .int .i64 9223372036854775807, .slice none 0 0] W fun e w' => e = .returned (.bool JB) ∧ w' = W) := fun W hB' => (K16.out W (HB10.out.trans (hB'.mono HB10.out.size)) 9223372036854775807 none ys 0 0 (by have := hkl.out; omega) (HI10.out.below hB' (Nat.le_refl _)) hkl3).mono fun e w' ⟨h1, h2⟩ => ⟨by rw [h1, hJB.out], h2⟩
        go_wp2_with (first
          | (go_at_call 18; refine (KB18.out).mono ?_; rintro e w11 ⟨rfl, hB11⟩; have HB11 := Lib.hid hB11; clear hB11; try dsimp only)
          | (go_at_call 16; refine (KB16.out _ HB11.out).mono ?_; rintro e w12 ⟨rfl, hw⟩; subst hw; try dsimp only)
          | (go_at_call 17; refine (awake_any _).mono ?_; rintro e w13 ⟨rfl, hB13⟩; have HB13 := Lib.hid hB13; clear hB13; try dsimp only))
        go_ret
        exact ⟨rfl, HBW.out.trans (((HB10.out.trans (HB11.out.mono HB10.out.size)).trans (HB13.out.mono (Nat.le_trans HB10.out.size HB11.out.size))).mono HBW.out.size)⟩
  | some ad =>
    have hcells : Hid (∀ j u, ((ys.map fun x => Value.int .i64 x))[j]? = some u → w2.cell? (ad.add j) = some u) := fun j u hu => by
      have hj : j < ys.length := by have := (List.getElem?_eq_some_iff.1 hu).1; simpa using this
      obtain ⟨b', off, e, hb', hc⟩ := (HX.out.g.below HBW.out (Nat.le_refl _)) (by intro h; rw [hys.out, h] at hj; simp at hj)
      cases e
      rw [Addr.add_lit, hc j (by have := hkl.out; have := hxle.out; omega)]
      rw [List.getElem?_map, List.getElem?_eq_getElem hj] at hu
      have : xs[j]? = some ys[j] := by
        rw [← List.getElem?_eq_getElem hj, hys.out, List.getElem?_take, if_pos (by have := hkl.out; omega)]
      rw [this]
      exact hu
    have hlen : Hid ((ys.map fun x => Value.int .i64 x).length = kl * 1) := by unfold Hid; rw [List.length_map, ← hkl.out]; omega
    have hone : Hid (∀ u ∈ (ys.map fun x => Value.int .i64 x), u.oneCell' = true) := fun u hu => by
      obtain ⟨x, _, rfl⟩ := List.mem_map.1 hu; rfl
    go_upto_region 5 with (at_builtin; go_must (refine wpList_append_q _ rfl (.tmp 28) (.tmp 33) 25 rfl w2.heap.size 3 i0 (.int .i64 0) 1 8 Try.underlying25 hi hz0 hz1 hz2 rfl (by decide) (.slice none 0 0) 0 [] rfl (QRow.nil _ _ _ _) ad kl pc (ys.map fun x => Value.int .i64 x) rfl hlen.out hcells.out hone.out (by unfold maxLen; omega) (by omega) (Nat.le_refl _) ?_); intro v3 w3 hq3 hg3 ho3)
    obtain ⟨p3, c3, rfl⟩ := hq3.isSlice
    have HI3 : Hid (Ints w3 p3 ys) := by
      intro hne
      have hkp : 0 < 0 + kl := by have := hkl.out; have := List.length_pos_iff.2 hne; omega
      simp only [List.nil_append] at hq3
      obtain ⟨g', o', c', e, h1, h2, h3, h4, h5, h6⟩ := hq3.at hkp
      cases e
      exact ints_of_q hq3 hne
    have HB3 : Hid (Below w2.heap.size w2 w3) := Below.grown (Below.refl _ _) hg3 (Nat.le_refl _) (by intro r hr; cases hr)
    simp only [Nat.zero_add] at hq3 ⊢
    clear hcells hlen hone hq3 hg3 ho3 hmin
    go_wp2
    go_loopw [10] (fun s10 wr => ∃ s : Int, -1 ≤ s ∧ s ≤ 4 ∧ s10 = .int .i64 s ∧ Hid (Below w2.heap.size w2 wr) ∧ Hid (Ints wr p3 ys)) (fun s10 _ => (4 - intOf s10).toNat)
    case atStart => exact ⟨-1, by omega, by omega, rfl, HB3, HI3⟩
    case round =>
      clear HB3 HI3
      obtain ⟨s, hs1, hs2, rfl, hB, hI⟩ := hrel
      by_cases hs4 : s < 4
      · obtain ⟨J, hJ⟩ : ∃ J, Hid (J = jdg g s ys) := ⟨_, rfl⟩
        by_cases hs0 : 0 ≤ s
        · have HC18 := Lib.hid (K18.out _ hB.out s p3 ys c3 kl hkl.out hI.out hkl3 hyrg.out)
          rw [← hJ.out, decide_eq_true hs0, Bool.true_and] at HC18
          have HC16 := Lib.hid fun W (hBW : Below w2.heap.size w2 W) hIW => K16.out W hBW s p3 ys c3 kl hkl.out hIW hkl3
          rw [← hJ.out] at HC16
          go_wp2_with (first
            | (go_at_call 18; refine (HC18.out).mono ?_; rintro e w5 ⟨rfl, hB5⟩; have HI5 := Lib.hid (hI.out.below hB5 (Nat.le_refl _)); have HB5 := Lib.hid (hB.out.trans (hB5.mono hB.out.size)); clear hB5; try dsimp only)
            | (go_at_call 16; refine (HC16.out _ HB5.out HI5.out).mono ?_; rintro e w6 ⟨rfl, hw⟩; subst hw; try dsimp only))
          exact ⟨⟨s + 1, by omega, by omega, by go_num, HB5, HI5⟩, by simp [intOf]; omega⟩
        · have HC18 := Lib.hid (K18.out _ hB.out s p3 ys c3 kl hkl.out hI.out hkl3 hyrg.out)
          rw [decide_eq_false hs0, Bool.false_and] at HC18
          have hs0' : s < 0 := by omega
          go_wp2_with (first
            | (go_at_call 18; refine (HC18.out).mono ?_; rintro e w5 ⟨rfl, hB5⟩; have HI5 := Lib.hid (hI.out.below hB5 (Nat.le_refl _)); have HB5 := Lib.hid (hB.out.trans (hB5.mono hB.out.size)); clear hB5; try dsimp only))
          exact ⟨⟨s + 1, by omega, by omega, by go_num, HB5, HI5⟩, by simp [intOf]; omega⟩
      · clear hs1 hs2
        have hlm0 : (0 : Int) ≤ (lm : Int) := by omega
        have hL21i : ((L : Nat) : Int) ≤ 100 := by omega
        go_upto_region 15 with (first
          | (go_at_call 12; refine (KL.out _ hB.out).mono ?_; rintro e w5 ⟨rfl, hB5⟩; have HI5 := Lib.hid (hI.out.below hB5 (Nat.le_refl _)); have HB5 := Lib.hid (hB.out.trans (hB5.mono hB.out.size)); clear hB5; try dsimp only)
          | (go_at_call 14; refine (KP.out _ HB5.out).mono ?_; rintro e w6 ⟨qb, qo, c6, pl, rfl, hB6, h61, h62, h63, hLc⟩; have HI6 := Lib.hid (HI5.out.below hB6 (Nat.le_refl _)); have HB6 := Lib.hid (HB5.out.trans (hB6.mono HB5.out.size)); have HQ6 := Lib.hid h63; have HPL := Lib.hid h61; have HPP := Lib.hid h62; clear hB6 h61 h62 h63; have HJT := Lib.hid (K18.out _ HB6.out lm (some ⟨qb, qo, none⟩) (pl.map fun (p : Nat) => (p : Int)) c6 L (by rw [List.length_map, HPL.out]) HQ6.out (by rw [List.length_map, HPL.out]; omega) (KT.out pl HPL.out HPP.out).2.1); rw [(KT.out pl HPL.out HPP.out).1, decide_eq_true hlm0] at HJT; try dsimp only)
          | (go_at_call 18; refine (HJT.out).mono ?_; rintro e w7 ⟨rfl, hB7⟩; have HI7 := Lib.hid (HI6.out.below hB7 (Nat.le_refl _)); have HQ7 := Lib.hid (HQ6.out.below hB7 (Nat.le_refl _)); have HB7 := Lib.hid (HB6.out.trans (hB7.mono HB6.out.size)); clear hB7; try dsimp only))
        obtain ⟨hpj, hprg, hL1⟩ := KT.out pl HPL.out HPP.out
        obtain ⟨zs, hzs⟩ : ∃ zs : List Int, Hid (zs = pl.map fun (p : Nat) => (p : Int)) := ⟨_, rfl⟩
        have hzl : Hid (zs.length = L) := by unfold Hid; rw [hzs.out, List.length_map, HPL.out]
        rw [← hzs.out] at HQ7 hpj hprg
        have HJ1 := Lib.hid hpj
        have HZR := Lib.hid hprg
        clear hpj hprg
        have hcz : Hid (∀ j u, ((zs.map fun x => Value.int .i64 x))[j]? = some u → w7.cell? ((⟨qb, qo, none⟩ : Addr).add j) = some u) := fun j u hu => by
          have hj : j < zs.length := by have := (List.getElem?_eq_some_iff.1 hu).1; simpa using this
          obtain ⟨b', off, e, hb', hc⟩ := HQ7.out (by intro h; rw [h] at hj; simp at hj)
          cases e
          rw [Addr.add_lit, hc j hj]
          rw [List.getElem?_map, List.getElem?_eq_getElem hj] at hu
          rw [List.getElem?_eq_getElem hj]
          exact hu
        have hlz : Hid ((zs.map fun x => Value.int .i64 x).length = L * 1) := by unfold Hid; rw [List.length_map, hzl.out]; omega
        have hoz : Hid (∀ u ∈ (zs.map fun x => Value.int .i64 x), u.oneCell' = true) := fun u hu => by
          obtain ⟨x, _, rfl⟩ := List.mem_map.1 hu; rfl
        go_upto_region 16 with (at_builtin; go_must (refine wpList_append_q _ rfl (.tmp 90) (.tmp 91) 25 rfl w7.heap.size 3 i0 (.int .i64 0) 1 8 Try.underlying25 hi hz0 hz1 hz2 rfl (by decide) (.slice none 0 0) 0 [] rfl (QRow.nil _ _ _ _) ⟨qb, qo, none⟩ L c6 (zs.map fun x => Value.int .i64 x) rfl hlz.out hcz.out hoz.out (by unfold maxLen; omega) (by omega) (Nat.le_refl _) ?_); intro v8 w8 hq8 hg8 ho8)
        simp only [Nat.zero_add, List.nil_append] at hq8 ⊢
        obtain ⟨rb, ro, c8, rfl, r1, r2, r3, r4, r5, r6⟩ := hq8.at (by omega)
        have hB78 : Below w7.heap.size w7 w8 := Below.grown (Below.refl _ _) hg8 (Nat.le_refl _) (by intro r hr; cases hr)
        have HI8 := Lib.hid (HI7.out.below hB78 (Nat.le_refl _))
        have HQ8 := Lib.hid (HQ7.out.below hB78 (Nat.le_refl _))
        have hqlt : qb < w7.heap.size := by
          obtain ⟨b', off, e, hb', hc⟩ := HQ7.out (by intro h; have := hzl.out; rw [h] at this; simp at this; omega)
          cases e; exact hb'
        have HB78 := Lib.hid hB78
        have HR8 := Lib.hid hq8
        obtain ⟨kk, hkk⟩ : ∃ kk, Hid (kk = xl % L) := ⟨_, rfl⟩
        have hkkL : kk < L := by rw [hkk.out]; exact Nat.mod_lt _ (by omega)
        clear hcz hlz hoz hg8 ho8 hq8 r5 hB78
        have hL0 : (0 : Int) < (L : Int) := by omega
        have hL0' : ¬ ((L : Nat) : Int) = 0 := by omega
        by_cases hx0 : xl = 0
        · subst hx0
          have hm1' : ((0 : Int)).tmod (L : Int) = (kk : Int) := by rw [Int.tmod_eq_emod_of_nonneg (by omega), hkk.out]; simp
          have hm2' : ((0 : Int)) % (L : Int) = (kk : Int) := by rw [hkk.out]; simp
          go_upto_region 19 with (fail)
          clear hm1' hm2'
          obtain ⟨rs, hrs⟩ : ∃ rs, Hid (rs = zs) := ⟨_, rfl⟩
          have HR9 : Hid (Ints w8 (some ⟨rb, ro, none⟩) rs) := by unfold Hid; rw [hrs.out]; exact ints_of_q HR8.out
          have HQ9 := HQ8
          have HI9 := HI8
          have HB9 := Lib.hid (HB7.out.trans (HB78.out.mono HB7.out.size))
          have HRRG : Hid (∀ x ∈ rs, x < 9223372036854775808) := by unfold Hid; rw [hrs.out]; exact HZR.out
          clear HR8 HQ8 HI8 HB78
          have hrsl : Hid (rs.length = L) := by unfold Hid; rw [hrs.out]; exact hzl.out
          generalize w8 = w9 at *
          obtain ⟨JR, hJR⟩ : ∃ J, Hid (J = jdg g lm rs) := ⟨_, rfl⟩
          obtain ⟨JT, hJT⟩ : ∃ J, Hid (J = jdg g lm (zs.take kk)) := ⟨_, rfl⟩
          have htl : Hid (kk = (zs.take kk).length) := by unfold Hid; rw [List.length_take, hzl.out]; omega
          have KR18 : Hid (∀ W, Below w9.heap.size w9 W → Calls Try.prog 18 #[.int .i64 m, .slice a1 ql c1, .int .i64 lm, .slice (some ⟨rb, ro, none⟩) L c8] W fun e w' => e = .returned (.bool JR) ∧ Below w9.heap.size w9 w') := fun W hB' => (K18.out W (HB9.out.trans (hB'.mono HB9.out.size)) lm (some ⟨rb, ro, none⟩) rs c8 L hrsl.out.symm (HR9.out.below hB' (Nat.le_refl _)) (by rw [hrsl.out]; omega) HRRG.out).mono fun e w' ⟨h1, h2⟩ => ⟨by rw [h1, hJR.out, decide_eq_true hlm0, Bool.true_and], hB'.trans (h2.mono hB'.size)⟩
          have KR16 : Hid (∀ W, Below w9.heap.size w9 W → Calls Try.prog 16 #[.slice (some ⟨b, 0, none⟩) m m, .int .i64 lm, .slice (some ⟨rb, ro, none⟩) L c8] W fun e w' => e = .returned (.bool JR) ∧ Below w9.heap.size w9 w') := fun W hB' => (K16.out W (HB9.out.trans (hB'.mono HB9.out.size)) lm (some ⟨rb, ro, none⟩) rs c8 L hrsl.out.symm (HR9.out.below hB' (Nat.le_refl _)) (by rw [hrsl.out]; omega)).mono fun e w' ⟨h1, h2⟩ => ⟨by rw [h1, hJR.out], by rw [h2]; exact hB'⟩
          have hIT : Hid (∀ W, Below w9.heap.size w9 W → Ints W (some ⟨qb, qo, none⟩) (zs.take kk)) := fun W hB' => ints_take (HQ9.out.below hB' (Nat.le_refl _)) kk
          have KT18 : Hid (∀ (c : Nat) W, Below w9.heap.size w9 W → Calls Try.prog 18 #[.int .i64 m, .slice a1 ql c1, .int .i64 lm, .slice (some ⟨qb, qo, none⟩) kk c] W fun e w' => e = .returned (.bool JT) ∧ Below w9.heap.size w9 w') := fun c W hB' => (K18.out W (HB9.out.trans (hB'.mono HB9.out.size)) lm (some ⟨qb, qo, none⟩) (zs.take kk) c kk htl.out (hIT.out W hB') (by rw [← htl.out]; omega) (fun x hx => HZR.out x (List.mem_of_mem_take hx))).mono fun e w' ⟨h1, h2⟩ => ⟨by rw [h1, hJT.out, decide_eq_true hlm0, Bool.true_and], hB'.trans (h2.mono hB'.size)⟩
          have KT16 : Hid (∀ (c : Nat) W, Below w9.heap.size w9 W → Calls Try.prog 16 #[.slice (some ⟨b, 0, none⟩) m m, .int .i64 lm, .slice (some ⟨qb, qo, none⟩) kk c] W fun e w' => e = .returned (.bool JT) ∧ Below w9.heap.size w9 w') := fun c W hB' => (K16.out W (HB9.out.trans (hB'.mono HB9.out.size)) lm (some ⟨qb, qo, none⟩) (zs.take kk) c kk htl.out (hIT.out W hB') (by rw [← htl.out]; omega)).mono fun e w' ⟨h1, h2⟩ => ⟨by rw [h1, hJT.out], by rw [h2]; exact hB'⟩
          have hkc : ((kk : Nat) : Int) ≤ (c6 : Int) := by omega
          have hk0 : (0 : Int) ≤ ((kk : Nat) : Int) := by omega
          refine wp_region_below_lit (B := w9.heap.size) (w0 := w9) (by kernel_rfl) (by kernel_rfl) (Below.refl _ _) ?_
          repeat (go_big_quiet_step ((intro hBz; first
            | rfl
            | (go_at_call 18; with_reducible exact KR18.out _ hBz)
            | (go_at_call 16; with_reducible exact KR16.out _ hBz)
            | (go_at_call 18; with_reducible exact KT18.out _ _ hBz)
            | (go_at_call 16; with_reducible exact KT16.out _ _ hBz))))
          refine wpQuiet_nil ?_
          intro w10 hB10
          have HI10 := Lib.hid (HI9.out.below hB10 (Nat.le_refl _))
          have HB10 := Lib.hid (HB9.out.trans (hB10.mono HB9.out.size))
          clear hB10
          obtain ⟨JB, hJB⟩ : ∃ J, Hid (J = jdg g 9223372036854775807 ys) := ⟨_, rfl⟩
          have KB18 : Hid (Calls Try.prog 18 #[.int .i64 m, .slice a1 ql c1, .int .i64 9223372036854775807, .slice p3 kl c3] w10 fun e w' => e = .returned (.bool JB) ∧ Below w10.heap.size w10 w') := (K18.out _ HB10.out 9223372036854775807 p3 ys c3 kl hkl.out HI10.out hkl3 hyrg.out).mono fun e w' ⟨h1, h2⟩ => ⟨by rw [h1, hJB.out, decide_eq_true (by decide), Bool.true_and], h2⟩
          have KB16 : Hid (∀ W, Below w10.heap.size w10 W → Calls Try.prog 16 #[.slice (some ⟨b, 0, none⟩) m m, .int .i64 9223372036854775807, .slice p3 kl c3] W fun e w' => e = .returned (.bool JB) ∧ w' = W) := fun W hB' => (K16.out W (HB10.out.trans (hB'.mono HB10.out.size)) 9223372036854775807 p3 ys c3 kl hkl.out (HI10.out.below hB' (Nat.le_refl _)) hkl3).mono fun e w' ⟨h1, h2⟩ => ⟨by rw [h1, hJB.out], h2⟩
          go_wp2_with (first
            | (go_at_call 18; refine (KB18.out).mono ?_; rintro e w11 ⟨rfl, hB11⟩; have HB11 := Lib.hid hB11; clear hB11; try dsimp only)
            | (go_at_call 16; refine (KB16.out _ HB11.out).mono ?_; rintro e w12 ⟨rfl, hw⟩; subst hw; try dsimp only)
            | (go_at_call 17; refine (awake_any _).mono ?_; rintro e w13 ⟨rfl, hB13⟩; have HB13 := Lib.hid hB13; clear hB13; try dsimp only))
          go_ret
          exact ⟨rfl, HBW.out.trans (((HB10.out.trans (HB11.out.mono HB10.out.size)).trans (HB13.out.mono (Nat.le_trans HB10.out.size HB11.out.size))).mono HBW.out.size)⟩
        · have hx0i : (0 : Int) < (xl : Int) := by omega
          have hm1' : (((xl : Nat) : Int)).tmod (L : Int) = (kk : Int) := by rw [Int.tmod_eq_emod_of_nonneg (by omega), hkk.out]; simp
          have hm2' : (((xl : Nat) : Int)) % (L : Int) = (kk : Int) := by rw [hkk.out]; simp
          obtain ⟨x0, hx0⟩ : ∃ x0 : Int, Hid (x0 = xs[0]?.getD 0) := ⟨xs[0]?.getD 0, Lib.hid rfl⟩
          have hxne : xs ≠ [] := by intro h; have := hxle.out; rw [h] at this; simp at this; omega
          obtain ⟨xb, xo, hxe, hxb, hxc⟩ := (HX.out.g.below HBW.out (Nat.le_refl _)) hxne
          have hxc0 := hxc 0 (List.length_pos_iff.2 hxne)
          cases hxe
          have hx0c : w8.cell? ⟨xb, xo, none⟩ = some (.int .i64 x0) := by
            rw [hx0.out]
            exact ((HB7.out.trans (HB78.out.mono HB7.out.size)).cell (p := ⟨xb, xo, none⟩) hxb).trans hxc0
          have hrc : w8.cell? ⟨rb, ro + kk, none⟩ = some (.int .i64 (zs[kk]?.getD 0)) := by
            obtain ⟨b', off, e, _, hc⟩ := (ints_of_q HR8.out) (by intro h; have := hzl.out; rw [h] at this; simp at this; omega)
            cases e
            exact hc kk (by rw [hzl.out]; exact hkkL)
          have hrf := r6 (ro + kk)
          have hkLi : ((kk : Nat) : Int) < (L : Int) := by omega
          have hk0 : (0 : Int) ≤ ((kk : Nat) : Int) := by omega
          go_upto_region 19 with (fail)
          clear hm1' hm2'
          obtain ⟨rs, hrs⟩ : ∃ rs, Hid (rs = zs.set kk x0) := ⟨_, rfl⟩
          have HR9 : Hid (Ints (w8.setCell ⟨rb, ro + kk, none⟩ (.int .i64 x0)) (some ⟨rb, ro, none⟩) rs) := by
            unfold Hid; rw [hrs.out]
            have := HR8.out.set kk (by omega) (.int .i64 x0)
            rw [← List.map_set (f := fun x => Value.int .i64 x)] at this
            exact ints_of_q this
          have HS89 : Hid (Below w7.heap.size w7 (w8.setCell ⟨rb, ro + kk, none⟩ (.int .i64 x0))) := HB78.out.setCell (p := ⟨rb, ro + kk, none⟩) r1 _
          have HQ9 := Lib.hid (HQ7.out.below HS89.out (Nat.le_refl _))
          have HI9 := Lib.hid (HI7.out.below HS89.out (Nat.le_refl _))
          have HB9 := Lib.hid (HB7.out.trans (HS89.out.mono HB7.out.size))
          have HRRG : Hid (∀ x ∈ rs, x < 9223372036854775808) := fun x hx => by
            rw [hrs.out] at hx
            rcases List.mem_or_eq_of_mem_set hx with h | h
            · exact HZR.out x h
            · rw [h, hx0.out]
              exact hxrg.out _ (by rw [List.getElem?_eq_getElem (List.length_pos_iff.2 hxne)]; exact List.getElem_mem _)
          clear HR8 HQ8 HI8 HB78 HS89 hx0c hrc hrf hxc hxc0
          have hrsl : Hid (rs.length = L) := by unfold Hid; rw [hrs.out, List.length_set]; exact hzl.out
          generalize (w8.setCell ⟨rb, ro + kk, none⟩ (.int .i64 x0)) = w9 at *
          obtain ⟨JR, hJR⟩ : ∃ J, Hid (J = jdg g lm rs) := ⟨_, rfl⟩
          obtain ⟨JT, hJT⟩ : ∃ J, Hid (J = jdg g lm (zs.take kk)) := ⟨_, rfl⟩
          have htl : Hid (kk = (zs.take kk).length) := by unfold Hid; rw [List.length_take, hzl.out]; omega
          have KR18 : Hid (∀ W, Below w9.heap.size w9 W → Calls Try.prog 18 #[.int .i64 m, .slice a1 ql c1, .int .i64 lm, .slice (some ⟨rb, ro, none⟩) L c8] W fun e w' => e = .returned (.bool JR) ∧ Below w9.heap.size w9 w') := fun W hB' => (K18.out W (HB9.out.trans (hB'.mono HB9.out.size)) lm (some ⟨rb, ro, none⟩) rs c8 L hrsl.out.symm (HR9.out.below hB' (Nat.le_refl _)) (by rw [hrsl.out]; omega) HRRG.out).mono fun e w' ⟨h1, h2⟩ => ⟨by rw [h1, hJR.out, decide_eq_true hlm0, Bool.true_and], hB'.trans (h2.mono hB'.size)⟩
          have KR16 : Hid (∀ W, Below w9.heap.size w9 W → Calls Try.prog 16 #[.slice (some ⟨b, 0, none⟩) m m, .int .i64 lm, .slice (some ⟨rb, ro, none⟩) L c8] W fun e w' => e = .returned (.bool JR) ∧ Below w9.heap.size w9 w') := fun W hB' => (K16.out W (HB9.out.trans (hB'.mono HB9.out.size)) lm (some ⟨rb, ro, none⟩) rs c8 L hrsl.out.symm (HR9.out.below hB' (Nat.le_refl _)) (by rw [hrsl.out]; omega)).mono fun e w' ⟨h1, h2⟩ => ⟨by rw [h1, hJR.out], by rw [h2]; exact hB'⟩
          have hIT : Hid (∀ W, Below w9.heap.size w9 W → Ints W (some ⟨qb, qo, none⟩) (zs.take kk)) := fun W hB' => ints_take (HQ9.out.below hB' (Nat.le_refl _)) kk
          have KT18 : Hid (∀ (c : Nat) W, Below w9.heap.size w9 W → Calls Try.prog 18 #[.int .i64 m, .slice a1 ql c1, .int .i64 lm, .slice (some ⟨qb, qo, none⟩) kk c] W fun e w' => e = .returned (.bool JT) ∧ Below w9.heap.size w9 w') := fun c W hB' => (K18.out W (HB9.out.trans (hB'.mono HB9.out.size)) lm (some ⟨qb, qo, none⟩) (zs.take kk) c kk htl.out (hIT.out W hB') (by rw [← htl.out]; omega) (fun x hx => HZR.out x (List.mem_of_mem_take hx))).mono fun e w' ⟨h1, h2⟩ => ⟨by rw [h1, hJT.out, decide_eq_true hlm0, Bool.true_and], hB'.trans (h2.mono hB'.size)⟩
          have KT16 : Hid (∀ (c : Nat) W, Below w9.heap.size w9 W → Calls Try.prog 16 #[.slice (some ⟨b, 0, none⟩) m m, .int .i64 lm, .slice (some ⟨qb, qo, none⟩) kk c] W fun e w' => e = .returned (.bool JT) ∧ Below w9.heap.size w9 w') := fun c W hB' => (K16.out W (HB9.out.trans (hB'.mono HB9.out.size)) lm (some ⟨qb, qo, none⟩) (zs.take kk) c kk htl.out (hIT.out W hB') (by rw [← htl.out]; omega)).mono fun e w' ⟨h1, h2⟩ => ⟨by rw [h1, hJT.out], by rw [h2]; exact hB'⟩
          have hkc : ((kk : Nat) : Int) ≤ (c6 : Int) := by omega
          have hk0 : (0 : Int) ≤ ((kk : Nat) : Int) := by omega
          refine wp_region_below_lit (B := w9.heap.size) (w0 := w9) (by kernel_rfl) (by kernel_rfl) (Below.refl _ _) ?_
          repeat (go_big_quiet_step ((intro hBz; first
            | rfl
            | (go_at_call 18; with_reducible exact KR18.out _ hBz)
            | (go_at_call 16; with_reducible exact KR16.out _ hBz)
            | (go_at_call 18; with_reducible exact KT18.out _ _ hBz)
            | (go_at_call 16; with_reducible exact KT16.out _ _ hBz))))
          refine wpQuiet_nil ?_
          intro w10 hB10
          have HI10 := Lib.hid (HI9.out.below hB10 (Nat.le_refl _))
          have HB10 := Lib.hid (HB9.out.trans (hB10.mono HB9.out.size))
          clear hB10
          obtain ⟨JB, hJB⟩ : ∃ J, Hid (J = jdg g 9223372036854775807 ys) := ⟨_, rfl⟩
          have KB18 : Hid (Calls Try.prog 18 #[.int .i64 m, .slice a1 ql c1, .int .i64 9223372036854775807, .slice p3 kl c3] w10 fun e w' => e = .returned (.bool JB) ∧ Below w10.heap.size w10 w') := (K18.out _ HB10.out 9223372036854775807 p3 ys c3 kl hkl.out HI10.out hkl3 hyrg.out).mono fun e w' ⟨h1, h2⟩ => ⟨by rw [h1, hJB.out, decide_eq_true (by decide), Bool.true_and], h2⟩
          have KB16 : Hid (∀ W, Below w10.heap.size w10 W → Calls Try.prog 16 #[.slice (some ⟨b, 0, none⟩) m m, .int .i64 9223372036854775807, .slice p3 kl c3] W fun e w' => e = .returned (.bool JB) ∧ w' = W) := fun W hB' => (K16.out W (HB10.out.trans (hB'.mono HB10.out.size)) 9223372036854775807 p3 ys c3 kl hkl.out (HI10.out.below hB' (Nat.le_refl _)) hkl3).mono fun e w' ⟨h1, h2⟩ => ⟨by rw [h1, hJB.out], h2⟩
          go_wp2_with (first
            | (go_at_call 18; refine (KB18.out).mono ?_; rintro e w11 ⟨rfl, hB11⟩; have HB11 := Lib.hid hB11; clear hB11; try dsimp only)
            | (go_at_call 16; refine (KB16.out _ HB11.out).mono ?_; rintro e w12 ⟨rfl, hw⟩; subst hw; try dsimp only)
            | (go_at_call 17; refine (awake_any _).mono ?_; rintro e w13 ⟨rfl, hB13⟩; have HB13 := Lib.hid hB13; clear hB13; try dsimp only))
          go_ret
          exact ⟨rfl, HBW.out.trans (((HB10.out.trans (HB11.out.mono HB10.out.size)).trans (HB13.out.mono (Nat.le_trans HB10.out.size HB11.out.size))).mono HBW.out.size)⟩
end Go.Proofs.Ytfbobojpocnfeaa
