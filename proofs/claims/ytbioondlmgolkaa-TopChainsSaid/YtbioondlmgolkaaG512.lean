/- sets: walk. The program's check of intervals: walks. Rows of pairs that the call has made; taken over from chapter 7. slices.Index, intervals: walks. IsTwoTwo, Magnitude, TwoTwo: walks. Intervals: walk. Boats: walk. The order that intervals represent: the program's FromIntervals. -/
import Derived.BigQuiet
import Derived.Deep.LoopGhost
import Derived.Test.YtbioondlmgolkaaOb
import Derived.Test.YtbioondlmgolkaaGu
import Derived.Test.YtbioondlmgolkaaG508
set_option linter.unusedVariables false
set_option linter.unusedSimpArgs false
namespace Go.Proofs.Ytbioondlmgolkaa
open Go.RowKit Go.Shelf Go.Sort

def bvB (b : Bool) : Value := .bool b
theorem kind158 : MapKind Try.prog 158 3 4 kvN bvB false := natKind (by kernel_rfl) Try.underlying3 (fun _ => by kernel_rfl)
/-- the comparison of sets -/
def cfL (x y : Nat) : Int := if (size (x % 1048576) : Int) - (size (y % 1048576) : Int) ≠ 0 then (size (x % 1048576) : Int) - (size (y % 1048576) : Int) else ((x % 1048576 : Nat) : Int) - ((y % 1048576 : Nat) : Int)
theorem ltOf_cfL (x y : Nat) : ltOf cfL x y = true ↔ LtS (x % 1048576) (y % 1048576) := by
  unfold ltOf cfL LtS
  rw [decide_eq_true_iff]
  split <;> omega
theorem swoL : SWO (ltOf cfL) where
  irrefl := fun x => by rw [Bool.eq_false_iff]; intro h; exact ltS_irr ((ltOf_cfL x x).1 h)
  trans := fun x y z h1 h2 => (ltOf_cfL x z).2 (ltS_trans ((ltOf_cfL x y).1 h1) ((ltOf_cfL y z).1 h2))
  ntrans := fun x y z h1 h2 => by
    rw [Bool.eq_false_iff] at *
    intro h
    have h3 := (ltOf_cfL _ _).1 h
    have n1 : ¬ LtS (x % 1048576) (y % 1048576) := fun h => h1 ((ltOf_cfL x y).2 h)
    have n2 : ¬ LtS (y % 1048576) (z % 1048576) := fun h => h2 ((ltOf_cfL y z).2 h)
    unfold LtS at *
    omega
set_option maxRecDepth 100000 in
theorem cmpSets_any (x y : Nat) (w : World) : Calls Try.prog 85 #[.int .i64 ((x % 1048576 : Nat) : Int), .int .i64 ((y % 1048576 : Nat) : Int)] w fun e w' => e = .returned (.int .i64 (cfL x y)) ∧ w' = w := by
  have hx : x % 1048576 < 1048576 := Nat.mod_lt _ (by decide)
  have hy : y % 1048576 < 1048576 := Nat.mod_lt _ (by decide)
  have hc : Hid (cfL x y = if (size (x % 1048576) : Int) - (size (y % 1048576) : Int) ≠ 0 then (size (x % 1048576) : Int) - (size (y % 1048576) : Int) else ((x % 1048576 : Nat) : Int) - ((y % 1048576 : Nat) : Int)) := rfl
  rw [hc.out]
  clear hc
  generalize x % 1048576 = a at *
  generalize y % 1048576 = b at *
  have H1 := Lib.hid (fun w => ones a w (Lib.hid (by omega)))
  have H2 := Lib.hid (fun w => ones b w (Lib.hid (by omega)))
  have z1 : IntKind.u64.wrap ((a : Nat) : Int) = a := u64_same _ (by omega)
  have z2 : IntKind.u64.wrap ((b : Nat) : Int) = b := u64_same _ (by omega)
  have k1 := size_le a
  have k2 := size_le b
  generalize size a = sa at *
  generalize size b = sb at *
  have z3 : IntKind.i64.wrap ((sa : Int) - (sb : Int)) = (sa : Int) - (sb : Int) := by rw [IntKind.wrap_i64]; omega
  have z4 : IntKind.i64.wrap ((a : Int) - (b : Int)) = (a : Int) - (b : Int) := by rw [IntKind.wrap_i64]; omega
  have z5 : wrap64 ((sa : Int) - (sb : Int)) = (sa : Int) - (sb : Int) := by rw [← IntWalk.i64_left]; exact z3
  have z6 : wrap64 ((a : Int) - (b : Int)) = (a : Int) - (b : Int) := by rw [← IntWalk.i64_left]; exact z4
  by_cases hs : (sa : Int) - (sb : Int) ≠ 0
  · have e1 : (((sa : Int) - (sb : Int)) != 0) = true := by rw [bne_iff_ne]; exact hs
    rw [if_pos hs]
    clear hx hy k1 k2
    go_enter Try.func85, Try.ntmps85
    go_wp2_with (first | (go_at_call 62; with_reducible refine (H1.out _).mono ?_; rintro e w1 ⟨rfl, hw1⟩; subst hw1) | (go_at_call 62; with_reducible refine (H2.out _).mono ?_; rintro e w1 ⟨rfl, hw1⟩; subst hw1))
    go_ret
    exact ⟨rfl, rfl⟩
  · have e1 : (((sa : Int) - (sb : Int)) != 0) = false := by rw [bne_eq_false_iff_eq]; omega
    rw [if_neg hs]
    clear hx hy k1 k2
    go_enter Try.func85, Try.ntmps85
    go_wp2_with (first | (go_at_call 62; with_reducible refine (H1.out _).mono ?_; rintro e w1 ⟨rfl, hw1⟩; subst hw1) | (go_at_call 62; with_reducible refine (H2.out _).mono ?_; rintro e w1 ⟨rfl, hw1⟩; subst hw1))
    go_ret
    exact ⟨rfl, rfl⟩

theorem asFun_mem {β : Type} : ∀ {l : List (Nat × β)}, (l.map (·.1)).Nodup → ∀ {a : Nat} {b : β}, asFun l a = some b ↔ (a, b) ∈ l
  | [], _, a, b => by simp [asFun]
  | e :: l, hn, a, b => by
    rw [List.map_cons, List.nodup_cons] at hn
    have ih := asFun_mem hn.2 (a := a) (b := b)
    unfold asFun at *
    rw [List.find?_cons]
    by_cases h : a = e.1
    · simp only [h, decide_true, Option.map_some, Option.some.injEq, List.mem_cons]
      constructor
      · intro h2; left; rw [← h2]
      · rintro (h2 | h2)
        · rw [← h2]
        · exact absurd (List.mem_map.2 ⟨_, h2, rfl⟩) hn.1
    · simp only [h, decide_false, List.mem_cons]
      rw [ih]
      constructor
      · exact .inr
      · rintro (h2 | h2)
        · exact absurd (by rw [← h2]) h
        · exact h2
/-- what the map of sets holds when j sets have been put in -/
def SeenS (n : Nat) (r : Nat → Nat → Bool) (j : Nat) (col : Nat → Option Bool) : Prop := ∀ k b, col k = some b ↔ b = true ∧ ∃ y, y < j ∧ bef n r y = k
theorem SeenS.step {n : Nat} {r : Nat → Nat → Bool} {j : Nat} {col : Nat → Option Bool} (h : SeenS n r j col) : SeenS n r (j + 1) (setF col (bef n r j) (some true)) := fun k b => by
  unfold setF
  by_cases e : k = bef n r j
  · rw [if_pos e]
    constructor
    · intro h1
      cases h1
      exact ⟨rfl, j, by omega, e.symm⟩
    · rintro ⟨rfl, _⟩; rfl
  · rw [if_neg e, h k b]
    constructor
    · rintro ⟨h1, y, hy, h2⟩; exact ⟨h1, y, by omega, h2⟩
    · rintro ⟨h1, y, hy, h2⟩
      refine ⟨h1, y, ?_, h2⟩
      rcases Nat.lt_or_eq_of_le (Nat.le_of_lt_succ hy) with h3 | h3
      · exact h3
      · subst h3; exact absurd h2.symm e
theorem sets_of {n : Nat} {r : Nat → Nat → Bool} (hn : n ≤ 12) {l : List (Nat × Bool)} {ks ys : List Nat} (h1 : ks.Perm (l.map (·.1))) (h2 : SeenS n r n (asFun l)) (h3 : (l.map (·.1)).Nodup) (h4 : ys.Perm ks) (h5 : ∀ i j, i < j → j < ys.length → ltOf cfL (nth ys j) (nth ys i) = false) : SetsL n r ys := by
  have hm : ∀ s, s ∈ ys ↔ ∃ x, x < n ∧ s = bef n r x := fun s => by
    rw [h4.mem_iff, h1.mem_iff, List.mem_map]
    constructor
    · rintro ⟨⟨a, b⟩, h, rfl⟩
      obtain ⟨_, y, hy, e⟩ := (h2 a b).1 ((asFun_mem h3).2 h)
      exact ⟨y, hy, e.symm⟩
    · rintro ⟨x, hx, rfl⟩
      exact ⟨(bef n r x, true), (asFun_mem h3).1 ((h2 _ true).2 ⟨rfl, x, hx, rfl⟩), rfl⟩
  have hnd : ys.Nodup := h4.nodup_iff.2 (h1.nodup_iff.2 h3)
  have hsm : ∀ s ∈ ys, s % 1048576 = s := fun s hs => by
    obtain ⟨x, _, rfl⟩ := (hm s).1 hs
    exact Nat.mod_eq_of_lt (bef_sm (r := r) hn x).lt
  refine ⟨List.pairwise_iff_getElem.2 fun i j hi hj hij => ?_, hm⟩
  have := h5 i j hij hj
  unfold nth at this
  rw [List.getElem?_eq_getElem hj, List.getElem?_eq_getElem hi, Bool.eq_false_iff] at this
  have hn : ¬ LtS ys[j] ys[i] := fun h => this ((ltOf_cfL _ _).2 (by simpa [hsm _ (List.getElem_mem hj), hsm _ (List.getElem_mem hi)] using h))
  rcases ltS_tri ys[i] ys[j] with h | h | h
  · exact h
  · exact absurd ((List.getElem_inj hnd).1 h) (by omega)
  · exact absurd h hn
theorem Ag.cell {ex : Nat → Prop} {A B : World} (h : Ag ex A B) {p : Addr} (hp : p.block < A.heap.size) (hn : ¬ ex p.block) : B.cell? p = A.cell? p := World.cell?_of_block (w := A) (h.block _ hp hn)
set_option maxRecDepth 100000 in
set_option maxHeartbeats 4000000 in
theorem sets_any (B n : Nat) (r : Nat → Nat → Bool) (w : World) (hn1 : 1 ≤ n) (hn : n ≤ 12) (hO : OrdAt w B n r) :
    Calls Try.prog 53 #[.pointer (some ⟨B, 0, none⟩)] w fun e w' => ∃ v L, e = .returned v ∧ SetsL n r L ∧ QRow w' w.heap.size 3 1 v L.length (iv L) ∧ Below w.heap.size w w' := by
  obtain ⟨i0, hi, hz0, hz1, hz2⟩ := info_parts info3
  have HO := Lib.hid hO
  have HBX : Hid (Below w.heap.size w (w.alloc (.map #[] 0))) := (Below.refl _ w).alloc (Nat.le_refl _) _
  have HM : Hid (MapG kvN bvB (w.alloc (.map #[] 0)) w.heap.size (fun _ => none)) := MapG.made w
  have HOX := Lib.hid (hO.below HBX.out (Nat.le_refl _))
  have hBw := hO.lt
  clear hO
  have hmm := @run_makeMap Try.prog
  go_enter Try.func53, Try.ntmps53
  go_upto_region 2 with (fail)
  obtain ⟨M, hM⟩ : ∃ M, Hid (M = w.heap.size) := ⟨_, rfl⟩
  rw [← hM.out] at HM
  simp only [← hM.out]
  generalize w.alloc (.map #[] 0) = X at *
  have c0 := HOX.out.cn
  have gn : (0 : Int) ≤ (n : Int) := by omega
  have gn2 : (n : Int) ≤ 12 := by omega
  have hMX : M < X.heap.size := HM.out.lt
  have hwX : w.heap.size ≤ X.heap.size := HBX.out.size
  go_quiet (fail)
  have HMX := Lib.hid (HM.out.kept (W' := X.drewN nq) rfl)
  have HOQ := Lib.hid (HOX.out.dr nq)
  have HBQ := Lib.hid (below_dr HBX.out nq)
  have hsq : X.heap.size = (X.drewN nq).heap.size := rfl
  rw [hsq] at hMX hwX
  generalize X.drewN nq = Y at *
  clear HM HOX HBX
  go_upto_region 3 with (fail)
  go_loopw [18] (fun s18 wr => ∃ (j : Nat) (col : Nat → Option Bool), j ≤ n ∧ s18 = .int .i64 (j : Int) ∧ Hid (MapG kvN bvB wr M col) ∧ Hid (SeenS n r j col) ∧ Hid (Ag (· = M) Y wr)) (fun s18 _ => n - (intOf s18).toNat)
  case atStart => exact ⟨0, _, by omega, rfl, HMX, (fun k b => ⟨(fun h => by cases h), fun h => by obtain ⟨_, y, hy, _⟩ := h; omega⟩), Ag.refl _ _⟩
  case round =>
    obtain ⟨j, col, hj, rfl, hMW, hS, hA⟩ := hrel
    by_cases hjn : j < n
    · have g1 : (j : Int) < (n : Int) := by omega
      have g2 : (0 : Int) ≤ (j : Int) := by omega
      have l1 := (HOQ.out.cb j hjn)
      have l2 := (hA.out.cell (p := ⟨B, 1 + j, none⟩) (by show B < _; rw [← hsq]; omega) (by show ¬ B = M; have := hM.out; omega)).trans l1
      have HSN := Lib.hid hS.out.step
      clear l1
      generalize bef n r j = k at *
      go_wp2_with (refine wpList_store_g kind158 rfl (.tmp 22) (.tmp 23) (.const (.bool true)) rfl M col k true rfl rfl rfl hMW.out ?_; intro w8 hM8 hg8; have HM8 := Lib.hid hM8; have HA8 := Lib.hid (hA.out.grown hg8 (fun kk e => by cases e; exact .inr rfl)); clear hM8 hg8)
      exact ⟨⟨j + 1, _, by omega, int_eq (by omega), HM8, HSN, HA8⟩, by simp [intOf]; omega⟩
    · have g1 : ¬ (j : Int) < (n : Int) := by omega
      obtain rfl : j = n := by omega
      obtain ⟨l, hl1, hl2⟩ := hMW.out
      have hS2 : SeenS j r j (asFun l) := fun k b => by rw [hl2 k]; exact hS.out k b
      have HS2 := Lib.hid hS2
      have HND := Lib.hid hl1.2
      have HBW : Hid (Below w.heap.size w wr) := hA.out.below HBQ.out HBQ.out.size (fun k hk e => by have := hM.out; omega)
      have hMr : M < wr.heap.size := hMW.out.lt
      have hww : w.heap.size ≤ wr.heap.size := HBW.out.size
      clear hS2 hl2 hS hA
      go_upto_region 9 with (refine wpList_range_g kind158 rfl (.tmp 25) rfl M l rfl hl1 ?_; intro w5 hR5 hg5 hs5; have HR5 := Lib.hid hR5; have HG5 := Lib.hid hg5; have HS5 := Lib.hid hs5; clear hR5 hg5 hs5)
      obtain ⟨wz, hwz⟩ : ∃ wz, Hid (wz = wr) := ⟨_, rfl⟩
      have HB5 : Hid (Below wz.heap.size wz w5) := by rw [hwz.out]; exact Below.grown (Below.refl _ _) HG5.out (Nat.le_refl _) (fun kk e => by cases e)
      obtain ⟨q, hq⟩ : ∃ q, Hid (q = wr.heap.size) := ⟨_, rfl⟩
      have hrz := Lib.hid (show wz.heap.size = q by rw [hwz.out, hq.out])
      rw [← hwz.out] at HBW
      have hwr : w.heap.size ≤ q := by rw [hq.out]; exact hww
      rw [hrz.out] at HB5
      rw [← hq.out] at HR5 hMr
      simp only [← hq.out]
      have hr5 : q < w5.heap.size := by rw [HS5.out, hq.out]; omega
      have hl40 : l.length ≤ 1099511627776 := by
        have : (l.map (·.1)).length ≤ j := by
          have h1 : ∀ k ∈ l.map (·.1), k ∈ (List.range j).map (bef j r) := fun k hk => by
            obtain ⟨⟨a, b⟩, hab, rfl⟩ := List.mem_map.1 hk
            obtain ⟨_, y, hy, e⟩ := (HS2.out a b).1 ((asFun_mem HND.out).2 hab)
            exact List.mem_map.2 ⟨y, List.mem_range.2 hy, e⟩
          have := nodup_in (l.map (·.1)) ((List.range j).map (bef j r)) HND.out h1
          simpa using this
        simp at this
        omega
      clear hl1 hwz HG5 HS5
      go_loopg [6] l.length (fun gk s6 wq => ∃ (todo : List (Nat × Bool)) (outs : List Nat), todo.length ≤ gk ∧ QRow wq w5.heap.size 3 1 s6 outs.length (iv outs) ∧ Hid ((outs ++ todo.map (·.1)).Perm (l.map (·.1))) ∧ Hid (RngG kvN bvB wq M q todo) ∧ Hid (Below q wz wq) ∧ outs.length + todo.length ≤ l.length ∧ w5.heap.size ≤ wq.heap.size)
      case atStart => exact ⟨l, [], Nat.le_refl _, QRow.nil _ _ _ _, List.Perm.refl _, HR5, HB5, by simp, Nat.le_refl _⟩
      case round =>
        clear HR5 HB5
        obtain ⟨todo, outs, htl, hq', hperm, hR, hB, hlen2, hws⟩ := hrel
        go_wp2_with (first | (refine wpList_next_g rfl (.tmp 26) rfl M q todo rfl hR.out ?_ ?_))
        · intro h0
          subst h0
          obtain ⟨s1, s2, rfl⟩ := hq'.isSlice
          have hP1 := hperm.out
          simp only [List.map_nil, List.append_nil] at hP1
          have HP1 := Lib.hid hP1
          have HQ1 := Lib.hid hq'
          have hll : outs.length ≤ 1099511627776 := by omega
          have HCMP := Lib.hid (sortF_q 85 #[] (fun x => .int .i64 ((x % 1048576 : Nat) : Int)) (fun _ => rfl) cfL swoL (enters_of Try.func85 (by kernel_rfl) rfl) wr w5.heap.size (.slice s1 outs.length s2) outs (fun x hx => by
            obtain ⟨⟨a, b⟩, hab, rfl⟩ := List.mem_map.1 (HP1.out.mem_iff.1 hx)
            obtain ⟨_, y, _, e⟩ := (HS2.out a b).1 ((asFun_mem HND.out).2 hab)
            show Value.int .i64 ((a % 1048576 : Nat) : Int) = _
            rw [Nat.mod_eq_of_lt (by rw [← e]; exact (bef_sm (r := r) hn y).lt)]) HQ1.out hll (fun _ W' _ x y => (cmpSets_any x y W').mono (by rintro e w' ⟨rfl, rfl⟩; exact ⟨rfl, 0, rfl⟩)))
          clear hq' hP1
          go_wp2_with (go_at_call 84; refine HCMP.out.mono ?_; rintro e X3 ⟨rfl, ⟨ys, hperm3, hsort, hq3⟩, hA3⟩; have HP3 := Lib.hid hperm3; have HSO := Lib.hid hsort; have HQ3 := Lib.hid hq3; have HA3 := Lib.hid hA3; clear hperm3 hsort hq3 hA3)
          go_ret
          have hl3 : ys.length = outs.length := HP3.out.length_eq
          refine ⟨_, ys, rfl, sets_of hn HP1.out HS2.out HND.out HP3.out HSO.out, ?_, ?_⟩
          · rw [hl3]; exact HQ3.out.mono (by omega)
          · exact HA3.out.below (HBW.out.trans (hB.out.mono hwr)) (by have := hws; omega) (fun k hk e => by have := (HQ1.out.lt k e).1; omega)
        · intro pre x
          refine ⟨?_, ?_⟩
          all_goals
            intro post w6 htd hR6 hg6 hs6 hen
            have hen' := hen
            unfold kvN bvB at hen'
            have HQ6 := Lib.hid (hq'.kept hg6 (.inr (fun e => by have := hq'.lt q e; omega)))
            have HR6 := Lib.hid hR6
            have HB6 : Hid (Below q wz w6) := Below.grown hB.out hg6 (by omega) (fun kk e => by cases e; exact Nat.le_refl _)
            have HP6 : Hid (((outs ++ [x]) ++ (pre ++ post).map (·.1)).Perm (l.map (·.1))) := by
              refine List.Perm.trans ?_ hperm.out
              rw [htd, List.map_append, List.map_append, List.map_cons, List.append_assoc]
              exact List.Perm.append_left _ (show (x :: (pre.map (·.1) ++ post.map (·.1))).Perm (pre.map (·.1) ++ x :: post.map (·.1)) from List.perm_middle.symm)
            have htl6 : (pre ++ post).length + 1 = todo.length := by rw [htd]; simp; omega
            have hws6 : w5.heap.size ≤ w6.heap.size := by rw [hs6]; exact hws
            have HSN : Hid (iv (outs ++ [x]) = iv outs ++ [.int .i64 (x : Int)]) := iv_snoc outs x
            have hol : outs.length + 1 ≤ 1099511627776 := by omega
            have HQA := Lib.hid (HQ6.out.alloc (.cells #[.int .i64 (x : Int)] 3))
            have HLT := Lib.hid (fun kk e => Nat.le_of_lt (Nat.lt_of_lt_of_le hr5 (hq'.lt kk e).1))
            have hlenE : (outs ++ [x]).length = outs.length + 1 := by simp
            have HRL := Lib.hid (HR6.out.lt)
            have HLN := Lib.hid hq'.lt
            clear htd hR6 hg6 hs6 hen hq' hperm hR hB
            go_wp2_with (at_builtin; go_must (refine wpList_append_q _ rfl (.tmp 31) (.tmp 33) 34 rfl w5.heap.size 3 i0 (.int .i64 0) 1 8 Try.underlying34 hi hz0 hz1 hz2 rfl (by decide) _ outs.length (iv outs) rfl HQA.out ⟨_, 0, none⟩ 1 1 [.int .i64 (x : Int)] rfl rfl (cells_new1 _ _ _) (by simp [Value.oneCell']) (by unfold maxLen; omega) (by omega) (by simp; omega) ?_); intro v7 w7 hq7 hg7 ho7; have HQ7 : Hid (QRow w7 w5.heap.size 3 1 v7 (outs ++ [x]).length (iv (outs ++ [x]))) := (by rw [HSN.out, hlenE]; exact hq7); have HB7 : Hid (Below q wz w7) := Below.grown (HB6.out.alloc (by omega) _) hg7 (by simp; omega) (fun kk e => HLT.out kk e); have HR7 : Hid (RngG kvN bvB w7 M q (pre ++ post)) := (HR6.out.grown (World.grownBy_alloc _ _ none) (by simp) (by simp)).grown hg7 (fun e => by have := HLN.out M e.symm; omega) (fun e => by have := HLN.out q e.symm; omega); have hws7 : w5.heap.size ≤ w7.heap.size := Nat.le_trans hws6 (Nat.le_trans (by simp) hg7.size); clear hq7 hg7 ho7)
            go_roundg (pre ++ post).length
            case measure => omega
            case rel => exact ⟨pre ++ post, outs ++ [x], Nat.le_refl _, HQ7.out, HP6, HR7, HB7, by omega, hws7⟩
end Go.Proofs.Ytbioondlmgolkaa
namespace Go.Proofs.Ytbioondlmgolkaa
open Go.RowKit Go.Shelf

def la (ps : List (Int × Int)) (j : Nat) : Int := (ps[j]?.getD (0, 0)).1
def ua (ps : List (Int × Int)) (j : Nat) : Int := (ps[j]?.getD (0, 0)).2
theorem Pairs.at {w : World} {a : Option Addr} {ps : List (Int × Int)} (h : Pairs w a ps) {k : Nat} (hk : k < ps.length) : ∃ b o, a = some ⟨b, o, none⟩ ∧ b < w.heap.size ∧ w.cell? ⟨b, o + k * 2, none⟩ = some (.int .i64 (la ps k)) ∧ w.cell? ⟨b, o + k * 2 + 1, none⟩ = some (.int .i64 (ua ps k)) := by
  obtain ⟨b, o, e, hb, hc⟩ := h (fun e => by rw [e] at hk; simp at hk)
  exact ⟨b, o, e, hb, (hc k hk).1, (hc k hk).2⟩
end Go.Proofs.Ytbioondlmgolkaa
namespace Go.Proofs.Ytbioondlmgolkaa
open Go.RowKit Go.Shelf
theorem cells_newB (W : World) (t : TypeId) (u u' : Value) : ∀ (j : Nat) (x : Value), [u, u'][j]? = some x → (W.alloc (.cells #[u, u'] t)).cell? ((⟨W.heap.size, 0, none⟩ : Addr).add j) = some x := fun j x h => by
  rw [Addr.add_lit, Nat.zero_add, (BoxN.new (W := W) (t := t) (vs := #[u, u']) rfl).cell]
  simpa using h
theorem pairs_new (w : World) (ps : List (Int × Int)) (vs : Array Value) (h : vs = (pairCells ps).toArray) : Pairs (w.alloc (.cells vs 28)) (some ⟨w.heap.size, 0, none⟩) ps := fun _ => by
  subst h
  refine ⟨w.heap.size, 0, rfl, by simp, fun j hj => ?_⟩
  have hb : BoxN (w.alloc (.cells (pairCells ps).toArray 28)) w.heap.size 28 (pairCells ps).toArray := BoxN.new rfl
  have := pairCells_get ps j hj
  rw [hb.cell, hb.cell]
  simpa using this
theorem Pairs.src {w : World} {a : Option Addr} {ps : List (Int × Int)} (h : Pairs w a ps) (k : Nat) (hk : k ≤ ps.length) : Src w a k 2 (pairCells (ps.take k)) := by
  have hl : (ps.take k).length = k := by rw [List.length_take]; omega
  refine ⟨by rw [pairCells_length, hl], fun hm => ?_⟩
  obtain ⟨b, off, e, h1, h2⟩ := h fun e => by rw [e] at hk; simp at hk; omega
  refine ⟨_, e, fun j u hu => ?_⟩
  have hj := (List.getElem?_eq_some_iff.1 hu).1
  rw [pairCells_length, hl] at hj
  have hq := h2 (j / 2) (by omega)
  have hg := pairCells_get (ps.take k) (j / 2) (by omega)
  have ht : (ps.take k)[j / 2]?.getD (0, 0) = ps[j / 2]?.getD (0, 0) := by rw [List.getElem?_take, if_pos (by omega)]
  rw [ht] at hg
  rw [Addr.add_lit]
  rcases Nat.mod_two_eq_zero_or_one j with h0 | h0
  · have e2 : j / 2 * 2 = j := by omega
    rw [e2] at hq hg
    rw [hg.1] at hu
    cases hu
    exact hq.1
  · have e2 : j / 2 * 2 + 1 = j := by omega
    rw [e2] at hg
    rw [hg.2] at hu
    cases hu
    have := hq.2
    rw [Nat.add_assoc, e2] at this
    exact this
theorem QRow.pairs {w : World} {base : Nat} {p : Option Addr} {m c : Nat} {ps : List (Int × Int)} (h : QRow w base 28 2 (.slice p m c) m (pairCells ps)) (hm : m = ps.length) : Pairs w p ps := fun hne => by
  have h0 := List.length_pos_iff.2 hne
  obtain ⟨b, o, cap, e, _, hb, _, _, hc, _⟩ := h.at (by omega)
  cases e
  refine ⟨b, o, rfl, hb, fun j hj => ?_⟩
  have := pairCells_get ps j hj
  exact ⟨(hc (j * 2) (by omega)).trans this.1, by rw [Nat.add_assoc]; exact (hc (j * 2 + 1) (by omega)).trans this.2⟩
theorem pairCells_append : ∀ (ps qs : List (Int × Int)), pairCells (ps ++ qs) = pairCells ps ++ pairCells qs
  | [], _ => rfl
  | p :: ps, qs => by show Value.int .i64 p.1 :: Value.int .i64 p.2 :: pairCells (ps ++ qs) = _; rw [pairCells_append ps qs]; rfl
end Go.Proofs.Ytbioondlmgolkaa
namespace Go.Proofs.Ytbioondlmgolkaa
open Go.RowKit Go.Shelf

/-- a row of numbers -/
def RowN (w : World) (p : Option Addr) (L : List Nat) : Prop := ∀ j, j < L.length → ∃ b o, p = some ⟨b, o, none⟩ ∧ b < w.heap.size ∧ w.cell? ⟨b, o + j, none⟩ = some (.int .i64 (nthN L j : Nat))
theorem QRow.rowN {w : World} {base : Nat} {p : Option Addr} {m c : Nat} {L : List Nat} (h : QRow w base 3 1 (.slice p m c) m (iv L)) : RowN w p L := fun j hj => by
  have hm : L.length = m := by have := h.1; rw [iv_length] at this; omega
  obtain ⟨b, o, cap, e, _, hb, _, _, hc, _⟩ := h.at (by omega)
  cases e
  refine ⟨b, o, rfl, hb, (hc j (by omega)).trans ?_⟩
  rw [iv_get hj]; rfl
theorem RowN.below {k : Nat} {w W : World} {p : Option Addr} {L : List Nat} (h : RowN w p L) (hB : Below k w W) (hk : w.heap.size ≤ k) : RowN W p L := fun j hj => by
  obtain ⟨b, o, e, h1, h2⟩ := h j hj
  exact ⟨b, o, e, Nat.lt_of_lt_of_le h1 hB.size, (hB.cell (p := ⟨b, o + j, none⟩) (Nat.lt_of_lt_of_le h1 hk)).trans h2⟩
set_option maxRecDepth 100000 in
theorem index_any (p : Option Addr) (c : Nat) (L : List Nat) (s : Nat) (w : World) (hl : L.length ≤ 1099511627776) (hs : s ∈ L) (hR : RowN w p L) :
    Calls Try.prog 83 #[.slice p L.length c, .int .i64 (s : Int)] w fun e w' => e = .returned (.int .i64 (lftS L s : Nat)) ∧ w' = w := by
  have HR := Lib.hid hR
  have hil : L.idxOf s < L.length := List.idxOf_lt_length_of_mem hs
  have HI : Hid (∀ j, j < L.length → (nthN L j = s → lftS L s ≤ j) ∧ (j = lftS L s → nthN L j = s)) := fun j hj => by
    unfold nthN lftS
    rw [List.getElem?_eq_getElem hj]
    refine ⟨fun e => ?_, fun e => ?_⟩
    · refine Nat.le_of_not_lt fun hlt => ?_
      have := List.not_of_lt_findIdx (p := (· == s)) (xs := L) (show j < L.findIdx (· == s) from hlt)
      simp at this
      exact this e
    · subst e
      simp
  have hk : lftS L s < L.length := hil
  generalize lftS L s = k at *
  obtain ⟨len, HL⟩ : ∃ len, Hid (L.length = len) := ⟨_, rfl⟩
  rw [HL.out] at HI hl hk ⊢
  clear hR hs hil
  go_enter Try.func83, Try.ntmps83
  go_upto_region 2 with (fail)
  go_loopw [8] (fun s8 wr => ∃ j : Nat, j ≤ k ∧ s8 = .int .i64 (j : Int) ∧ Hid (wr = w)) (fun s8 _ => len - (intOf s8).toNat)
  case atStart => exact ⟨0, by omega, rfl, rfl⟩
  case round =>
    obtain ⟨j, hj, rfl, hw⟩ := hrel
    rw [hw.out]
    clear hw
    have hjl : j < len := by omega
    have g1 : (j : Int) < (len : Int) := by omega
    have g2 : (0 : Int) ≤ (j : Int) := by omega
    obtain ⟨b, o, rfl, hb, hc⟩ := HR.out j (by rw [HL.out]; exact hjl)
    have h1 := (HI.out j hjl).1
    have h2 := (HI.out j hjl).2
    by_cases e : j = k
    · have hx := h2 e
      rw [hx] at hc
      subst e
      clear h1 h2 HI
      go_wp2
      go_ret
      exact ⟨rfl, rfl⟩
    · have hne : ¬ (s : Int) = (nthN L j : Int) := by
        intro e2
        have := h1 (by omega)
        omega
      clear h1 h2 HI
      generalize nthN L j = z at *
      go_wp2
      exact ⟨⟨j + 1, by omega, int_eq (by omega), True.intro⟩, by simp [intOf]; omega⟩
/-- the canonical intervals -/
def canonPs (n : Nat) (r : Nat → Nat → Bool) (L : List Nat) : List (Int × Int) := (List.range n).map fun x => (((lftS L (bef n r x) : Nat) : Int), ((rgtTo L x L.length : Nat) : Int))
theorem canonPs_len (n : Nat) (r : Nat → Nat → Bool) (L : List Nat) : (canonPs n r L).length = n := by simp [canonPs]
theorem canonPs_take {n : Nat} {r : Nat → Nat → Bool} {L : List Nat} {x : Nat} (hx : x < n) : pairCells ((canonPs n r L).take (x + 1)) = pairCells ((canonPs n r L).take x) ++ [.int .i64 ((lftS L (bef n r x) : Nat) : Int), .int .i64 ((rgtTo L x L.length : Nat) : Int)] := by
  have hl : x < (canonPs n r L).length := by rw [canonPs_len]; exact hx
  rw [List.take_succ_eq_append_getElem hl, pairCells_append]
  congr 1
  have h : (canonPs n r L)[x]? = some (((lftS L (bef n r x) : Nat) : Int), ((rgtTo L x L.length : Nat) : Int)) := by
    unfold canonPs; rw [List.getElem?_map, List.getElem?_range hx]; rfl
  have : (canonPs n r L)[x] = (((lftS L (bef n r x) : Nat) : Int), ((rgtTo L x L.length : Nat) : Int)) := (List.getElem?_eq_some_iff.1 h).2
  rw [this]
  rfl
theorem info107 : (Try.prog.info? 107).map (fun i => (i.zero, i.size, i.bytes)) = some (some (.agg #[.int .i64 0, .int .i64 0]), 2, 16) := by kernel_rfl
theorem under104 : Try.prog.underlying 104 = some (.slice 107) := by kernel_rfl
set_option maxRecDepth 100000 in
set_option maxHeartbeats 4000000 in
theorem ivals_any (B n : Nat) (r : Nat → Nat → Bool) (w : World) (hn1 : 1 ≤ n) (hn : n ≤ 12) (hO : OrdAt w B n r) :
    Calls Try.prog 52 #[.pointer (some ⟨B, 0, none⟩)] w fun e w' => ∃ v L, e = .returned v ∧ SetsL n r L ∧ QRow w' w.heap.size 107 2 v n (pairCells (canonPs n r L)) ∧ Below w.heap.size w w' := by
  obtain ⟨i0, hi0, hz0, hz1, hz2⟩ := info_parts info107
  have HS := Lib.hid (sets_any B n r w hn1 hn hO)
  have HO := Lib.hid hO
  have hBw := hO.lt
  clear hO
  go_enter Try.func52, Try.ntmps52
  go_upto_region 2 with (go_at_call 53; refine HS.out.mono ?_; rintro e w1 ⟨v1, L, rfl, hSL, hq1, hB1⟩; have HSL := Lib.hid hSL; have HQ1 := Lib.hid hq1; have HB1 := Lib.hid hB1; clear hSL hq1 hB1)
  obtain ⟨p1, c1, rfl⟩ := HQ1.out.isSlice
  have hsw : w.heap.size ≤ w1.heap.size := HB1.out.size
  have HO1 := Lib.hid (HO.out.below HB1.out (Nat.le_refl _))
  have HR1 := Lib.hid HQ1.out.rowN
  have hLn : L.length ≤ n := by
    have h1 : ∀ k ∈ L, k ∈ (List.range n).map (bef n r) := fun k hk => by
      obtain ⟨y, hy, e⟩ := (HSL.out.mem k).1 hk
      exact List.mem_map.2 ⟨y, List.mem_range.2 hy, e.symm⟩
    have := nodup_in L ((List.range n).map (bef n r)) HSL.out.nodup h1
    simpa using this
  have c0 := HO1.out.cn
  clear HS HQ1
  have HIX := Lib.hid (fun W (hW : Below w1.heap.size w1 W) x (hx : x < n) => index_any p1 c1 L (bef n r x) W (by omega) ((HSL.out.mem _).2 ⟨x, hx, rfl⟩) (HR1.out.below hW (Nat.le_refl _)))
  obtain ⟨len, HL⟩ : ∃ len, Hid (L.length = len) := ⟨_, rfl⟩
  rw [HL.out] at HIX hLn ⊢
  go_upto_region 4 with (fail)
  go_loopw [4, 15] (fun s4 s15 wr => ∃ i : Nat, i ≤ n ∧ s15 = .int .i64 (i : Int) ∧ QRow wr w1.heap.size 107 2 s4 i (pairCells ((canonPs n r L).take i)) ∧ Hid (Below w1.heap.size w1 wr)) (fun _ s15 _ => n - (intOf s15).toNat)
  case atStart => exact ⟨0, by omega, rfl, QRow.nil _ _ _ _, Below.refl _ _⟩
  case round =>
    obtain ⟨i, hi, rfl, hq, hB⟩ := hrel
    by_cases hin : i < n
    · have g1 : (i : Int) < (n : Int) := by omega
      have g2 : (0 : Int) ≤ (i : Int) := by omega
      have g3 : (i : Int) < 12 := by omega
      have l1 := (hB.out.cell (p := ⟨B, 1 + i, none⟩) (by show B < _; omega)).trans (HO1.out.cb i hin)
      have HC := Lib.hid (HIX.out wr hB.out i hin)
      have HCT := Lib.hid (canonPs_take (r := r) (L := L) hin)
      rw [HL.out] at HCT
      generalize lftS L (bef n r i) = lf at *
      generalize bef n r i = be at *
      have hsr : w1.heap.size ≤ wr.heap.size := hB.out.size
      obtain ⟨wo, hwo⟩ : ∃ wo, Hid (wo = wr) := ⟨_, rfl⟩
      rw [← hwo.out] at hq hB l1 HC hsr ⊢
      clear hwo
      go_upto_region 7 with (go_at_call 83; refine HC.out.mono ?_; rintro e w4 ⟨rfl, hw4⟩; subst hw4)
      obtain ⟨bx, hbx⟩ : ∃ bx, Hid (bx = w4.heap.size) := ⟨_, rfl⟩
      have HBX : Hid (BoxN (w4.alloc (.cells #[.int .i64 (lf : Int), .int .i64 0] 107)) w4.heap.size 107 #[.int .i64 (lf : Int), .int .i64 ((rgtTo L i 0 : Nat) : Int)]) := BoxN.new rfl
      have HXB : Hid (Below w4.heap.size w4 (w4.alloc (.cells #[.int .i64 (lf : Int), .int .i64 0] 107))) := (Below.refl _ _).alloc (Nat.le_refl _) _
      rw [← hbx.out] at HBX
      simp only [← hbx.out]
      generalize w4.alloc (.cells #[.int .i64 (lf : Int), .int .i64 0] 107) = X at *
      have HQX := Lib.hid (hq.below HXB.out (fun k e => (hq.lt k e).2))
      have HLTQ := Lib.hid (fun kk (e : _ = some kk) => (hq.lt kk e).2)
      clear hq l1 HC
      have hox : w4.heap.size ≤ X.heap.size := HXB.out.size
      have hbw : w4.heap.size ≤ bx := Nat.le_of_eq hbx.out.symm
      have HBXX := Lib.hid (hB.out.trans (HXB.out.mono hsr))
      go_upto_region 8 with (fail)
      go_loopw [29] (fun s29 wq => ∃ k : Nat, k ≤ len ∧ s29 = .int .i64 (k : Int) ∧ BoxN wq bx 107 #[.int .i64 (lf : Int), .int .i64 ((rgtTo L i k : Nat) : Int)] ∧ Hid (Ag (· = bx) X wq)) (fun s29 _ => len - (intOf s29).toNat)
      case atStart => exact ⟨0, by omega, rfl, HBX.out, Ag.refl _ _⟩
      case round =>
        obtain ⟨k, hk, rfl, hbox, hA⟩ := hrel
        by_cases hkl : k < len
        · have g4 : (k : Int) < (len : Int) := by omega
          have g5 : (0 : Int) ≤ (k : Int) := by omega
          obtain ⟨b, o, rfl, hb, hc⟩ := HR1.out k (by rw [HL.out]; exact hkl)
          have hAB : Below w1.heap.size w1 wr := hA.out.below HBXX.out HBXX.out.size (fun kk hkk e => by omega)
          have l2 := (hAB.cell (p := ⟨b, o + k, none⟩) hb).trans hc
          have hbs : Sm (nthN L k) := by
            obtain ⟨y, _, e⟩ := (HSL.out.mem (nthN L k)).1 (by unfold nthN; rw [List.getElem?_eq_getElem (by rw [HL.out]; exact hkl)]; exact List.getElem_mem _)
            rw [e]; exact bef_sm hn y
          have HRT : Hid (rgtTo L i (k + 1) = if (nthN L k).testBit i = true then rgtTo L i k else k) := rfl
          have hf1 := hbox.frozen 1
          have hc1 := hbox.cell 1
          have h20 : i < 20 := by omega
          clear hc hAB
          generalize nthN L k = s at *
          by_cases hbit : s.testBit i = true
          · have HN : Hid (rgtTo L i (k + 1) = rgtTo L i k) := HRT.out.trans (if_pos hbit)
            go_wp2
            exact ⟨⟨k + 1, by omega, int_eq (by omega), by rw [HN.out]; exact hbox, hA⟩, by simp [intOf]; omega⟩
          · have hbit' : s.testBit i = false := by simpa using hbit
            have HN : Hid (rgtTo L i (k + 1) = k) := HRT.out.trans (if_neg hbit)
            go_wp2
            exact ⟨⟨k + 1, by omega, int_eq (by omega), by rw [HN.out]; exact hbox.set 1 _, hA.out.set ⟨bx, 1, none⟩ _ (.inr rfl)⟩, by simp [intOf]; omega⟩
        · have g4 : ¬ (k : Int) < (len : Int) := by omega
          obtain rfl : k = len := by omega
          have d0 := hbox.cell 0
          have d1 := hbox.cell 1
          have hxr : X.heap.size ≤ wr.heap.size := hA.out.size
          have HQR : Hid (QRow wr w1.heap.size 107 2 u4 i (pairCells ((canonPs n r L).take i))) := by
            have hB3 : Below w4.heap.size X wr := hA.out.below (Below.refl _ _) hox (fun kk hkk e => by omega)
            exact HQX.out.below hB3 (fun kk e => HLTQ.out kk e)
          have HBR := Lib.hid (hA.out.below HBXX.out HBXX.out.size (fun kk hkk e => by omega))
          generalize rgtTo L i k = rt at *
          have HQA := Lib.hid (HQR.out.alloc (.cells #[.int .i64 (lf : Int), .int .i64 (rt : Int)] 107))
          have hwr : w1.heap.size ≤ wr.heap.size := HBR.out.size
          have HLB := Lib.hid (fun kk (e : _ = some kk) => (HQR.out.lt kk e).1)
          go_wp2_with (at_builtin; go_must (refine wpList_append_q _ rfl (.tmp 43) (.tmp 45) 104 rfl w1.heap.size 107 i0 (.agg #[.int .i64 0, .int .i64 0]) 2 16 under104 hi0 hz0 hz1 hz2 rfl (by decide) _ i (pairCells ((canonPs n r L).take i)) rfl HQA.out ⟨_, 0, none⟩ 1 1 [.int .i64 (lf : Int), .int .i64 (rt : Int)] rfl rfl (cells_newB _ _ _ _) (by simp [Value.oneCell']) (by unfold maxLen; omega) (by omega) (by simp; omega) ?_); intro v7 w7 hq7 hg7 ho7; have HQ7 : Hid (QRow w7 w1.heap.size 107 2 v7 (i + 1) (pairCells ((canonPs n r L).take (i + 1)))) := (by rw [HCT.out]; exact hq7); have HB7 : Hid (Below w1.heap.size w1 w7) := Below.grown (HBR.out.alloc hwr _) hg7 (by simp; omega) (fun kk e => HLB.out kk e); clear hq7 hg7 ho7)
          exact ⟨⟨i + 1, by omega, int_eq (by omega), HQ7.out, HB7⟩, by simp [intOf]; omega⟩
    · have g1 : ¬ (i : Int) < (n : Int) := by omega
      obtain rfl : i = n := by omega
      have HQ := Lib.hid hq
      obtain ⟨p4, c4, rfl⟩ := hq.isSlice
      clear hq
      go_wp2
      go_ret
      refine ⟨_, rfl, L, HSL.out, ?_, HB1.out.trans (hB.out.mono hsw)⟩
      have := HQ.out
      rw [List.take_of_length_le (by rw [canonPs_len]; exact Nat.le_refl _)] at this
      exact this.mono hsw
end Go.Proofs.Ytbioondlmgolkaa
namespace Go.Proofs.Ytbioondlmgolkaa
open Go.RowKit Go.Shelf

/-- what Magnitude answers -/
def MagA (n : Nat) (ln : Nat → Nat) (r : Nat → Nat → Bool) (e : Ending) : Prop :=
  (e = .returned (.tuple #[.int .i64 0, .int .i64 100]) ∧ ¬ TabOK n ln r) ∨ ∃ L : List Nat, e = .returned (.tuple #[.int .i64 (L.length : Int), .int .i64 0]) ∧ TabOK n ln r ∧ SetsL n r L
set_option maxRecDepth 100000 in
set_option maxHeartbeats 1000000 in
theorem Magnitude_any (la : Option Addr) (n lc : Nat) (ln : Nat → Nat) (r : Nat → Nat → Bool) (w : World) (hn : n ≤ 1099511627776) (hT : TblI w la n ln r) :
    Calls Try.prog 24 #[.slice la n lc] w fun e w' => MagA n ln r e ∧ Below w.heap.size w w' := by
  have HC := Lib.hid (open_any la n lc ln r _ hn hT)
  clear hT
  go_enter Try.func24, Try.ntmps24
  go_upto_region 2 with (go_at_call 47; refine HC.out.mono ?_; rintro e w1 ⟨ha, hB1⟩; have HB1 := Lib.hid hB1; clear hB1; rcases ha with ⟨rfl, hno⟩ | ⟨B, rfl, hok, hB, hO⟩)
  · have HNO := Lib.hid hno
    clear hno
    go_wp2
    refine bodyPost_ret (v := .tuple #[.int .i64 0, .int .i64 100]) (by simp [results, Try.f24, go_sem]) rfl ?_
    exact ⟨.inl ⟨rfl, HNO.out⟩, HB1.out⟩
  · have HOK := Lib.hid hok
    have HS := Lib.hid (sets_any B n r w1 hok.n1 hok.n12 hO)
    have hw1 : w.heap.size ≤ w1.heap.size := HB1.out.size
    clear hok hO HC
    go_upto_region 4 with (fail)
    go_wp2_with (go_at_call 53; refine HS.out.mono ?_; rintro e w2 ⟨v, L, rfl, hSL, hq, hB2⟩; obtain ⟨p, c, rfl⟩ := hq.isSlice; have HSL := Lib.hid hSL; have HB2 := Lib.hid hB2; clear hSL hq hB2)
    refine bodyPost_ret (v := .tuple #[.int .i64 (L.length : Int), .int .i64 0]) (by simp [results, Try.f24, go_sem]) rfl ?_
    exact ⟨.inr ⟨L, rfl, HOK.out, HSL.out⟩, HB1.out.trans (HB2.out.mono hw1)⟩
end Go.Proofs.Ytbioondlmgolkaa
namespace Go.Proofs.Ytbioondlmgolkaa
open Go.RowKit Go.Shelf

theorem QRow.pairs' {w : World} {base : Nat} {e : TypeId} {p : Option Addr} {m c : Nat} {ps : List (Int × Int)} (h : QRow w base e 2 (.slice p m c) m (pairCells ps)) (hm : m = ps.length) : Pairs w p ps := fun hne => by
  have hl : 0 < ps.length := List.length_pos_iff.2 hne
  obtain ⟨b, o, cap, e1, _, hb, _, _, hc, _⟩ := h.at (by omega)
  cases e1
  refine ⟨b, o, rfl, hb, fun j hj => ?_⟩
  have := pairCells_get ps j hj
  exact ⟨(hc (j * 2) (by omega)).trans this.1, (hc (j * 2 + 1) (by omega)).trans this.2⟩
end Go.Proofs.Ytbioondlmgolkaa
namespace Go.Proofs.Ytbioondlmgolkaa
open Go.RowKit Go.Shelf Go.Sort

theorem RowB.q {W : World} {B n base : Nat} {f : Nat → Int} (h : RowB W B n f) (hb : base ≤ B) (hn : n ≤ maxLen) : QRow W base 3 1 (.slice (some ⟨B, 0, none⟩) n n) n (ivI f n) := by
  obtain ⟨vs, h1, h2, h3⟩ := h
  refine ⟨by rw [ivI_len]; omega, .inr ⟨B, 0, n, vs, rfl, hb, h1, Nat.le_refl _, hn, by omega, fun j hj => ?_⟩⟩
  rw [Nat.zero_add, h3 j (by omega), ivI_get _ _ _ (by omega)]
end Go.Proofs.Ytbioondlmgolkaa
namespace Go.Proofs.Ytbioondlmgolkaa
open Go.RowKit Go.Shelf

def relI (ps : List (Int × Int)) (x y : Nat) : Bool := decide (ua ps x < la ps y)
theorem info4 : (Try.prog.info? 4).map (fun i => (i.zero, i.size, i.bytes)) = some (some (.bool false), 1, 1) := by kernel_rfl
theorem info33 : (Try.prog.info? 33).map (fun i => (i.zero, i.size, i.bytes)) = some (some (.slice none 0 0), 1, 24) := by kernel_rfl
theorem under33 : Try.prog.underlying 33 = some (.slice 4) := by kernel_rfl
theorem under32 : Try.prog.underlying 32 = some (.slice 33) := by kernel_rfl
end Go.Proofs.Ytbioondlmgolkaa
