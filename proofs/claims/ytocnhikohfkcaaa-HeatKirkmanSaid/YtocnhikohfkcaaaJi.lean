/- HeatKirkman: walk. -/
import Derived.Test.YtocnhikohfkcaaaG622
import Derived.Test.YtocnhikohfkcaaaG621
set_option linter.unusedVariables false
set_option linter.unusedSimpArgs false
namespace Go.Proofs.Ytocnhikohfkcaaa
open Go.RowKit Go.Shelf
attribute [local go_sem] Oper.semAt_some

def DaysU (W : World) (n : Nat) (v : Value) (f : Int) : Prop := f = 4 ∨ (f = 0 ∧ ∃ p c ls, v = .slice p ls.length c ∧ ls.length ≤ c ∧ ls.length ≤ 13 ∧ DaysP n ls ∧ SrcD W p ls ∧ ∀ d ∈ ls, d.length ≤ n)
theorem Days_u (n : Nat) (w : World) (hn3 : 3 ≤ n) (hn27 : n ≤ 27) : Calls Try.prog 19 #[.int .i64 (n : Int)] w fun e w' => (∃ v f, e = .returned (.tuple #[v, .int .i64 f]) ∧ DaysU w' n v f) ∧ Below w.heap.size w w' := by
  by_cases h9 : n = 3 ∨ n = 9 ∨ n = 15 ∨ n = 27
  · exact (Days_ok n w h9).mono fun e w' ⟨⟨v, e1, hd⟩, hB⟩ => ⟨⟨v, 0, e1, .inr ⟨rfl, hd.src⟩⟩, hB⟩
  · exact (Days_none n w hn3 hn27 h9).mono fun e w' ⟨e1, e2⟩ => ⟨⟨_, 4, e1, .inl rfl⟩, by rw [e2]; exact Below.refl _ _⟩
/-- how often each number below m is in a list -/
def CntN (W : World) (R m : Nat) (L : List Int) : Prop := BoxN W R 3 ((List.range m).map fun (j : Nat) => Value.int .i64 ((L.count (j : Int) : Nat) : Int)).toArray
theorem CntN.cell {W : World} {R m : Nat} {L : List Int} (h : CntN W R m L) {i : Nat} (hi : i < m) : W.cell? ⟨R, i, none⟩ = some (.int .i64 ((L.count (i : Int) : Nat) : Int)) := by
  have := BoxN.cell h i
  rw [this]
  simp [hi]
theorem CntN.lt {W : World} {R m : Nat} {L : List Int} (h : CntN W R m L) : R < W.heap.size := BoxN.lt h
theorem CntN.frozen {W : World} {R m : Nat} {L : List Int} (h : CntN W R m L) (i : Nat) : W.frozen? ⟨R, i, none⟩ = false := BoxN.frozen h i
theorem CntN.set {W : World} {R m : Nat} {L : List Int} (h : CntN W R m L) (i : Nat) : CntN (W.setCell ⟨R, i, none⟩ (.int .i64 ((L.count (i : Int) + 1 : Nat) : Int))) R m (L ++ [(i : Int)]) := by
  have h2 := BoxN.set h i (.int .i64 ((L.count (i : Int) + 1 : Nat) : Int))
  unfold CntN
  refine Eq.mp ?_ h2
  congr 1
  refine Array.ext_getElem? fun j => ?_
  by_cases hj : j < m
  · by_cases e : i = j
    · subst e
      rw [Array.getElem?_setIfInBounds_self_of_lt (by simpa using hj)]
      simp [hj, List.count_append]
    · rw [Array.getElem?_setIfInBounds_ne (by omega)]
      have : ¬ (i : Int) = (j : Int) := by omega
      simp [hj, List.count_append, List.count_cons, this]
  · rw [Array.getElem?_eq_none (by simp; omega), Array.getElem?_eq_none (by simp; omega)]
theorem infoIn : (Try.prog.info? 3).map (fun i => (i.zero, i.size, i.bytes)) = some (some (.int .i64 0), 1, 8) := by kernel_rfl
theorem underIn : Try.prog.underlying 43 = some (.slice 3) := by kernel_rfl
theorem makeCnt (n : Nat) (hn : n ≤ 1000) : ∃ vs : Array Value, (∀ W : World, CntN (W.alloc (.cells vs 3)) W.heap.size n []) ∧
    ∀ W : World, Sem.run Try.prog (Instr.makeSlice 43 (.int .i64 (n : Int)) (.int .i64 (n : Int))) W = .ok (.slice (some ⟨W.heap.size, 0, none⟩) n n) (W.alloc (.cells vs 3)) := by
  obtain ⟨i0, hi, hz0, hz1, hz2⟩ := info_parts infoIn
  have e : madeCells #[.int .i64 0] n = ((List.range n).map fun (i : Nat) => Value.int .i64 ((([] : List Int).count (i : Int) : Nat) : Int)).toArray := by
    refine Array.ext_getElem? fun j => ?_
    rw [← Array.getElem?_toList, toList_madeCells_one, List.getElem?_replicate]
    by_cases hj : j < n
    · rw [if_pos hj]; simp [hj]
    · rw [if_neg hj, Array.getElem?_eq_none (by simp; omega)]
  refine ⟨madeCells #[.int .i64 0] n, fun W => ?_, fun W => ?_⟩
  · rw [e]
    exact BoxN.new rfl
  · have := run_make (P := Try.prog) W 43 3 i0 _ underIn hi hz0 .i64 .i64 (n : Int) (n : Int) (by omega) (Int.le_refl _) (by rw [hz2]; omega) (by omega)
    rw [hz1, show (Value.int .i64 0).cells = #[.int .i64 0] from rfl] at this
    simpa using this
set_option maxRecDepth 100000 in
set_option maxHeartbeats 8000000 in
theorem law6 (z : Int) (p1 : Option Addr) (c1 : Nat) (l : List Z3) (W : World) (hl : SrcZ W p1 l ∧ l.length ≤ c1) :
    Calls Try.prog 6 #[.int .i64 z, .slice p1 l.length c1] W fun e W' => e = .returned (.bool true) ∧ Below W.heap.size W W' := by
  have HAW : Hid (∀ w : World, Calls Try.prog 17 #[] w fun e w' => e = .returned (.bool true) ∧ Below w.heap.size w w') := awake_any
  have HF1 := Lib.hid (fun w (hB : Below W.heap.size W w) => few_any p1 c1 l w hl.2 (hl.1.below hB (Nat.le_refl _)))
  obtain ⟨n1, hn1⟩ : ∃ n1, Hid (l.length = n1) := ⟨_, rfl⟩
  rw [hn1.out] at HF1 ⊢
  have h130 : (l.take 130).length ≤ 130 := by rw [List.length_take]; omega
  obtain ⟨tl, htl⟩ : ∃ tl, Hid ((l.take 130).length = tl) := ⟨_, rfl⟩
  rw [htl.out] at HF1 h130
  clear hl
  obtain ⟨m, hm3, hm27, ew⟩ : ∃ m : Nat, 3 ≤ m ∧ m ≤ 27 ∧ wrap64 (3 + wrap64 ((IntKind.u64.wrap z).tmod 25)) = (m : Int) := by
    have hum := um_lt z (m := 25) (by decide)
    have eum : (IntKind.u64.wrap z).tmod 25 = ((um z 25 : Nat) : Int) := um_eq z 25
    refine ⟨3 + um z 25, by omega, by omega, ?_⟩
    rw [eum, ← IntWalk.i64_left, ← IntWalk.i64_left, wrap_small _ (by omega), show (3 : Int) + ((um z 25 : Nat) : Int) = ((3 + um z 25 : Nat) : Int) by push_cast; rfl, wrap_small _ (by omega)]
  have HD := Lib.hid (fun w => Days_u m w hm3 hm27)
  go_enter Try.func6, Try.ntmps6
  go_upto_region 2 with (fail)
  rw [ew]
  clear ew
  generalize wrap64 ((IntKind.u64.wrap z).tmod 25) = z1
  generalize (IntKind.u64.wrap z).tmod 25 = z2
  generalize IntKind.u64.wrap z = z3
  by_cases h6 : m % 6 = 1 ∨ m % 6 = 3
  · have HT := Lib.hid (Triples_ok m W hm3 hm27 h6)
    go_upto_region 6 with (first
      | (go_at_call 18; refine HT.out.mono ?_; rintro e w1 ⟨⟨q, d, ys, rfl, hsys, hys, hz⟩, hB1⟩; have HZY : Hid (SrcZ w1 q ys) := ZRow.src hz; have HLY : Hid (∀ a, q = some a → a.block < w1.heap.size) := (fun a e => by subst e; exact (QRow.lt hz _ rfl).2); have HSY := Lib.hid hsys; have hfy := (show QRow w1 W.heap.size 44 3 (.slice q ys.length d) ys.length (zcells ys) from hz).fits.1; obtain ⟨yl, hyl⟩ : ∃ yl, Hid (ys.length = yl) := ⟨_, rfl⟩; rw [hyl.out] at hys hfy ⊢; have HDD := Lib.hid (HD.out w1); have HB1 := Lib.hid hB1; clear hz hsys hB1)
      | (go_at_call 19; refine HDD.out.mono ?_; rintro e w2 ⟨⟨v7, f8, rfl, hdu⟩, hB2⟩; have HDU := Lib.hid hdu; have HB12 := Lib.hid hB2; have HB2 : Hid (Below W.heap.size W w2) := HB1.out.trans (hB2.mono HB1.out.size); clear hdu hB2))
    clear HT HDD
    go_upto_region 9 with (go_at_call 22; refine (HF1.out _ HB2.out).mono ?_; rintro e w3 ⟨⟨q3, d3, rfl, hz3⟩, hB3⟩; have HZ3 := Lib.hid hz3; have HB3 := Lib.hid hB3; clear hz3 hB3)
    have HAL : Hid (∀ k, k < 2 → ∃ Q len D T, (w3.alloc (.cells #[.slice q yl d, .slice q3 tl d3] 33)).cell? ⟨w3.heap.size, k, none⟩ = some (.slice Q len D) ∧ T.length = len ∧ len ≤ 200 ∧ len ≤ D ∧ SrcZ (w3.alloc (.cells #[.slice q yl d, .slice q3 tl d3] 33)) Q T ∧ (∀ a, Q = some a → a.block < (w3.alloc (.cells #[.slice q yl d, .slice q3 tl d3] 33)).heap.size) ∧ (k = 0 → SysP m T)) := fun k hk => by
      have hz3 := HZ3.out
      rw [← htl.out] at hz3
      have h1 : Below w1.heap.size w1 w3 := HB12.out.trans (HB3.out.mono HB12.out.size)
      have h2 : Below w3.heap.size w3 (w3.alloc (.cells #[.slice q yl d, .slice q3 tl d3] 33)) := (Below.refl _ _).alloc (Nat.le_refl _) _
      have hbx : BoxN (w3.alloc (.cells #[.slice q yl d, .slice q3 tl d3] 33)) w3.heap.size 33 #[.slice q yl d, .slice q3 tl d3] := BoxN.new rfl
      rcases (show k = 0 ∨ k = 1 by omega) with rfl | rfl
      · exact ⟨q, yl, d, ys, hbx.cell 0, hyl.out, hys, hfy, (HZY.out.below h1 (Nat.le_refl _)).below h2 (Nat.le_refl _), fun a e => Nat.lt_of_lt_of_le (HLY.out a e) (Nat.le_trans h1.size h2.size), fun _ => HSY.out⟩
      · refine ⟨q3, tl, d3, l.take 130, hbx.cell 1, htl.out, by omega, ?_, (ZRow.src (show ZRow w3 _ (.slice q3 (l.take 130).length d3) (l.take 130) from hz3)).below (by exact h2) (Nat.le_refl _), fun a e => ?_, fun h => by cases h⟩
        · have := (show QRow w3 w2.heap.size 44 3 (.slice q3 (l.take 130).length d3) (l.take 130).length (zcells (l.take 130)) from hz3).fits.1
          rw [htl.out] at this
          exact this
        · subst e
          exact Nat.lt_of_lt_of_le (QRow.lt hz3 _ rfl).2 h2.size
    have HDX : Hid (DaysU (w3.alloc (.cells #[.slice q yl d, .slice q3 tl d3] 33)) m v7 f8) := HDU.out.imp id fun ⟨e, p, c, ls, h1, h2, h3, h4, h5, h6⟩ => ⟨e, p, c, ls, h1, h2, h3, h4, (h5.below HB3.out (Nat.le_refl _)).below ((Below.refl _ _).alloc (Nat.le_refl _) _) (Nat.le_refl _), h6⟩
    have HBX : Hid (Below W.heap.size W (w3.alloc (.cells #[.slice q yl d, .slice q3 tl d3] 33))) := (HB2.out.trans (HB3.out.mono HB2.out.size)).alloc (Nat.le_trans HB2.out.size HB3.out.size) _
    obtain ⟨B, hBe⟩ : ∃ B, Hid (B = w3.heap.size) := ⟨_, rfl⟩
    obtain ⟨X, hXe⟩ : ∃ X, Hid (X = w3.alloc (.cells #[.slice q yl d, .slice q3 tl d3] 33)) := ⟨_, rfl⟩
    have hBX : B < X.heap.size := by rw [hBe.out, hXe.out]; simp
    rw [← hBe.out, ← hXe.out] at HAL
    rw [← hXe.out] at HDX HBX
    rw [← hBe.out, ← hXe.out]
    clear HZY HLY HSY hfy hys HDU HB12 HB2 HB1 HZ3 HB3 hBe hXe
    have hWX : W.heap.size ≤ X.heap.size := HBX.out.size
    go_loopw [11] (fun s11 wr => ∃ k : Nat, k ≤ 2 ∧ s11 = .int .i64 (k : Int) ∧ Hid (Below X.heap.size X wr)) (fun s11 _ => 2 - (intOf s11).toNat)
    case atStart => exact ⟨0, by omega, rfl, Below.refl _ _⟩
    case round =>
      obtain ⟨k, hk, rfl, hB⟩ := hrel
      have hwr : X.heap.size ≤ wr.heap.size := hB.out.size
      by_cases hk2 : k < 2
      · have g1 : (k : Int) < 2 := by omega
        obtain ⟨Q, len, D, T, k1, hTl, hl200, hlD, hz, hlt, hk0⟩ := HAL.out k hk2
        have HCA : Hid (∀ V, Below X.heap.size X V → V.cell? ⟨B, k, none⟩ = some (.slice Q len D)) := fun V hV => (hV.cell (p := ⟨B, k, none⟩) hBX).trans k1
        have r1 := HCA.out wr hB.out
        have HIT := Lib.hid (IsTriples_any (m : Int) Q D T wr (by omega) (by omega) (hz.below hB.out (Nat.le_refl _)) (fun a e => Nat.lt_of_lt_of_le (hlt a e) hwr))
        obtain ⟨PP, hPP⟩ : ∃ PP, Hid (PP = ((3 ≤ (m : Int) ∧ (m : Int) ≤ 27) ∧ SysP (m : Int).toNat T)) := ⟨_, rfl⟩
        rw [← hPP.out, hTl] at HIT
        have HPS : Hid (PP ↔ SysP m T) := by rw [hPP.out]; exact ⟨fun h => h.2, fun h => ⟨⟨by omega, by omega⟩, h⟩⟩
        have HZT := Lib.hid hz
        have HK0 := Lib.hid hk0
        have HTL := Lib.hid hTl
        clear hPP hz hk0 hTl k1 hlt
        by_cases hS : SysP m T
        · have HST := Lib.hid hS
          clear HK0
          go_upto_region 14 with (go_at_call 23; refine HIT.out.mono ?_; rintro e w4 ⟨ht, hB4⟩; obtain rfl := ht.yes (HPS.out.2 hS); have HB4 : Hid (Below X.heap.size X w4) := hB.out.trans (hB4.mono hwr); have hw4 : X.heap.size ≤ w4.heap.size := HB4.out.size; clear ht hB4)
          clear r1 HIT hB
          obtain ⟨vs, hvs, hmk⟩ := makeCnt m (by omega)
          have hmk := hmk w4
          have HC0 : Hid (CntN (w4.alloc (.cells vs 3)) w4.heap.size m []) := hvs w4
          have HB5 : Hid (Below X.heap.size X (w4.alloc (.cells vs 3))) := HB4.out.alloc hw4 _
          clear hvs
          go_upto_region 16 with (fail)
          obtain ⟨R, hR⟩ : ∃ R, Hid (R = w4.heap.size) := ⟨_, rfl⟩
          rw [← hR.out] at HC0 ⊢
          generalize (w4.alloc (.cells vs 3)) = V at *
          have hXR : X.heap.size ≤ R := by rw [hR.out]; exact hw4
          have HRI : Hid (∀ i (h : i < T.length), RisesP m T[i]) := fun i h => HST.out.tog.up _ (List.getElem_mem h)
          have hlm : ∀ i, ((T.take i).flatMap verts).length ≤ 600 := fun i => by
            have h2 : ∀ l : List Z3, (l.flatMap verts).length = 3 * l.length := fun l => by
              induction l with
              | nil => rfl
              | cons a l ih => rw [List.flatMap_cons, List.length_append, ih]; show 3 + 3 * l.length = 3 * (l.length + 1); omega
            rw [h2, List.length_take, HTL.out]
            omega
          have HLM := Lib.hid hlm
          clear hmk HB4 hlm
          go_loopw [13] (fun s13 wq => ∃ i : Nat, i ≤ len ∧ s13 = .int .i64 (i : Int) ∧ Hid (CntN wq R m ((T.take i).flatMap verts)) ∧ Hid (Below X.heap.size X wq)) (fun s13 _ => len - (intOf s13).toNat)
          case atStart => exact ⟨0, by omega, rfl, HC0, HB5⟩
          case round =>
            clear HC0 HB5
            obtain ⟨i, hi, rfl, hC, hB⟩ := hrel
            have r1 := HCA.out wr hB.out
            by_cases hin : i < len
            · have g2 : (i : Int) < (len : Int) := by omega
              have hil : i < T.length := by rw [HTL.out]; exact hin
              obtain ⟨b, o, rfl, hb, hc⟩ := HZT.out (by omega)
              obtain ⟨c0, c1', c2⟩ := hc i hil
              have HTK : Hid ((T.take (i + 1)).flatMap verts = (T.take i).flatMap verts ++ verts T[i]) := by unfold Hid; rw [List.take_add_one, List.getElem?_eq_getElem hil, List.flatMap_append]; simp
              have hri := HRI.out i hil
              have hli := HLM.out i
              generalize T[i] = t at *
              generalize (T.take i).flatMap verts = L at *
              obtain ⟨t0, t1, t2⟩ := t
              unfold RisesP at hri
              simp only at hri c0 c1' c2
              have HCV : Hid (∀ j (hj : j < 3), ∃ u : Nat, (verts (t0, t1, t2))[j]'hj = (u : Int) ∧ u < m ∧ ∀ V, Below X.heap.size X V → V.cell? ⟨b, o + i * 3 + j, none⟩ = some (.int .i64 (u : Int))) := fun j hj => by
                obtain ⟨x, rfl⟩ : ∃ x : Nat, t0 = (x : Int) := ⟨t0.toNat, by omega⟩
                obtain ⟨y, rfl⟩ : ∃ y : Nat, t1 = (y : Int) := ⟨t1.toNat, by omega⟩
                obtain ⟨z, rfl⟩ : ∃ z : Nat, t2 = (z : Int) := ⟨t2.toNat, by omega⟩
                rcases (show j = 0 ∨ j = 1 ∨ j = 2 by omega) with rfl | rfl | rfl
                · exact ⟨x, rfl, by omega, fun V hV => (hV.cell (p := ⟨b, o + i * 3, none⟩) hb).trans c0⟩
                · exact ⟨y, rfl, by omega, fun V hV => (hV.cell (p := ⟨b, o + i * 3 + 1, none⟩) hb).trans c1'⟩
                · exact ⟨z, rfl, by omega, fun V hV => (hV.cell (p := ⟨b, o + i * 3 + 2, none⟩) hb).trans c2⟩
              clear hri c0 c1' c2 hc
              go_upto_region 19 with (fail)
              clear r1
              go_loopw [14] (fun s14 wq => ∃ j : Nat, j ≤ 3 ∧ s14 = .int .i64 (j : Int) ∧ Hid (CntN wq R m (L ++ (verts (t0, t1, t2)).take j)) ∧ Hid (Below X.heap.size X wq)) (fun s14 _ => 3 - (intOf s14).toNat)
              case atStart => exact ⟨0, by omega, rfl, by rw [List.take_zero, List.append_nil]; exact hC, hB⟩
              case round =>
                clear hC hB
                obtain ⟨j, hj, rfl, hC, hB⟩ := hrel
                have r1 := HCA.out wr hB.out
                have hwr3 : X.heap.size ≤ wr.heap.size := hB.out.size
                by_cases hj3 : j < 3
                · have g3 : (j : Int) < 3 := by omega
                  obtain ⟨u, hu, hum, hcv⟩ := HCV.out j hj3
                  have r2 := hcv wr hB.out
                  have HTJ : Hid (L ++ (verts (t0, t1, t2)).take (j + 1) = L ++ (verts (t0, t1, t2)).take j ++ [(u : Int)]) := by
                    unfold Hid
                    rw [List.append_assoc]
                    congr 1
                    rw [List.take_add_one, List.getElem?_eq_getElem (by exact hj3), hu]
                    rfl
                  have c3 := hC.out.cell hum
                  have f3 := hC.out.frozen u
                  have HC2 := hC.out.set u
                  have hcn : (L ++ (verts (t0, t1, t2)).take j).count (u : Int) ≤ 700 := by
                    refine Nat.le_trans List.count_le_length ?_
                    rw [List.length_append, List.length_take]
                    omega
                  rw [← HTJ.out] at HC2
                  generalize (L ++ (verts (t0, t1, t2)).take j).count (u : Int) = cn at *
                  rw [show ((cn + 1 : Nat) : Int) = (cn : Int) + 1 by push_cast; rfl] at HC2
                  have HC3 := Lib.hid HC2
                  have HB3 : Hid (Below X.heap.size X (wr.setCell ⟨R, u, none⟩ (.int .i64 ((cn : Int) + 1)))) := hB.out.setCell (by exact hXR) _
                  have hu0 : ¬ (u : Int) < 0 := by omega
                  have hum2 : ¬ (m : Int) ≤ (u : Int) := by omega
                  clear HC2 hu hcv hC hB
                  go_wp2
                  exact ⟨⟨j + 1, by omega, int_eq (by omega), HC3, HB3⟩, by simp [intOf]; omega⟩
                · have g3 : ¬ (j : Int) < 3 := by omega
                  obtain rfl : j = 3 := by omega
                  have HC3 : Hid (CntN wr R m ((T.take (i + 1)).flatMap verts)) := by rw [HTK.out]; exact hC
                  clear hC
                  go_wp2
                  exact ⟨⟨i + 1, by omega, int_eq (by omega), HC3, hB⟩, by simp [intOf]; omega⟩
            · have g2 : ¬ (i : Int) < (len : Int) := by omega
              obtain rfl : len = i := by omega
              have HC : Hid (CntN wr R m (T.flatMap verts)) := by
                have := hC.out
                rw [List.take_of_length_le (by rw [HTL.out]; exact Nat.le_refl _)] at this
                exact this
              have HKI : Hid (∀ x, x < m → 2 * (T.flatMap verts).count (x : Int) + 1 = m) := fun x hx => HST.out.tog.kirk hx
              obtain ⟨wy, hwy⟩ : ∃ wy, Hid (wy = wr) := ⟨_, rfl⟩
              rw [← hwy.out] at HC hB r1 ⊢
              clear hC hwy
              go_upto_region 26 with (fail)
              go_loopw [16] (fun s16 wq => ∃ x : Nat, x ≤ m ∧ s16 = .int .i64 (x : Int) ∧ Hid (wq = wy)) (fun s16 _ => m - (intOf s16).toNat)
              case atStart => exact ⟨0, by omega, rfl, rfl⟩
              case round =>
                obtain ⟨x, hx, rfl, hw⟩ := hrel
                obtain rfl : wr = wy := hw
                by_cases hxm : x < m
                · have g3 : (x : Int) < (m : Int) := by omega
                  have c3 := HC.out.cell hxm
                  have hk3 := HKI.out x hxm
                  generalize (T.flatMap verts).count (x : Int) = cn at *
                  have q3 : ((2 * (cn : Int)) != ((m : Int) - 1)) = false := by simp; omega
                  have hcn : cn ≤ 27 := by omega
                  clear hk3
                  go_wp2
                  exact ⟨⟨x + 1, by omega, int_eq (by omega), by first | exact trivial | rfl⟩, by simp [intOf]; omega⟩
                · have g3 : ¬ (x : Int) < (m : Int) := by omega
                  obtain rfl : m = x := by omega
                  have h6l := HST.out.tog.len
                  rw [HTL.out] at h6l
                  have e1 : (m : Int) * ((m : Int) - 1) = ((6 * len : Nat) : Int) := by
                    rw [h6l, show (m : Int) - 1 = ((m - 1 : Nat) : Int) by omega]; push_cast; rfl
                  have e2 : 6 * (len : Int) = ((6 * len : Nat) : Int) := by push_cast; rfl
                  have hl6 : 6 * len ≤ 1200 := by omega
                  clear h6l
                  generalize 6 * len = l6 at *
                  go_wp2
                  exact ⟨⟨k + 1, by omega, int_eq (by omega), hB⟩, by simp [intOf]; omega⟩
        · have hk1 : k = 1 := by
            by_cases e : k = 0
            · exact (hS (HK0.out e)).elim
            · omega
          subst hk1
          go_wp2_with (go_at_call 23; refine HIT.out.mono ?_; rintro e w4 ⟨ht, hB4⟩; obtain rfl := ht.no (fun h => hS (HPS.out.1 h)); have HB4 : Hid (Below X.heap.size X w4) := hB.out.trans (hB4.mono hwr); clear ht hB4)
          try simp only [Exit.noGoto]
          exact ⟨⟨2, by omega, int_eq (by omega), HB4⟩, by simp [intOf]⟩
      · have g1 : ¬ (k : Int) < 2 := by omega
        obtain rfl : k = 2 := by omega
        have HBR : Hid (Below W.heap.size W wr) := HBX.out.trans (hB.out.mono hWX)
        have hWr : W.heap.size ≤ wr.heap.size := HBR.out.size
        have HA := Lib.hid (fun w (h : Below W.heap.size W w) => HAW.out w)
        rcases HDX.out with rfl | ⟨rfl, p7, c7, ls, rfl, hlc, hl13, hdays, hsrc, hln⟩
        · go_wp2_with (go_at_call 17; refine (HA.out _ HBR.out).mono ?_; rintro e w7 ⟨rfl, hB7⟩; have HB7 : Hid (Below W.heap.size W w7) := HBR.out.trans (hB7.mono hWr); clear hB7)
          go_ret
          exact ⟨rfl, HB7.out⟩
        · have hPD : (3 ≤ (m : Int) ∧ (m : Int) ≤ 27) ∧ DaysP (m : Int).toNat ls := ⟨⟨by omega, by omega⟩, by simpa using hdays⟩
          have HDY : Hid (Calls Try.prog 24 #[.int .i64 (m : Int), .slice p7 ls.length c7] wr fun e w' => e = .returned (.bool true) ∧ Below wr.heap.size wr w') := (IsDays_any (m : Int) p7 c7 ls wr (by omega) (fun d hd => by have := hln d hd; omega) hlc (hsrc.below hB.out (Nat.le_refl _))).mono fun _ _ k => ⟨k.1.yes hPD, k.2⟩
          have hmany := hdays.many (by omega)
          have HSD : Hid (SrcD X p7 ls) := hsrc
          have HLN : Hid (∀ i (h : i < ls.length), 3 * (ls[i]).length = m) := fun i h => hdays.len _ (List.getElem_mem h)
          obtain ⟨dl, hdl⟩ : ∃ dl, Hid (ls.length = dl) := ⟨_, rfl⟩
          rw [hdl.out] at HDY hmany hl13 hlc ⊢
          have q7 : ((2 * (dl : Int)) != ((m : Int) - 1)) = false := by simp; omega
          clear hPD hdays hsrc hln HDX
          go_upto_region 37 with (go_at_call 24; refine HDY.out.mono ?_; rintro e w8 ⟨rfl, hB8⟩; have HB8 : Hid (Below X.heap.size X w8) := hB.out.trans (hB8.mono hwr); clear hB8)
          clear HDY hB HBR hWr
          go_loopw [17] (fun s17 wq => ∃ i : Nat, i ≤ dl ∧ s17 = .int .i64 (i : Int) ∧ Hid (Below X.heap.size X wq)) (fun s17 _ => dl - (intOf s17).toNat)
          case atStart => exact ⟨0, by omega, rfl, HB8⟩
          case round =>
            obtain ⟨i, hi, rfl, hB⟩ := hrel
            by_cases hin : i < dl
            · have g2 : (i : Int) < (dl : Int) := by omega
              have hil : i < ls.length := by rw [hdl.out]; exact hin
              obtain ⟨b, o, rfl, hb, hc⟩ := HSD.out (by omega)
              obtain ⟨q9, c9, k9, _, _⟩ := hc i hil
              have r9 : wr.cell? ⟨b, o + i, none⟩ = some (.slice q9 (ls[i]).length c9) := (hB.out.cell (p := ⟨b, o + i, none⟩) hb).trans k9
              have h3l := HLN.out i hil
              generalize (ls[i]).length = d9 at *
              have q9' : ((3 * (d9 : Int)) != (m : Int)) = false := by simp; omega
              have hd9 : d9 ≤ 9 := by omega
              clear k9 hc
              go_wp2
              exact ⟨⟨i + 1, by omega, int_eq (by omega), hB⟩, by simp [intOf]; omega⟩
            · have g2 : ¬ (i : Int) < (dl : Int) := by omega
              have HBR : Hid (Below W.heap.size W wr) := HBX.out.trans (hB.out.mono hWX)
              have hWr : W.heap.size ≤ wr.heap.size := HBR.out.size
              go_wp2_with (go_at_call 17; refine (HA.out _ HBR.out).mono ?_; rintro e w7 ⟨rfl, hB7⟩; have HB7 : Hid (Below W.heap.size W w7) := HBR.out.trans (hB7.mono hWr); clear hB7)
              go_ret
              exact ⟨rfl, HB7.out⟩
  · have HT := Lib.hid (Triples_none m W hm3 hm27 h6)
    have h9 : ¬ (m = 3 ∨ m = 9 ∨ m = 15 ∨ m = 27) := by omega
    have HDD := Lib.hid (Days_none m W hm3 hm27 h9)
    have HA := Lib.hid (HAW.out W)
    obtain ⟨r, hr⟩ : ∃ r, m % 6 = r := ⟨_, rfl⟩
    have e1 : Int.tmod (m : Int) 6 = (r : Int) := by rw [Int.tmod_eq_emod_of_nonneg (by omega)]; omega
    have q1 : ((r : Int) != 3) = true := by simp; omega
    have q2 : ((r : Int) != 1) = true := by simp; omega
    clear hr h6 h9
    go_wp2_with (first
      | (go_at_call 18; refine HT.out.mono ?_; rintro e w1 ⟨rfl, hw4⟩; replace hw4 := hw4.symm; subst hw4; try dsimp only)
      | (go_at_call 19; refine HDD.out.mono ?_; rintro e w1 ⟨rfl, hw4⟩; replace hw4 := hw4.symm; subst hw4; try dsimp only)
      | (go_at_call 17; refine HA.out.mono ?_; rintro e w7 ⟨rfl, hB7⟩; have HB7 := Lib.hid hB7; clear hB7))
    go_ret
    exact ⟨rfl, HB7.out⟩
end Go.Proofs.Ytocnhikohfkcaaa
