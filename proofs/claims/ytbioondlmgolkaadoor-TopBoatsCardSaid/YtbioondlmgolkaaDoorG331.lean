/- Boats and colours in plain text: intervals need as many boats as the graph of those with a number in common needs colours. A law's walk: TopBoats. -/
import Derived.Test.YtbioondlmgolkaaDoorG315
import Derived.Test.YtbioondlmgolkaaDoorG330
import Derived.Test.YtbioondlmgolkaaDoorG326
set_option linter.unusedVariables false
set_option linter.unusedSimpArgs false
namespace Go.Proofs.YtbioondlmgolkaaDoor
open Go.RowKit

theorem boats_colours {g : List Nat} {n k many : Nat} {peak : Int} {l u : Nat → Int} {out : Nat → Nat}
    (hadj : ∀ v x, Hu.adj g v x ↔ v < n ∧ x < n ∧ v ≠ x ∧ l v ≤ u x ∧ l x ≤ u v) (hP : PeakP l u n many peak) (hR : RightP l u n many out) (hC : Hu.ChrIs g n k) : k = many := by
  obtain ⟨i, hi, hpk, hct⟩ := hP.some_
  have h1 : 1 ≤ many := by have := hR.1 i hi; omega
  refine Nat.le_antisymm (Nat.le_of_not_lt fun hc => hC.2.2 many h1 hc ⟨out, fun v hv => ?_, fun v x ha => ?_⟩) ?_
  · rw [Hu.low_bit]; simpa using hR.1 v hv
  · obtain ⟨hv, hx, hne, h2, h3⟩ := (hadj v x).1 ha
    intro e
    rcases Nat.lt_or_gt_of_ne hne with hlt | hlt
    · exact hR.2 x v hx hlt ⟨e.symm, h3, h2⟩
    · exact hR.2 v x hv hlt ⟨e, h2, h3⟩
  · obtain ⟨c, hc1, hc2⟩ := hC.2.1
    unfold cntAt at hct
    generalize hA : ((List.range n).filter fun x => decide (l x ≤ peak) && decide (peak ≤ u x)) = A at hct
    have hmem : ∀ x, x ∈ A → x < n ∧ l x ≤ peak ∧ peak ≤ u x := fun x hx => by
      rw [← hA, List.mem_filter, List.mem_range] at hx
      simpa using hx
    have hnd : A.Nodup := by rw [← hA]; exact List.nodup_range.sublist List.filter_sublist
    have h4 := nodup_in (A.map c) (List.range k) (by
      unfold List.Nodup
      rw [List.pairwise_map]
      refine List.Pairwise.imp_of_mem ?_ hnd
      intro a b ha hb hab e
      have h5 := hmem a ha
      have h6 := hmem b hb
      exact hc2 a b ((hadj a b).2 ⟨h5.1, h6.1, hab, by omega, by omega⟩) e) fun x hx => by
      obtain ⟨v, hv, rfl⟩ := List.mem_map.1 hx
      have h5 := hc1 v (hmem v hv).1
      rw [Hu.low_bit] at h5
      exact List.mem_range.2 (by simpa using h5)
    rw [List.length_map, List.length_range, hct] at h4
    exact h4
end Go.Proofs.YtbioondlmgolkaaDoor
namespace Go.Proofs.YtbioondlmgolkaaDoor
open Go.RowKit Go.Shelf

/-- the law's intervals: any pairs, brought into a range and put in order -/
def bpL (ps : List (Int × Int)) (i : Nat) : List (Int × Int) := (List.range i).map fun k => (((min (um (la ps k) 31) (um (ua ps k) 31) : Nat) : Int), ((max (um (la ps k) 31) (um (ua ps k) 31) : Nat) : Int))
theorem bpL_len (ps : List (Int × Int)) (i : Nat) : (bpL ps i).length = i := by simp [bpL]
theorem bpL_cells (ps : List (Int × Int)) (i : Nat) : pairCells (bpL ps (i + 1)) = pairCells (bpL ps i) ++ [.int .i64 ((min (um (la ps i) 31) (um (ua ps i) 31) : Nat) : Int), .int .i64 ((max (um (la ps i) 31) (um (ua ps i) 31) : Nat) : Int)] := by
  unfold bpL; rw [List.range_succ, List.map_append, pairCells_append]; rfl
theorem bpL_ok (ps : List (Int × Int)) {i : Nat} (h1 : 1 ≤ i) (h2 : i ≤ 12) : ivsOK (bpL ps i) := by
  refine ⟨by rw [bpL_len]; exact h1, by rw [bpL_len]; exact h2, fun j hj => ?_⟩
  rw [bpL_len] at hj
  unfold la ua bpL
  rw [List.getElem?_map, List.getElem?_range hj]
  simp only [Option.map_some, Option.getD_some]
  omega
theorem cntAt_le (l u : Nat → Int) (m : Nat) (v : Int) : cntAt l u m v ≤ m := by unfold cntAt; exact Nat.le_trans (List.length_filter_le _ _) (by simp)
/-- two intervals have a number in common -/
def ovT (qs : List (Int × Int)) (x y : Nat) : Bool := !decide (x = y) && (!relI qs x y && !relI qs y x)
theorem ovT_irr (qs : List (Int × Int)) (x : Nat) : ovT qs x x = false := by unfold ovT; simp
theorem rgP_zero (n : Nat) (t : Nat → Nat → Bool) (i : Nat) : rgP n t 0 0 i = 0 := by
  by_cases h : i = 0
  · subst h; rw [rgP_here]; rfl
  · exact rgP_high (by omega)
def ovG (qs : List (Int × Int)) (n : Nat) : List Nat := (List.range n).map fun z => bs (ovT qs z) n
theorem ovG_len (qs : List (Int × Int)) (n : Nat) : (ovG qs n).length = n := by simp [ovG]
theorem ovG_at {qs : List (Int × Int)} {n j : Nat} (hj : j < n) : (ovG qs n)[j]?.getD 0 = bs (ovT qs j) n := by unfold ovG; rw [List.getElem?_map, List.getElem?_range hj]; rfl
theorem ovG_sm {qs : List (Int × Int)} {n : Nat} (hn : n ≤ 12) (j : Nat) : Hu.Sm ((ovG qs n)[j]?.getD 0) := by
  by_cases h : j < n
  · rw [ovG_at h]
    exact Nat.lt_of_lt_of_le (bs_lt _ n) (show 2 ^ n ≤ 2 ^ 20 from Nat.pow_le_pow_right (by decide) (by omega))
  · rw [List.getElem?_eq_none (by rw [ovG_len]; omega)]
    show 0 < 1048576
    decide
theorem ov_adj {qs es : List (Int × Int)} {n : Nat} (hE : Hu.EdM (ovG qs n) n n 0 es) (hok : Hu.edgesB n es = true) (v x : Nat) : Hu.adj (Hu.ofE n es) v x ↔ v < n ∧ x < n ∧ v ≠ x ∧ la qs v ≤ ua qs x ∧ la qs x ≤ ua qs v :=
  hE.adj hok (fun v x => la qs v ≤ ua qs x ∧ la qs x ≤ ua qs v) (fun a b hab hb => by
    rw [ovG_at (by omega), bs_bit]
    unfold ovT relI
    have : a ≠ b := by omega
    simp [hb, this]
    omega) (fun a b h => ⟨h.2, h.1⟩) v x
theorem underG : Tryd.prog.underlying 33 = some (.slice 3) := by kernel_rfl
theorem makeG (n : Nat) (hn : n ≤ 20) : ∃ vs : Array Value, vs.size = n ∧ (∀ j, j < n → vs[j]? = some (.int .i64 0)) ∧
    ∀ W, Sem.run Tryd.prog (Instr.makeSlice 33 (.int .i64 (n : Int)) (.int .i64 (n : Int))) W = .ok (.slice (some ⟨W.heap.size, 0, none⟩) n n) (W.alloc (.cells vs 3)) := by
  obtain ⟨i0, hi, hz0, hz1, hz2⟩ := info_parts info3
  refine ⟨madeCells #[.int .i64 0] n, size_madeCells _ _, fun j hj => ?_, fun W => ?_⟩
  · rw [← Array.getElem?_toList, toList_madeCells_one, List.getElem?_replicate, if_pos hj]
  · have := run_make (P := Tryd.prog) W 33 3 i0 _ underG hi hz0 .i64 .i64 (n : Int) (n : Int) (by omega) (Int.le_refl _) (by rw [hz2]; omega) (by omega)
    rw [hz1, show (Value.int .i64 0).cells = #[.int .i64 0] from rfl] at this
    simpa using this
set_option maxRecDepth 100000 in
set_option maxHeartbeats 8000000 in
theorem lawB (a : Option Addr) (cap : Nat) (ps : List (Int × Int)) (w : World) (hP : PairsIn w a cap ps) (hT : Hu.Tab w) :
    Calls Tryd.prog 3 #[.slice a ps.length cap] w fun e w' => e = .returned (.bool true) ∧ Below w.heap.size w w' := by
  obtain ⟨i0, hi0, hz0, hz1, hz2⟩ := info_parts infoP
  have HP := Lib.hid hP.g
  have hfit := hP.fits
  have hcm := hP.capm
  unfold maxLen at hcm
  have HTB := Lib.hid hT
  clear hP hT
  obtain ⟨len, HL⟩ : ∃ len, Hid (ps.length = len) := ⟨_, rfl⟩
  rw [HL.out] at hfit ⊢
  have HSM : Hid (∀ z W, Calls Tryd.prog 4 #[.int .i64 z, .int .i64 30] W fun e w' => e = .returned (.int .i64 (um z 31 : Nat)) ∧ w' = W) := fun z W => small_any z 31 W (by decide) (by decide)
  go_enter Tryd.func3, Tryd.ntmps3
  go_upto_region 3 with (fail)
  go_loopw [3, 4] (fun s3 s4 wr => ∃ i : Nat, i ≤ len ∧ i ≤ 10 ∧ s4 = .int .i64 (i : Int) ∧ Hid (QRow wr w.heap.size 24 2 s3 i (pairCells (bpL ps i))) ∧ Hid (Below w.heap.size w wr)) (fun _ s4 _ => 20 - (intOf s4).toNat)
  case atStart => exact ⟨0, by omega, by omega, rfl, QRow.nil _ _ _ _, Below.refl _ _⟩
  case round =>
    obtain ⟨i, hi, hi10, rfl, hQ, hB⟩ := hrel
    obtain ⟨p3, c3, rfl⟩ := hQ.out.isSlice
    have hwr : w.heap.size ≤ wr.heap.size := hB.out.size
    by_cases hgo : i < len ∧ i < 10
    · have g1 : (i : Int) < (len : Int) := by omega
      have g2 : (i : Int) < 10 := by omega
      have g0 : (0 : Int) ≤ (i : Int) := by omega
      obtain ⟨b, o, rfl, hb, k1, k2⟩ := HP.out.at (k := i) (by rw [HL.out]; exact hgo.1)
      have HCE := Lib.hid (bpL_cells ps i)
      have r1 : ∀ d : BW wr.heap.size wr, d.w.cell? ⟨b, o + i * 2, none⟩ = some (.int .i64 (la ps i)) := fun d => d.cell (Nat.lt_of_lt_of_le hb hwr) ((hB.out.cell (p := ⟨b, o + i * 2, none⟩) hb).trans k1)
      have r2 : ∀ d : BW wr.heap.size wr, d.w.cell? ⟨b, o + i * 2 + 1, none⟩ = some (.int .i64 (ua ps i)) := fun d => d.cell (Nat.lt_of_lt_of_le hb hwr) ((hB.out.cell (p := ⟨b, o + i * 2 + 1, none⟩) hb).trans k2)
      have hl1 := um_lt (la ps i) (m := 31) (by decide)
      have hl2 := um_lt (ua ps i) (m := 31) (by decide)
      have HS1 : Hid (∀ d : BW wr.heap.size wr, Calls Tryd.prog 4 #[.int .i64 (la ps i), .int .i64 30] d.w fun e w' => e = .returned (.int .i64 (um (la ps i) 31 : Nat)) ∧ ∃ d' : BW wr.heap.size wr, w' = d'.w) := fun d => Calls.bw ((HSM.out _ d.w).mono fun e w' h => ⟨h.1, by rw [h.2]; exact d.b⟩)
      have HS2 : Hid (∀ d : BW wr.heap.size wr, Calls Tryd.prog 4 #[.int .i64 (ua ps i), .int .i64 30] d.w fun e w' => e = .returned (.int .i64 (um (ua ps i) 31 : Nat)) ∧ ∃ d' : BW wr.heap.size wr, w' = d'.w) := fun d => Calls.bw ((HSM.out _ d.w).mono fun e w' h => ⟨h.1, by rw [h.2]; exact d.b⟩)
      generalize um (la ps i) 31 = u1 at *
      generalize um (ua ps i) 31 = u2 at *
      generalize la ps i = z1 at *
      generalize ua ps i = z2 at *
      clear k1 k2
      go_wp2
      refine wp_region_bw (by kernel_rfl) (by kernel_rfl) ?_
      repeat (go_big_quiet_step ((first
        | rfl
        | (go_at_call 4; with_reducible exact HS1.out _)
        | (go_at_call 4; with_reducible exact HS2.out _))))
      refine wpQuiet_nil ?_
      rintro _ ⟨d, rfl⟩
      have hQd := Lib.hid (hQ.out.below d.b (fun k hk => (hQ.out.lt k hk).2))
      have hBd := Lib.hid (hB.out.trans (d.b.mono hwr))
      clear hQ hB hwr r1 r2 HS1 HS2
      obtain ⟨wA, hwA⟩ : ∃ wA, Hid (wA = d.w) := ⟨_, rfl⟩
      rw [← hwA.out] at hQd hBd ⊢
      clear hwA
      have hwr : w.heap.size ≤ wA.heap.size := hBd.out.size
      have HQA := Lib.hid (hQd.out.alloc (.cells #[.int .i64 ((min u1 u2 : Nat) : Int), .int .i64 ((max u1 u2 : Nat) : Int)] 24))
      have HLT := Lib.hid (fun kk (e : _ = some kk) => (hQd.out.lt kk e).1)
      have e1 : min (u1 : Int) (u2 : Int) = ((min u1 u2 : Nat) : Int) := by omega
      have e2 : max (u1 : Int) (u2 : Int) = ((max u1 u2 : Nat) : Int) := by omega
      have hx1 : min u1 u2 < 31 := by omega
      have hx2 : max u1 u2 < 31 := by omega
      generalize min u1 u2 = lo at *
      generalize max u1 u2 = hi_ at *
      go_wp2_with (at_builtin; go_must (refine wpList_append_q _ rfl (.tmp 43) (.tmp 51) 22 rfl w.heap.size 24 i0 _ 2 16 underR hi0 hz0 hz1 hz2 rfl (by decide) _ i (pairCells (bpL ps i)) rfl HQA.out ⟨wA.heap.size, 0, none⟩ 1 1 [.int .i64 (lo : Int), .int .i64 (hi_ : Int)] rfl rfl (cells_newB _ _ _ _) (by simp [Value.oneCell']) (by unfold maxLen; omega) (by omega) (by simp; omega) ?_); intro v7 w7 hq7 hg7 ho7; have HQ7 : Hid (QRow w7 w.heap.size 24 2 v7 (i + 1) (pairCells (bpL ps (i + 1)))) := (by rw [HCE.out]; exact hq7); have HB7 : Hid (Below w.heap.size w w7) := Below.grown (hBd.out.alloc hwr _) hg7 (by simp; omega) (fun kk e => HLT.out kk e); clear hq7 hg7 ho7)
      exact ⟨⟨i + 1, by omega, by omega, int_eq (by omega), HQ7, HB7⟩, by simp [intOf]; omega⟩
    · rcases (show (¬ i < len) ∨ (i < len ∧ ¬ i < 10) by omega) with hg | hg
      all_goals (first
        | (have g1 : ¬ (i : Int) < (len : Int) := by omega
           go_upto_region 7 with (fail))
        | (have g1 : (i : Int) < (len : Int) := by omega
           have g2 : ¬ (i : Int) < 10 := by omega
           go_upto_region 7 with (fail)))
      all_goals
        clear HSM hfit hcm
        by_cases hn0 : i = 0
        · subst hn0
          have HTEN := Lib.hid (ten_any wr)
          go_wp2_with (go_at_call 5; refine HTEN.out.mono ?_; rintro e w9 ⟨rfl, hB9⟩; have HB9 := Lib.hid (hB.out.trans (hB9.mono hwr)); clear hB9)
          go_ret
          exact ⟨rfl, HB9.out⟩
        · have hn1 : 1 ≤ i := by omega
          have HPQ : Hid (Pairs wr p3 (bpL ps i)) := hQ.out.pairs (bpL_len ps i).symm
          have HOK : Hid (ivsOK (bpL ps i)) := bpL_ok ps hn1 (by omega)
          have HQL : Hid ((bpL ps i).length = i) := bpL_len ps i
          clear hQ g1
          try clear g2
          generalize bpL ps i = qs at *
          have HFR := Lib.hid (from_ok p3 c3 qs wr HOK.out HPQ.out)
          rw [HQL.out] at HFR
          go_upto_region 11 with (go_at_call 6; refine HFR.out.mono ?_; rintro e w1 ⟨p1, c1, rfl, hT1, hB1⟩; have HT1 := Lib.hid hT1; have HPQ1 := Lib.hid (HPQ.out.below hB1 (Nat.le_refl _)); have HB1 := Lib.hid (hB.out.trans (hB1.mono hwr)); clear hT1 hB1)
          clear HFR HPQ
          have hw1 : w.heap.size ≤ w1.heap.size := HB1.out.size
          have HBT := Lib.hid (boats_ok p3 c3 qs w1 HOK.out HPQ1.out)
          rw [HQL.out] at HBT
          go_upto_region 12 with (go_at_call 7; refine HBT.out.mono ?_; rintro e w2 ⟨p2, out, many, peak, rfl, hpk, hrt, hlast, hs2, hB2⟩; have HMN : Hid (many ≤ 12) := (by obtain ⟨z, hz, hzc⟩ := hpk.some_; have h9 := cntAt_le (la qs) (ua qs) i peak; have h8 := hzc.2; rw [h8] at h9; unfold Hid; omega); have HPK := Lib.hid hpk; have HRT := Lib.hid hrt; have HLA := Lib.hid hlast; have HS2 := Lib.hid hs2; have HT2 := Lib.hid (HT1.out.below hB2 (Nat.le_refl _)); have HB2 := Lib.hid (HB1.out.trans (hB2.mono hw1)); clear hpk hrt hlast hs2 hB2)
          clear HBT HT1
          have hw2 : w.heap.size ≤ w2.heap.size := HB2.out.size
          obtain ⟨vs, hv1, hv2, hmk⟩ := makeG i (by omega)
          have HR0 : Hid (RowB (w2.alloc (.cells vs 3)) w2.heap.size i (fun x => ((rgP i (ovT qs) 0 0 x : Nat) : Int))) := ⟨vs, BoxN.new rfl, hv1, fun j hj => by rw [hv2 j hj]; show some (Value.int .i64 0) = some (Value.int .i64 ((rgP i (ovT qs) 0 0 j : Nat) : Int)); rw [rgP_zero]; rfl⟩
          have HB3 : Hid (Below w2.heap.size w2 (w2.alloc (.cells vs 3))) := (Below.refl _ _).alloc (Nat.le_refl _) _
          have HSZ : Hid (w2.heap.size < (w2.alloc (.cells vs 3)).heap.size) := by unfold Hid; simp
          have hmk := hmk w2
          clear hv1 hv2
          go_upto_region 16 with (fail)
          clear hmk
          obtain ⟨gB, hgB⟩ : ∃ gB, Hid (gB = w2.heap.size) := ⟨_, rfl⟩
          rw [← hgB.out] at HR0 ⊢
          generalize w2.alloc (.cells vs 3) = Y at *
          have hov := ovT_irr qs
          have HAG0 : Hid (Ag (· = gB) Y Y) := Ag.refl _ _
          have HTY := Lib.hid (HT2.out.below HB3.out (Nat.le_refl _))
          have HTW : Hid (∀ W, Ag (· = gB) Y W → TblI W p1 i (fun _ => i) (relI qs)) := fun W hW => HT2.out.below (hW.below HB3.out HB3.out.size (fun k hk e => by have := hgB.out; omega)) (Nat.le_refl _)
          go_loopw [14] (fun s14 wr => ∃ x : Nat, x ≤ i ∧ s14 = .int .i64 (x : Int) ∧ Hid (RowB wr gB i (fun z => ((rgP i (ovT qs) x 0 z : Nat) : Int))) ∧ Hid (Ag (· = gB) Y wr)) (fun s14 _ => i - (intOf s14).toNat)
          case atStart => exact ⟨0, by omega, rfl, HR0, HAG0⟩
          case round =>
            clear HR0 HAG0
            obtain ⟨x, hx, rfl, hR, hA⟩ := hrel
            by_cases hxn : x < i
            · have g3 : (x : Int) < (i : Int) := by omega
              have g4 : (0 : Int) ≤ (x : Int) := by omega
              go_upto_region 19 with (fail)
              go_loopw [15] (fun s15 wr => ∃ y : Nat, y ≤ i ∧ s15 = .int .i64 (y : Int) ∧ Hid (RowB wr gB i (fun z => ((rgP i (ovT qs) x y z : Nat) : Int))) ∧ Hid (Ag (· = gB) Y wr)) (fun s15 _ => i - (intOf s15).toNat)
              case atStart => exact ⟨0, by omega, rfl, hR, hA⟩
              case round =>
                clear hR hA
                obtain ⟨y, hy, rfl, hR, hA⟩ := hrel
                by_cases hyn : y < i
                · have g5 : (y : Int) < (i : Int) := by omega
                  have g6 : (0 : Int) ≤ (y : Int) := by omega
                  obtain ⟨bt, ot, rfl, hbt, hct⟩ := HTW.out _ hA.out (by omega)
                  obtain ⟨px, cx, kx, sx⟩ := hct x hxn
                  obtain ⟨py, cy, ky, sy⟩ := hct y hyn
                  obtain ⟨bx, ox, rfl, hbx', hcx⟩ := sx (by show i ≠ 0; omega)
                  obtain ⟨by_, oy, rfl, hby, hcy⟩ := sy (by show i ≠ 0; omega)
                  have ax := hcx y hyn
                  have ay := hcy x hxn
                  have HNO : Hid (ovT qs x y = false → RowB wr gB i (fun z => ((rgP i (ovT qs) x (y + 1) z : Nat) : Int))) := fun h => hR.out.congr fun z _ => by rw [rgP_no h]
                  have l1 := hR.out.cell hxn
                  have lf1 := hR.out.frozen x
                  have hsm := rgP_sm (t := ovT qs) (x := x) (show i ≤ 12 by omega) hy x
                  have HYE : Hid (ovT qs x y = true → RowB (wr.setCell ⟨gB, x, none⟩ (.int .i64 ((rgP i (ovT qs) x y x ||| pw y : Nat) : Int))) gB i (fun z => ((rgP i (ovT qs) x (y + 1) z : Nat) : Int))) := fun h => (hR.out.set hxn _).congr fun z _ => by
                    rw [rgP_yes h]
                    by_cases e : z = x
                    · rw [if_pos e, if_pos e]
                    · rw [if_neg e, if_neg e]
                  have HOV : Hid (ovT qs x y = (!decide (x = y) && (!relI qs x y && !relI qs y x))) := rfl
                  have hy20 : y < 20 := by omega
                  clear hct sx sy hcx hcy hR
                  generalize rgP i (ovT qs) x y x = gx at *
                  generalize relI qs x y = u at *
                  generalize relI qs y x = v at *
                  by_cases hxy : x = y
                  · have q1 : ((x : Int) != (y : Int)) = false := by rw [hxy]; simp
                    have HN := Lib.hid (HNO.out (by rw [HOV.out]; simp [hxy]))
                    clear HNO HYE HOV hxy
                    go_wp2
                    exact ⟨⟨y + 1, by omega, int_eq (by omega), HN, hA⟩, by simp [intOf]; omega⟩
                  · have q1 : ((x : Int) != (y : Int)) = true := by rw [bne_iff_ne]; omega
                    cases u
                    · cases v
                      · have HN := Lib.hid (HYE.out (by rw [HOV.out]; simp [hxy]))
                        have HA2 : Hid (Ag (· = gB) Y (wr.setCell ⟨gB, x, none⟩ (.int .i64 ((gx ||| pw y : Nat) : Int)))) := hA.out.set ⟨gB, x, none⟩ _ (.inr rfl)
                        clear HNO HYE HOV hxy hA
                        go_wp2
                        go_region
                        go_wp2
                        go_roundw
                        case rel => exact ⟨y + 1, by omega, by go_num, HN.out, HA2.out.drewN 1⟩
                        case measure => simp [intOf]; omega
                      · have HN := Lib.hid (HNO.out (by rw [HOV.out]; simp))
                        clear HNO HYE HOV hxy
                        go_wp2
                        exact ⟨⟨y + 1, by omega, int_eq (by omega), HN, hA⟩, by simp [intOf]; omega⟩
                    · have HN := Lib.hid (HNO.out (by rw [HOV.out]; simp))
                      clear HNO HYE HOV hxy
                      go_wp2
                      exact ⟨⟨y + 1, by omega, int_eq (by omega), HN, hA⟩, by simp [intOf]; omega⟩
                · have g5 : ¬ (y : Int) < (i : Int) := by omega
                  obtain rfl : i = y := by omega
                  have HN : Hid (RowB wr gB i (fun z => ((rgP i (ovT qs) (x + 1) 0 z : Nat) : Int))) := hR.out.congr fun z _ => by rw [rgP_row]
                  go_wp2
                  exact ⟨⟨x + 1, by omega, int_eq (by omega), HN, hA⟩, by simp [intOf]; omega⟩
            · have g3 : ¬ (x : Int) < (i : Int) := by omega
              obtain rfl : i = x := by omega
              clear g3 hxn hx
              have HRF : Hid (RowB wr gB i (fun z => ((bs (ovT qs z) i : Nat) : Int))) := hR.out.congr fun z hz => by rw [rgP_low hz]
              have HB5 := Lib.hid (hA.out.below HB3.out HB3.out.size (fun k hk e => by have := hgB.out; omega))
              have HSW := Lib.hid (HS2.out.below HB5.out (Nat.le_refl _))
              have HBW := Lib.hid (HB2.out.trans (HB5.out.mono hw2))
              clear hR hA HS2 HTW HTY hov
              obtain ⟨wG, hwG⟩ : ∃ wG, Hid (wG = wr) := ⟨_, rfl⟩
              rw [← hwG.out] at HRF HB5 HSW HBW ⊢
              clear hwG
              have hwG : w.heap.size ≤ wG.heap.size := HBW.out.size
              have HMX : Hid (∀ z, z < i → out z + 1 ≤ many) := fun z hz => HRT.out.1 z hz
              have HM12 : Hid (many ≤ 12) := by
                obtain ⟨z, hz, e⟩ := HLA.out
                exact HMN.out
              go_upto_region 25 with (fail)
              go_loopw [16, 17] (fun s16 s17 wr => ∃ j mx : Nat, j ≤ i ∧ s17 = .int .i64 (j : Int) ∧ s16 = .int .i64 (mx : Int) ∧ mx ≤ many ∧ Hid (∀ z, z < j → out z + 1 ≤ mx) ∧ Hid (wr.heap = wG.heap ∧ wr = wG)) (fun _ s17 _ => i - (intOf s17).toNat)
              case atStart => exact ⟨0, 0, by omega, rfl, rfl, by omega, (fun z hz => by omega), rfl, rfl⟩
              case round =>
                obtain ⟨j, mx, hj, rfl, rfl, hmx, hle, hw⟩ := hrel
                obtain ⟨_, hw⟩ := hw.out
                replace hw := hw.symm
                subst hw
                have hm12 := HM12.out
                by_cases hji : j < i
                · have g3 : (j : Int) < (i : Int) := by omega
                  have g4 : (0 : Int) ≤ (j : Int) := by omega
                  obtain ⟨b2, o2, rfl, hb2, hc2⟩ := HSW.out (by omega)
                  have k1 : wG.cell? ⟨b2, o2 + j, none⟩ = some (.int .i64 ((out j : Nat) : Int)) := hc2 j hji
                  have hb12 := HMX.out j hji
                  have HN : Hid (∀ z, z < j + 1 → out z + 1 ≤ max mx (out j + 1)) := fun z hz => by
                    by_cases e : z = j
                    · subst e; omega
                    · have := hle.out z (by omega); omega
                  clear hc2 hle
                  generalize out j = oj at *
                  have e1 : max (mx : Int) ((oj : Int) + 1) = ((max mx (oj + 1) : Nat) : Int) := by omega
                  have hmm : max mx (oj + 1) ≤ many := by omega
                  generalize max mx (oj + 1) = m2 at *
                  go_wp2
                  exact ⟨⟨j + 1, m2, by omega, int_eq (by omega), rfl, hmm, HN, (by first | exact ⟨rfl, rfl⟩ | exact ⟨trivial, trivial⟩)⟩, by simp [intOf]; omega⟩
                · have g3 : ¬ (j : Int) < (i : Int) := by omega
                  obtain rfl : i = j := by omega
                  have hmm : mx = many := by
                    obtain ⟨z, hz, e⟩ := HLA.out
                    have := hle.out z hz
                    omega
                  subst hmm
                  clear g3 hji hj hle HLA HMX HM12 HSW
                  have HLS := Lib.hid (Hu.listedM_any (some ⟨gB, 0, none⟩) i (ovG qs i) wG (by rw [ovG_len]; omega) (ovG_sm (by omega)) ⟨gB, 0, rfl, HRF.out.lt, fun j hj => by rw [ovG_len] at hj; rw [Nat.zero_add, HRF.out.cell hj, ovG_at hj]⟩)
                  rw [ovG_len] at HLS
                  have HTB1 := Lib.hid (fun W (hW : Below wG.heap.size wG W) => Hu.Tab.below HTB.out (HBW.out.trans (hW.mono hwG)) (Nat.le_refl _))
                  have hn1' : 1 ≤ i := hn1
                  go_upto_region 29 with (first
                    | (go_at_call 9; refine HLS.out.mono ?_; rintro e w7 ⟨es, a7, c7, rfl, hpe, hee, hlen, hem, hB7⟩; have HADJ := Lib.hid (ov_adj hem hee); have HCH := Lib.hid (Hu.Chromatic_ok i a7 c7 es w7 (HTB1.out w7 hB7) ⟨by omega, hpe, hn1', by omega, hee⟩ (by omega)); have HB7 := Lib.hid hB7; clear hpe hee hlen hem hB7)
                    | (go_at_call 8; refine HCH.out.mono ?_; rintro e w8 ⟨⟨kk, ob, cc, rfl, hck, _⟩, hB8⟩; have HCK := Lib.hid hck; have HB8 := Lib.hid (HBW.out.trans ((HB7.out.trans (hB8.mono HB7.out.size)).mono hwG)); clear hck hB8))
                  obtain rfl : kk = mx := boats_colours HADJ.out HPK.out HRT.out HCK.out
                  have q1 : ((kk : Int) == (kk : Int)) = true := by simp
                  have HTEN := Lib.hid (ten_any w8)
                  go_wp2_with (go_at_call 5; refine HTEN.out.mono ?_; rintro e w9 ⟨rfl, hB9⟩; have HB9 := Lib.hid (HB8.out.trans (hB9.mono HB8.out.size)); clear hB9)
                  go_ret
                  exact ⟨rfl, HB9.out⟩
end Go.Proofs.YtbioondlmgolkaaDoor
