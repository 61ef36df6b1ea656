/- Whether lists of triples are days: walk. Sets of numbers below 27 as the bits of a number. -/
import Derived.Test.YtocnhikohfkcaaaG313
import Derived.Test.YtocnhikohfkcaaaG302
set_option linter.unusedVariables false
set_option linter.unusedSimpArgs false
namespace Go.Proofs.Ytocnhikohfkcaaa
open Go.RowKit Go.Shelf
attribute [local go_sem] Oper.semAt_some

/-- lists of triples that can be read -/
def SrcD (W : World) (p : Option Addr) (ds : List (List Z3)) : Prop := 0 < ds.length → ∃ b o, p = some ⟨b, o, none⟩ ∧ b < W.heap.size ∧ ∀ i (hi : i < ds.length), ∃ q c, W.cell? ⟨b, o + i, none⟩ = some (.slice q (ds[i]).length c) ∧ (ds[i]).length ≤ c ∧ SrcZ W q ds[i]
theorem SrcD.below {k : Nat} {w W : World} {p : Option Addr} {ds : List (List Z3)} (h : SrcD w p ds) (hB : Below k w W) (hk : w.heap.size ≤ k) : SrcD W p ds := fun h0 => by
  obtain ⟨b, o, e, hb, hc⟩ := h h0
  refine ⟨b, o, e, Nat.lt_of_lt_of_le hb hB.size, fun i hi => ?_⟩
  obtain ⟨q, c, h1, h2, h3⟩ := hc i hi
  exact ⟨q, c, (hB.cell (p := ⟨b, o + i, none⟩) (show b < k by omega)).trans h1, h2, h3.below hB hk⟩
theorem DaysG.src {W : World} {base n : Nat} {v : Value} (h : DaysG W base n v) : ∃ p c ls, v = .slice p ls.length c ∧ ls.length ≤ c ∧ ls.length ≤ 13 ∧ DaysP n ls ∧ SrcD W p ls ∧ ∀ d ∈ ls, d.length ≤ n := by
  obtain ⟨p, c, ls, rfl, h13, hl, hd, hD⟩ := h
  obtain ⟨xs, h1, h2, _⟩ := hd
  refine ⟨p, c, ls.map fun d => d.map zc, by rw [List.length_map], by rw [List.length_map]; exact h1.fits.1, by rw [List.length_map]; exact h13, hD, fun h0 => ?_, fun d hd' => ?_⟩
  · rw [List.length_map] at h0
    obtain ⟨g, o, cap, e, _, hg, _, _, hc, _⟩ := h1.at h0
    cases e
    refine ⟨g, o, rfl, hg, fun i hi => ?_⟩
    rw [List.length_map] at hi
    obtain ⟨q, c', e1, e2⟩ := h2 i hi
    have hli : (ls[i]).length = n / 3 := hl _ (List.getElem_mem hi)
    have e3 : (ls[i]?).getD [] = ls[i] := by rw [List.getElem?_eq_getElem hi]; rfl
    simp only [e3] at e2
    rw [← hli] at e1 e2
    refine ⟨q, c', ?_, ?_, ?_⟩
    · rw [hc i (by omega), e1]; simp
    · simpa using e2.fits.1
    · have : TRow3 W base (.slice q (ls[i]).length c') ls[i] := e2
      simpa using this.z.src
  · obtain ⟨u, hu, rfl⟩ := List.mem_map.1 hd'
    rw [List.length_map, hl u hu]
    exact Nat.div_le_self _ _
/-- the three of a triple -/
def verts (t : Z3) : List Int := [t.1, t.2.1, t.2.2]
def castL (l : List Nat) : List Int := l.map fun (x : Nat) => (x : Int)
theorem castL_app (a b : List Nat) : castL (a ++ b) = castL a ++ castL b := by unfold castL; rw [List.map_append]
theorem mem_castL {l : List Nat} {x : Nat} : (x : Int) ∈ castL l ↔ x ∈ l := by
  unfold castL
  rw [List.mem_map]
  constructor
  · rintro ⟨y, hy, e⟩
    have : y = x := by omega
    rw [← this]; exact hy
  · exact fun h => ⟨x, h, rfl⟩
theorem nodup_castL {l : List Nat} : (castL l).Nodup ↔ l.Nodup := by
  constructor
  · exact nodup_of_map _
  · intro h
    induction l with
    | nil => exact List.nodup_nil
    | cons a l ih =>
      rw [List.nodup_cons] at h
      show ((a : Int) :: castL l).Nodup
      rw [List.nodup_cons, mem_castL]
      exact ⟨h.1, ih h.2⟩
theorem day_split (day : List Z3) (j : Nat) (hj : j < day.length) : day.flatMap verts = (day.take j).flatMap verts ++ (verts day[j] ++ (day.drop (j + 1)).flatMap verts) := by
  conv => lhs; rw [← List.take_append_drop j day, List.flatMap_append, List.drop_eq_getElem_cons hj, List.flatMap_cons]
theorem day_dup {day : List Z3} {j k : Nat} (hj : j < day.length) (hk : k < 3) (h : (day.flatMap verts).Nodup) : (verts day[j])[k]'hk ∉ (day.take j).flatMap verts ++ (verts day[j]).take k := by
  rw [day_split day j hj] at h
  have h2 := dup_no h (j := k) (by rw [List.length_append]; exact Nat.lt_of_lt_of_le hk (Nat.le_add_right _ _))
  rw [List.getElem_append_left (by exact hk), List.take_append_of_le_length (by exact Nat.le_of_lt hk)] at h2
  exact h2
set_option maxRecDepth 100000 in
set_option maxHeartbeats 16000000 in
theorem IsDays_in (n : Nat) (p : Option Addr) (c : Nat) (ds : List (List Z3)) (w : World) (hn3 : 3 ≤ n) (hn : n ≤ 27) (hl : ds.length ≤ 1000) (hl2 : ∀ d ∈ ds, d.length ≤ 1000) (hc : ds.length ≤ c) (hS : SrcD w p ds) :
    Calls Try.prog 24 #[.int .i64 (n : Int), .slice p ds.length c] w fun e w' => TellsP (DaysP n ds) e ∧ Below w.heap.size w w' := by
  obtain ⟨i0, hi0, hz0, hz1, hz2⟩ := info_parts infoT
  have HR := Lib.hid (inRange_any (n : Int) w)
  rw [decide_eq_true (show 3 ≤ (n : Int) ∧ (n : Int) ≤ 27 by omega)] at HR
  have HS := Lib.hid hS
  have HL2 := Lib.hid hl2
  obtain ⟨len, HL⟩ : ∃ len, Hid (ds.length = len) := ⟨_, rfl⟩
  rw [HL.out] at hl hc ⊢
  clear hS hl2
  go_enter Try.func24, Try.ntmps24
  go_upto_region 5 with (go_at_call 37; refine HR.out.mono ?_; rintro e w4 ⟨rfl, hw4⟩; replace hw4 := hw4.symm; subst hw4; try dsimp only)
  go_loopw [5, 18] (fun s5 s18 wr => ∃ (i al : Nat) (A : List Z3), i ≤ len ∧ s18 = .int .i64 (i : Int) ∧ Hid (A = (ds.take i).flatten) ∧ Hid (A.length = al) ∧ Hid (QRow wr w.heap.size 44 3 s5 al (zcells A)) ∧ al ≤ i * 9 ∧ Hid (∀ d ∈ ds.take i, (d.flatMap verts).Nodup ∧ 3 * d.length = n) ∧ Hid (Below w.heap.size w wr)) (fun _ s18 _ => len - (intOf s18).toNat)
  case atStart => exact ⟨0, 0, [], by omega, rfl, rfl, rfl, QRow.nil _ _ _ _, by omega, fun d hd => (by simp at hd), Below.refl _ _⟩
  case round =>
    obtain ⟨i, al, A, hi, rfl, hA, hAl, hQ, hfl, hD, hB⟩ := hrel
    obtain ⟨p5, c5, rfl⟩ := hQ.out.isSlice
    obtain ⟨wo, hwo⟩ : ∃ wo, Hid (wo = wr) := ⟨_, rfl⟩
    rw [← hwo.out] at hQ hB ⊢
    clear hwo
    have hwr : w.heap.size ≤ wo.heap.size := hB.out.size
    by_cases hin : i < len
    · have g1 : (i : Int) < (len : Int) := by omega
      have hil : i < ds.length := by rw [HL.out]; exact hin
      obtain ⟨b, o, rfl, hb, hcs⟩ := HS.out (by omega)
      obtain ⟨q, cq, k1, hcq, hz⟩ := hcs i hil
      have HDM : Hid (ds[i] ∈ ds) := List.getElem_mem hil
      have HTK : Hid (ds.take (i + 1) = ds.take i ++ [ds[i]]) := by unfold Hid; rw [List.take_add_one, List.getElem?_eq_getElem hil]; rfl
      have r1 : wo.cell? ⟨b, o + i, none⟩ = some (.slice q (ds[i]).length cq) := (hB.out.cell (p := ⟨b, o + i, none⟩) hb).trans k1
      have hdl := HL2.out _ HDM.out
      have HZ := Lib.hid hz
      generalize ds[i] = day at *
      obtain ⟨dl, hdl2⟩ : ∃ dl, Hid (day.length = dl) := ⟨_, rfl⟩
      rw [hdl2.out] at r1 hcq hdl
      clear hcs k1 hz
      have HM0 : Hid (MarkB (wo.alloc (.cells (List.replicate 27 (Value.bool false)).toArray 68)) wo.heap.size []) := MarkB.new rfl
      have HB1 : Hid (Below wo.heap.size wo (wo.alloc (.cells (List.replicate 27 (Value.bool false)).toArray 68))) := (Below.refl _ _).alloc (Nat.le_refl _) _
      simp only [List.replicate_succ, List.replicate_zero] at HM0 HB1
      go_upto_region 9 with (fail)
      obtain ⟨R, hRR⟩ : ∃ R, Hid (R = wo.heap.size) := ⟨_, rfl⟩
      rw [← hRR.out] at HM0 ⊢
      generalize (wo.alloc (.cells _ 68)) = V at *
      clear r1
      go_loopw [24] (fun s24 wq => ∃ (j : Nat) (mk : List Nat), j ≤ dl ∧ s24 = .int .i64 (j : Int) ∧ Hid (MarkB wq R mk) ∧ Hid ((day.take j).flatMap verts = castL mk) ∧ Hid mk.Nodup ∧ Hid (Below wo.heap.size wo wq)) (fun s24 _ => dl - (intOf s24).toNat)
      case atStart => exact ⟨0, [], by omega, rfl, HM0, by unfold Hid; simp [castL], List.nodup_nil, HB1⟩
      case round =>
        clear HM0 HB1
        obtain ⟨j, mk, hj, rfl, hM, hV, hN, hBq⟩ := hrel
        have hwq : wo.heap.size ≤ wr.heap.size := hBq.out.size
        have hRq : R < wr.heap.size := BoxN.lt hM.out
        by_cases hjd : j < dl
        · have g2 : (j : Int) < (dl : Int) := by omega
          have hjl : j < day.length := by rw [hdl2.out]; exact hjd
          obtain ⟨b2, o2, rfl, hb2, hc2⟩ := HZ.out (by omega)
          obtain ⟨k0, k1, k2⟩ := hc2 j hjl
          have hb2o : b2 < wo.heap.size := Nat.lt_of_lt_of_le hb2 hwr
          have m0 : wr.cell? ⟨b2, o2 + j * 3, none⟩ = some (.int .i64 (day[j]).1) := (hBq.out.cell (p := ⟨b2, o2 + j * 3, none⟩) hb2o).trans ((hB.out.cell (p := ⟨b2, o2 + j * 3, none⟩) hb2).trans k0)
          have m1 : wr.cell? ⟨b2, o2 + j * 3 + 1, none⟩ = some (.int .i64 (day[j]).2.1) := (hBq.out.cell (p := ⟨b2, o2 + j * 3 + 1, none⟩) hb2o).trans ((hB.out.cell (p := ⟨b2, o2 + j * 3 + 1, none⟩) hb2).trans k1)
          have m2 : wr.cell? ⟨b2, o2 + j * 3 + 2, none⟩ = some (.int .i64 (day[j]).2.2) := (hBq.out.cell (p := ⟨b2, o2 + j * 3 + 2, none⟩) hb2o).trans ((hB.out.cell (p := ⟨b2, o2 + j * 3 + 2, none⟩) hb2).trans k2)
          have HTJ : Hid ((day.take (j + 1)).flatMap verts = (day.take j).flatMap verts ++ verts day[j]) := by unfold Hid; rw [List.take_add_one, List.getElem?_eq_getElem hjl, List.flatMap_append]; simp
          have HRI : Hid (DaysP n ds → RisesP n day[j]) := fun H => H.tog.up _ (List.mem_flatten.2 ⟨day, HDM.out, List.getElem_mem hjl⟩)
          have HDU : Hid (∀ k (hk : k < 3), DaysP n ds → (verts day[j])[k]'hk ∉ (day.take j).flatMap verts ++ (verts day[j]).take k) := fun k hk H => day_dup hjl hk (H.nd day HDM.out)
          generalize day[j] = t at *
          obtain ⟨t0, t1, t2⟩ := t
          simp only at m0 m1 m2
          have HM1 : Hid (MarkB (wr.alloc (.cells #[.int .i64 t0, .int .i64 t1, .int .i64 t2] 44)) R mk) := BoxN.alloc hM.out _
          have HB2 : Hid (Below wo.heap.size wo (wr.alloc (.cells #[.int .i64 t0, .int .i64 t1, .int .i64 t2] 44))) := hBq.out.alloc hwq _
          go_upto_region 12 with (fail)
          generalize (wr.alloc (.cells #[.int .i64 t0, .int .i64 t1, .int .i64 t2] 44)) = X at *
          clear m0 m1 m2 hM hBq k0 k1 k2 hc2 hRq
          go_loopw [29] (fun s29 wq => ∃ (k : Nat) (mk' : List Nat), k ≤ 3 ∧ s29 = .int .i64 (k : Int) ∧ Hid (MarkB wq R mk') ∧ Hid ((day.take j).flatMap verts ++ (verts (t0, t1, t2)).take k = castL mk') ∧ Hid mk'.Nodup ∧ Hid (Below wo.heap.size wo wq)) (fun s29 _ => 3 - (intOf s29).toNat)
          case atStart => exact ⟨0, mk, by omega, rfl, HM1, by unfold Hid; rw [List.take_zero, List.append_nil]; exact hV.out, hN, HB2⟩
          case round =>
            clear HM1 HB2
            obtain ⟨k, mk', hk, rfl, hM, hVk, hNk, hBq⟩ := hrel
            have hwx : wo.heap.size ≤ wr.heap.size := hBq.out.size
            by_cases hk3 : k < 3
            · have g3 : (k : Int) < 3 := by omega
              obtain ⟨v, hv, hix, hrv⟩ : ∃ v, Hid ((verts (t0, t1, t2))[k]'hk3 = v) ∧ (∀ W, Sem.run Try.prog (Instr.index 44 (.agg #[.int .i64 t0, .int .i64 t1, .int .i64 t2]) (.int .i64 (k : Int))) W = .ok (.int .i64 v) W) ∧ Hid (RisesP n (t0, t1, t2) → 0 ≤ v ∧ v < n) := by
                rcases (show k = 0 ∨ k = 1 ∨ k = 2 by omega) with rfl | rfl | rfl
                · exact ⟨t0, rfl, fun W => by kernel_rfl, fun h => by unfold RisesP at h; simp only at h; omega⟩
                · exact ⟨t1, rfl, fun W => by kernel_rfl, fun h => by unfold RisesP at h; simp only at h; omega⟩
                · exact ⟨t2, rfl, fun W => by kernel_rfl, fun h => by unfold RisesP at h; simp only at h; omega⟩
              have HDK : Hid (DaysP n ds → v ∉ castL mk') := fun H => by
                have := HDU.out k hk3 H
                rw [hv.out, hVk.out] at this
                exact this
              have HTKk : Hid ((verts (t0, t1, t2)).take (k + 1) = (verts (t0, t1, t2)).take k ++ [v]) := by unfold Hid; rw [List.take_add_one, List.getElem?_eq_getElem (by exact hk3), hv.out]; rfl
              have HNR : Hid (¬ (0 ≤ v ∧ v < n) → ¬ DaysP n ds) := fun h H => h (hrv.out (HRI.out H))
              clear hrv
              by_cases hv0 : 0 ≤ v
              · by_cases hvn : v < (n : Int)
                · obtain ⟨u, rfl⟩ : ∃ u : Nat, v = (u : Int) := ⟨v.toNat, by omega⟩
                  have hu27 : u < 27 := by omega
                  have hun : ¬ n ≤ u := by omega
                  have hun2 : decide (n ≤ u) = false := by simp; omega
                  have cu := hM.out.cell hu27
                  have fu := hM.out.frozen u
                  cases hel : mk'.elem u with
                  | true =>
                    have HF : Hid (¬ DaysP n ds) := fun H => HDK.out H (mem_castL.2 (List.elem_iff.1 hel))
                    rw [hel] at cu
                    have hBF : Hid (Below w.heap.size w wr) := hB.out.trans (hBq.out.mono hwr)
                    clear hel
                    go_wp2
                    go_ret
                    exact ⟨⟨false, rfl, ⟨fun h => (by cases h), fun H => (HF.out H).elim⟩⟩, hBF.out⟩
                  | false =>
                    have hnm : u ∉ mk' := fun h => by rw [List.elem_iff.2 h] at hel; cases hel
                    rw [hel] at cu
                    have HM2 := Lib.hid (hM.out.set u)
                    have HN2 : Hid (mk' ++ [u]).Nodup := by
                      unfold Hid
                      rw [List.nodup_append]
                      refine ⟨hNk.out, by simp, fun a ha b hb e => ?_⟩
                      rw [List.mem_singleton.1 hb] at e
                      rw [e] at ha
                      exact hnm ha
                    have HV2 : Hid ((day.take j).flatMap verts ++ (verts (t0, t1, t2)).take (k + 1) = castL (mk' ++ [u])) := by
                      unfold Hid
                      rw [HTKk.out, ← List.append_assoc, hVk.out, castL_app]
                      rfl
                    have HB3 : Hid (Below wo.heap.size wo (wr.setCell ⟨R, u, none⟩ (.bool true))) := ((Ag.refl (fun k => k = R) wr).set ⟨R, u, none⟩ _ (.inr rfl)).below hBq.out hwx (fun k hk e => by have := hRR.out; omega)
                    clear hel hnm hM hBq
                    go_wp2
                    exact ⟨⟨k + 1, mk' ++ [u], by omega, int_eq (by omega), HM2, HV2, HN2, HB3⟩, by simp [intOf]; omega⟩
                · have HF : Hid (¬ DaysP n ds) := HNR.out (fun h => hvn h.2)
                  have hBF : Hid (Below w.heap.size w wr) := hB.out.trans (hBq.out.mono hwr)
                  have hvn2 : (n : Int) ≤ v := by omega
                  have hv00 : ¬ v < 0 := by omega
                  go_wp2
                  go_ret
                  exact ⟨⟨false, rfl, ⟨fun h => (by cases h), fun H => (HF.out H).elim⟩⟩, hBF.out⟩
              · have HF : Hid (¬ DaysP n ds) := HNR.out (fun h => hv0 h.1)
                have hBF : Hid (Below w.heap.size w wr) := hB.out.trans (hBq.out.mono hwr)
                have hv00 : v < 0 := by omega
                go_wp2
                go_ret
                exact ⟨⟨false, rfl, ⟨fun h => (by cases h), fun H => (HF.out H).elim⟩⟩, hBF.out⟩
            · have g3 : ¬ (k : Int) < 3 := by omega
              obtain rfl : k = 3 := by omega
              have HV3 : Hid ((day.take (j + 1)).flatMap verts = castL mk') := by unfold Hid; rw [HTJ.out]; exact hVk.out
              go_wp2
              exact ⟨⟨j + 1, mk', by omega, int_eq (by omega), hM, HV3, hNk, hBq⟩, by simp [intOf]; omega⟩
        · have g2 : ¬ (j : Int) < (dl : Int) := by omega
          obtain rfl : dl = j := by omega
          have HVD : Hid (day.flatMap verts).Nodup := by
            have h1 := hV.out
            rw [List.take_of_length_le (by rw [hdl2.out]; exact Nat.le_refl _)] at h1
            unfold Hid
            rw [h1, nodup_castL]
            exact hN.out
          have hBr : Hid (Below w.heap.size w wr) := hB.out.trans (hBq.out.mono hwr)
          by_cases h3 : 3 * dl = n
          · have q1 : ((3 * (dl : Int)) != (n : Int)) = false := by simp; omega
            have HQA : Hid (QRow wr w.heap.size 44 3 (.slice p5 al c5) al (zcells A)) := hQ.out.below hBq.out (fun k hk => (hQ.out.lt k hk).2)
            have HSD : Hid (Src wr q dl 3 (zcells day)) := by
              have := ((HZ.out.below hB.out (Nat.le_refl _)).below hBq.out (Nat.le_refl _)).src
              rw [hdl2.out] at this
              exact this
            have HO0 : Hid (∀ u ∈ zcells day, u.oneCell' = true) := fun u hu => by
              obtain ⟨t, _, ht⟩ := List.mem_flatMap.1 hu
              unfold zc3 at ht
              simp at ht
              rcases ht with rfl | rfl | rfl <;> rfl
            have HDN : Hid (∀ d ∈ ds.take (i + 1), (d.flatMap verts).Nodup ∧ 3 * d.length = n) := fun d hd => by
              rw [HTK.out] at hd
              rcases List.mem_append.1 hd with h | h
              · exact hD.out d h
              · rw [List.mem_singleton.1 h]; exact ⟨HVD.out, by rw [hdl2.out]; exact h3⟩
            have HAN : Hid (A ++ day = (ds.take (i + 1)).flatten) := by unfold Hid; rw [HTK.out, List.flatten_append, hA.out]; simp
            have HLN : Hid ((A ++ day).length = al + dl) := by unfold Hid; rw [List.length_append, hAl.out, hdl2.out]
            have HZN : Hid (zcells (A ++ day) = zcells A ++ zcells day) := by unfold Hid zcells; rw [List.flatMap_append]
            have hwr2 : w.heap.size ≤ wr.heap.size := hBr.out.size
            clear hM hV hN hBq hQ hB
            go_wp2_with (at_builtin; go_must (refine wpList_append_qq _ rfl (.tmp 53) (.tmp 54) 33 rfl w.heap.size 44 i0 _ 3 24 underT hi0 hz0 hz1 hz2 rfl (by decide) _ al (zcells A) rfl HQA.out q dl cq (zcells day) rfl HSD.out HO0.out (by unfold maxLen; omega) (by omega) (by omega) ?_); intro v6 w6 hq6 hg6 ho6; have HQ6 := Lib.hid hq6; have HG6 := Lib.hid hg6; clear hq6 hg6 ho6)
            have HB6 : Hid (Below w.heap.size w w6) := Below.grown hBr.out HG6.out hBr.out.size (fun kk e => (HQA.out.lt kk e).1)
            refine ⟨⟨i + 1, al + dl, A ++ day, by omega, int_eq (by omega), HAN, HLN, ?_, by omega, HDN, HB6⟩, by simp [intOf]; omega⟩
            unfold Hid
            rw [HZN.out]
            exact HQ6.out
          · have q1 : ((3 * (dl : Int)) != (n : Int)) = true := by simp; omega
            have HF : Hid (¬ DaysP n ds) := fun H => h3 (by have := H.len day HDM.out; rw [hdl2.out] at this; exact this)
            clear hM hV hN hBq hQ hB
            go_wp2
            go_ret
            exact ⟨⟨false, rfl, ⟨fun h => (by cases h), fun H => (HF.out H).elim⟩⟩, hBr.out⟩
    · have g1 : ¬ (i : Int) < (len : Int) := by omega
      obtain rfl : len = i := by omega
      have HE : Hid (ds.take len = ds) := by unfold Hid; rw [List.take_of_length_le (by rw [HL.out]; exact Nat.le_refl _)]
      rw [HE.out] at hA hD
      have HZA : Hid (ZRow wo w.heap.size (.slice p5 al c5) A) := by
        unfold Hid ZRow
        rw [hAl.out]
        exact hQ.out
      have HZ : Hid (SrcZ wo p5 A) := ZRow.src HZA.out
      have HFI := hQ.out.fits.1
      have HIT := Lib.hid (isTri_any n p5 c5 A wo hn3 hn (by rw [hAl.out]; omega) (by rw [hAl.out]; exact HFI) HZ.out)
      rw [hAl.out] at HIT
      have HDT : Hid (DaysP n ds ↔ TogP n A) := ⟨fun h => (by rw [hA.out]; exact h.tog), fun h => ⟨(by rw [hA.out] at h; exact h), fun d hd => (hD.out d hd).1, fun d hd => (hD.out d hd).2⟩⟩
      clear HFI
      by_cases hT : TogP n A
      · go_wp2_with (go_at_call 46; refine HIT.out.mono ?_; rintro e w3 ⟨ht, hB3⟩; obtain rfl := ht.yes hT; have HB3 : Hid (Below w.heap.size w w3) := hB.out.trans (hB3.mono hwr); clear ht hB3)
        go_ret
        exact ⟨⟨true, rfl, ⟨fun _ => HDT.out.2 hT, fun _ => rfl⟩⟩, HB3.out⟩
      · go_wp2_with (go_at_call 46; refine HIT.out.mono ?_; rintro e w3 ⟨ht, hB3⟩; obtain rfl := ht.no hT; have HB3 : Hid (Below w.heap.size w w3) := hB.out.trans (hB3.mono hwr); clear ht hB3)
        go_ret
        exact ⟨⟨false, rfl, ⟨fun h => (by cases h), fun H => (hT (HDT.out.1 H)).elim⟩⟩, HB3.out⟩
theorem IsDays_any (n : Int) (p : Option Addr) (c : Nat) (ds : List (List Z3)) (w : World) (hl : ds.length ≤ 1000) (hl2 : ∀ d ∈ ds, d.length ≤ 1000) (hc : ds.length ≤ c) (hS : SrcD w p ds) :
    Calls Try.prog 24 #[.int .i64 n, .slice p ds.length c] w fun e w' => TellsP ((3 ≤ n ∧ n ≤ 27) ∧ DaysP n.toNat ds) e ∧ Below w.heap.size w w' := by
  by_cases hr : 3 ≤ n ∧ n ≤ 27
  · obtain ⟨m, rfl⟩ : ∃ m : Nat, n = (m : Int) := ⟨n.toNat, by omega⟩
    refine (IsDays_in m p c ds w (by omega) (by omega) hl hl2 hc hS).mono fun e w' h => ⟨?_, h.2⟩
    obtain ⟨b, e1, e2⟩ := h.1
    exact ⟨b, e1, e2.trans ⟨fun h => ⟨hr, h⟩, fun h => h.2⟩⟩
  · have HR := Lib.hid (inRange_any n w)
    rw [decide_eq_false hr] at HR
    have HF : Hid (¬ ((3 ≤ n ∧ n ≤ 27) ∧ DaysP n.toNat ds)) := fun h => hr h.1
    obtain ⟨len, HL⟩ : ∃ len, Hid (ds.length = len) := ⟨_, rfl⟩
    rw [HL.out]
    clear hl hl2 hS hr
    go_enter Try.func24, Try.ntmps24
    go_wp2_with (go_at_call 37; refine HR.out.mono ?_; rintro e w4 ⟨rfl, hw4⟩; replace hw4 := hw4.symm; subst hw4; try dsimp only)
    go_ret
    exact ⟨⟨false, rfl, ⟨fun h => (by cases h), fun H => (HF.out H).elim⟩⟩, Below.refl _ _⟩
end Go.Proofs.Ytocnhikohfkcaaa
namespace Go.Proofs.Ytocnhikohfkcaaa
open Go.RowKit

theorem ofInt_27 (a : Nat) (h : a < 1099511627776) : (BitVec.ofInt 64 (a : Int)).toNat = a := by
  rw [BitVec.ofInt_natCast, BitVec.toNat_ofNat, Nat.mod_eq_of_lt (by omega)]
theorem wrap_27 (n : Nat) (x : BitVec 64) (h : x.toNat = n) (hn : n < 1099511627776) : IntKind.i64.wrap ((x.toNat : Nat) : Int) = (n : Int) := by
  rw [h, IntKind.wrap_i64]; omega
theorem and_27 {a b : Nat} (ha : a < 1099511627776) (hb : b < 1099511627776) : bits .and .i64 (a : Int) (b : Int) = ((a &&& b : Nat) : Int) :=
  wrap_27 _ (BitVec.ofInt 64 (a : Int) &&& BitVec.ofInt 64 (b : Int)) (by rw [BitVec.toNat_and, ofInt_27 a ha, ofInt_27 b hb]) (Nat.lt_of_le_of_lt Nat.and_le_left ha)
theorem or_27 {a b : Nat} (ha : a < 1099511627776) (hb : b < 1099511627776) : bits .or .i64 (a : Int) (b : Int) = ((a ||| b : Nat) : Int) :=
  wrap_27 _ (BitVec.ofInt 64 (a : Int) ||| BitVec.ofInt 64 (b : Int)) (by rw [BitVec.toNat_or, ofInt_27 a ha, ofInt_27 b hb]) (Nat.or_lt_two_pow (n := 40) ha hb)
theorem pw_27 {k : Nat} (h : k < 40) : pw k < 1099511627776 := Nat.pow_lt_pow_right (by decide) h
theorem wrap_pw {k : Nat} (h : k < 40) : wrap64 (2 ^ k) = ((pw k : Nat) : Int) := by
  have h1 := pw_27 h
  have h2 : (2 : Int) ^ k = ((pw k : Nat) : Int) := by unfold pw; push_cast; rfl
  rw [h2]
  rw [← IntWalk.i64_left, IntKind.wrap_i64]
  omega
theorem testBit_pw (k i : Nat) : (pw k).testBit i = decide (k = i) := by unfold pw; exact Nat.testBit_two_pow
/-- the number's bits are the list's members -/
def IsSet (a : Nat) (l : List Nat) : Prop := ∀ k, a.testBit k = decide (k ∈ l)
theorem IsSet.zero : IsSet 0 [] := fun k => by simp
def pw3 (x y z : Nat) : Nat := pw x ||| pw y ||| pw z
theorem testBit_pw3 (x y z i : Nat) : (pw3 x y z).testBit i = decide (i = x ∨ i = y ∨ i = z) := by
  unfold pw3
  rw [Nat.testBit_or, Nat.testBit_or, testBit_pw, testBit_pw, testBit_pw]
  by_cases h1 : i = x
  · simp [h1]
  · by_cases h2 : i = y
    · simp [h2]
    · by_cases h3 : i = z
      · simp [h3]
      · have g1 : ¬ x = i := fun h => h1 h.symm
        have g2 : ¬ y = i := fun h => h2 h.symm
        have g3 : ¬ z = i := fun h => h3 h.symm
        simp [h1, h2, h3, g1, g2, g3]
theorem IsSet.add {a : Nat} {l : List Nat} (h : IsSet a l) (x y z : Nat) : IsSet (a ||| pw3 x y z) (l ++ [x, y, z]) := fun k => by
  rw [Nat.testBit_or, h k, testBit_pw3, Bool.eq_iff_iff]
  simp
theorem IsSet.apart {a : Nat} {l : List Nat} (h : IsSet a l) (x y z : Nat) : (a &&& pw3 x y z) = 0 ↔ x ∉ l ∧ y ∉ l ∧ z ∉ l := by
  constructor
  · intro e
    have key : ∀ k, (k = x ∨ k = y ∨ k = z) → k ∉ l := fun k hk hm => by
      have h1 : (a &&& pw3 x y z).testBit k = true := by rw [Nat.testBit_and, h k, testBit_pw3]; simp [hm, hk]
      rw [e] at h1
      simp at h1
    exact ⟨key x (.inl rfl), key y (.inr (.inl rfl)), key z (.inr (.inr rfl))⟩
  · rintro ⟨h1, h2, h3⟩
    refine Nat.eq_of_testBit_eq fun k => ?_
    rw [Nat.testBit_and, h k, testBit_pw3, Nat.zero_testBit]
    by_cases hk : k ∈ l
    · have : ¬ (k = x ∨ k = y ∨ k = z) := by
        rintro (rfl | rfl | rfl)
        · exact h1 hk
        · exact h2 hk
        · exact h3 hk
      simp [this]
    · simp [hk]
theorem IsSet.lt {a n : Nat} {l : List Nat} (h : IsSet a l) (hl : ∀ x ∈ l, x < n) : a < 2 ^ n := by
  refine Nat.lt_pow_two_of_testBit a fun k hk => ?_
  rw [h k]
  simp only [decide_eq_false_iff_not]
  intro hm
  have := hl k hm
  omega
theorem IsSet.full {a n : Nat} {l : List Nat} (h : IsSet a l) (hl : ∀ x ∈ l, x < n) (hn : l.Nodup) : a = full n ↔ l.length = n := by
  have hsub : l.length ≤ n := by
    have := hn.length_le_of_subset (l₂ := List.range n) (fun x hx => List.mem_range.2 (hl x hx))
    simpa using this
  constructor
  · intro e
    have h2 : ∀ k, k < n → k ∈ l := fun k hk => by
      have := h k
      rw [e, testBit_full] at this
      simpa [hk] using this.symm
    have := (List.nodup_range (n := n)).length_le_of_subset (l₂ := l) (fun x hx => h2 x (List.mem_range.1 hx))
    rw [List.length_range] at this
    omega
  · intro e
    have h2 : ∀ k, k < n → k ∈ l := fun k hk => by
      by_cases hm : k ∈ l
      · exact hm
      · have hc : (k :: l).Nodup := List.nodup_cons.2 ⟨hm, hn⟩
        have := hc.length_le_of_subset (l₂ := List.range n) (fun x hx => by
          rcases List.mem_cons.1 hx with rfl | hx
          · exact List.mem_range.2 hk
          · exact List.mem_range.2 (hl x hx))
        simp at this
        omega
    refine Nat.eq_of_testBit_eq fun k => ?_
    rw [h k, testBit_full, decide_eq_decide]
    exact ⟨fun hm => hl k hm, h2 k⟩
end Go.Proofs.Ytocnhikohfkcaaa
