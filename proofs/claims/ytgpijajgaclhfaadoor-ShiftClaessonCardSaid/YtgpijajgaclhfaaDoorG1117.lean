/- Tables as they come in; the law's copy of a table; the document's check: walks. The law's copy of a table; the document's check of an order: walks. The document's check of an order: a walk. An order out of any table: plain; and a table of marks whose rows are written. The law's tame: a walk. The document's size of a set, what is before, and the sets in order: walks. The document's sets in order: a walk. IsThreeOne: walk. The document's tests of four elements: walks. -/
import Derived.Test.YtgpijajgaclhfaaDoorG1115
import Derived.Test.YtgpijajgaclhfaaDoorLo
import Derived.Deep.Grids
import Derived.Test.YtgpijajgaclhfaaDoorG1112
import Derived.Test.YtgpijajgaclhfaaDoorG1113
set_option linter.unusedVariables false
set_option linter.unusedSimpArgs false
namespace Go.Proofs.YtgpijajgaclhfaaDoor
open Go.ChangeShapes Go.WideShapes Go.ChangeAt Go.RowKit Go.Shelf

/-- a slice of marks as it comes in -/
structure MarksIn (w : World) (p : Option Addr) (cap m : Nat) (f : Nat → Bool) : Prop where
  g : SrcBl w p m f
  fits : m ≤ cap
  capm : cap ≤ maxLen
  nil : p = none → cap = 0
/-- a table as it comes in -/
structure TabIn (W : World) (la : Option Addr) (n cap : Nat) (ln : Nat → Nat) (r : Nat → Nat → Bool) : Prop where
  g : n ≠ 0 → ∃ b o, la = some ⟨b, o, none⟩ ∧ b < W.heap.size ∧ ∀ i, i < n → ∃ p c, W.cell? ⟨b, o + i, none⟩ = some (.slice p (ln i) c) ∧ MarksIn W p c (ln i) (r i)
  len : n ≤ maxLen
theorem MarksIn.below {k : Nat} {w W : World} {p : Option Addr} {c m : Nat} {f : Nat → Bool} (h : MarksIn w p c m f) (hB : Below k w W) (hk : w.heap.size ≤ k) : MarksIn W p c m f := ⟨h.g.below hB hk, h.fits, h.capm, h.nil⟩
theorem TabIn.below {k : Nat} {w W : World} {la : Option Addr} {n cap : Nat} {ln : Nat → Nat} {r : Nat → Nat → Bool} (h : TabIn w la n cap ln r) (hB : Below k w W) (hk : w.heap.size ≤ k) : TabIn W la n cap ln r := ⟨fun h0 => by
  obtain ⟨b, o, e, h1, h2⟩ := h.g h0
  refine ⟨b, o, e, Nat.lt_of_lt_of_le h1 hB.size, fun i hi => ?_⟩
  obtain ⟨p, c, h3, h4⟩ := h2 i hi
  exact ⟨p, c, (hB.cell (p := ⟨b, o + i, none⟩) (Nat.lt_of_lt_of_le h1 hk)).trans h3, h4.below hB hk⟩, h.len⟩
theorem cells4 : Tryd.prog.cellsOf 4 = 1 := by kernel_rfl
theorem cells60 : Tryd.prog.cellsOf 60 = 1 := by kernel_rfl
theorem spot_none {W : World} {x : Addr} {v : Value} (h : W.cell? (x.add 0) = some v) : x.spot = none := by
  obtain ⟨b, off, sp⟩ := x
  unfold World.cell? at h
  cases sp with
  | none => rfl
  | some s =>
    simp [Addr.add] at h
    split at h <;> simp_all
theorem addr_flat {x : Addr} (h : x.spot = none) : x = ⟨x.block, x.off, none⟩ := by
  obtain ⟨b, off, sp⟩ := x
  simp at h; subst h; rfl
set_option maxRecDepth 100000 in
theorem open_table {H : Type} {enc : TypeId × Value → H} {W : World} {a : Option Addr} {len cap : Nat} {d : DataW H} {p : List MemPlace}
    (h : ∃ fuel, DataW.trod enc Tryd.prog W 0 (fun _ => true) true fuel 24 (Value.slice a len cap).cells.toList = some (d, p)) : ∃ (ln : Nat → Nat) (r : Nat → Nat → Bool), TabIn W a len cap ln r := by
  obtain ⟨fuel, hf⟩ := h
  rcases Go.Deep.open_bool_rows under24 under60 Tryd.underlying4 cells60 cells4 hf with ⟨hcs, _⟩ | ⟨x, l, c, A, L, C, B, hcs, _, hl, hm, _, hr⟩
  · simp [Value.cells] at hcs
    obtain ⟨rfl, rfl, rfl⟩ := hcs
    exact ⟨fun _ => 0, fun _ _ => false, ⟨fun e => absurd rfl e, by decide⟩⟩
  · simp [Value.cells] at hcs
    obtain ⟨rfl, rfl, rfl⟩ := hcs
    refine ⟨L, B, ⟨fun hne => ?_, by omega⟩⟩
    have h0 := (hr 0 (by omega)).1
    have hsp : x.spot = none := spot_none h0
    have hx := addr_flat hsp
    generalize x.block = b at *
    generalize x.off = off at *
    subst hx
    refine ⟨b, off, rfl, ?_, fun i hi => ?_⟩
    · obtain ⟨o, ho, _⟩ := cells_of_cell h0
      exact (Array.getElem?_eq_some_iff.1 ho).1
    · obtain ⟨h1, h2, h3, h4, h5⟩ := hr i (by omega)
      rw [Addr.add_lit] at h1
      refine ⟨_, _, h1, ⟨fun hm0 => ?_, h2, h3, h4⟩⟩
      cases hA : A i with
      | none => have := h4 hA; omega
      | some y =>
        obtain ⟨_, h6⟩ := h5 y hA
        have g0 := h6 0 (by omega)
        have hy := addr_flat (spot_none g0)
        generalize y.block = b2 at *
        generalize y.off = off2 at *
        subst hy
        refine ⟨b2, off2, rfl, ?_, fun j hj => ?_⟩
        · obtain ⟨o, ho, _⟩ := cells_of_cell g0
          exact (Array.getElem?_eq_some_iff.1 ho).1
        · have := h6 j (by omega)
          rw [Addr.add_lit] at this
          exact this
end Go.Proofs.YtgpijajgaclhfaaDoor
namespace Go.Proofs.YtgpijajgaclhfaaDoor
open Go.RowKit Go.Shelf

theorem MarksIn.src {w : World} {p : Option Addr} {cap m : Nat} {f : Nat → Bool} (h : MarksIn w p cap m f) {k : Nat} (hk : k ≤ m) : Src w p k 1 (bv f k) := by
  refine ⟨by rw [bv_len, Nat.mul_one], fun h0 => ?_⟩
  obtain ⟨b, o, e, h1, h2⟩ := h.g (by omega)
  refine ⟨_, e, fun j u hu => ?_⟩
  have hj := (List.getElem?_eq_some_iff.1 hu).1
  rw [bv_len] at hj
  rw [Addr.add_lit]
  rw [bv_get f k j hj] at hu
  cases hu
  exact h2 j (by omega)
set_option maxRecDepth 100000 in
set_option maxHeartbeats 4000000 in
theorem table_any (a : Option Addr) (n cap : Nat) (ln : Nat → Nat) (r : Nat → Nat → Bool) (w : World) (h : TabIn w a n cap ln r) :
    Calls Tryd.prog 49 #[.slice a n cap] w fun e w' => ∃ v, e = .returned v ∧ TRow w' w.heap.size v (min n 14) (fun i => min (ln i) 14) r ∧ Below w.heap.size w w' := by
  obtain ⟨i0, hi0, hz0, hz1, hz2⟩ := info_parts info4
  obtain ⟨i1, hi1, hy0, hy1, hy2⟩ := info_parts info60
  have HG := Lib.hid h
  have hnm := h.len
  unfold maxLen at hnm
  obtain ⟨m, hm⟩ : ∃ m, Hid (m = min n 14) := ⟨_, rfl⟩
  rw [← hm.out]
  have hmn : m ≤ n := by rw [hm.out]; omega
  have hm14 : m ≤ 14 := by rw [hm.out]; omega
  have HMM : Hid (∀ i, i < m ↔ i < n ∧ i < 14) := fun i => by rw [hm.out]; omega
  clear h
  go_enter Tryd.func49, Tryd.ntmps49
  go_upto_region 3 with (fail)
  go_loopw [3, 4] (fun s3 s4 wr => ∃ i : Nat, i ≤ m ∧ s4 = .int .i64 (i : Int) ∧ TRow wr w.heap.size s3 i (fun i => min (ln i) 14) r ∧ Hid (Below w.heap.size w wr)) (fun _ s4 _ => m - (intOf s4).toNat)
  case atStart => exact ⟨0, by omega, rfl, TRow.nil _ _ _ _, Below.refl _ _⟩
  case round =>
    obtain ⟨i, hil, rfl, hT, hB⟩ := hrel
    have hmi := HMM.out i
    by_cases hi : i < m
    · have g1 : (i : Int) < (n : Int) := by omega
      have g0 : (0 : Int) ≤ (i : Int) := by omega
      have g2 : decide (i < n) = true := by simp; omega
      have g3 : (i : Int) < 14 := by omega
      have hsw : w.heap.size ≤ wr.heap.size := hB.out.size
      obtain ⟨b, o, rfl, hb, hr⟩ := HG.out.g (by omega)
      obtain ⟨p, c, k1, hM⟩ := hr i (by omega)
      have HM2 := Lib.hid (hM.below hB.out (Nat.le_refl _))
      have hfc := hM.fits
      have hcm := hM.capm
      have hnil := hM.nil
      unfold maxLen at hcm
      obtain ⟨k, hk⟩ : ∃ k, Hid (k = min (ln i) 14) := ⟨_, rfl⟩
      have hmin : min (ln i : Int) 14 = (k : Int) := by rw [hk.out]; omega
      have hkl : k ≤ ln i := by rw [hk.out]; omega
      have hk14 : k ≤ 14 := by rw [hk.out]; omega
      obtain ⟨li, hli⟩ : ∃ li, Hid (li = ln i) := ⟨_, rfl⟩
      rw [← hli.out] at k1 hmin hkl hfc
      have hkc : k ≤ c := by omega
      have r1 : ∀ d : BW wr.heap.size wr, d.w.cell? ⟨b, o + i, none⟩ = some (.slice p li c) := fun d => ((hB.out.trans (d.b.mono hsw)).cell (p := ⟨b, o + i, none⟩) hb).trans k1
      have HT := Lib.hid hT
      clear hr hM k1 hT hmi
      have HONE := Lib.hid (bv_one (r i) k)
      go_upto_region 6 with (fail)
      have HKE : Hid (k = min (ln i) 14) := hk
      cases p with
      | some ad =>
        clear hnil
        refine wp_region_bw_copy_tail 13 (by kernel_rfl) (by kernel_rfl) (fun _ _ _ h => h) (.inl ⟨rfl, fun _ => rfl⟩) ?_
        simp only [Act.put, Act.eval, List.getElem?_toArray, List.getElem?_cons_zero, List.getElem?_cons_succ, Option.getD_some, List.setIfInBounds_toArray, List.set_cons_zero, List.set_cons_succ, Nat.reduceSub, Array.getD_eq_getD_getElem?]
        simp only [List.take_succ_cons, List.take_zero, List.drop_succ_cons, List.drop_zero]
        repeat (go_big_quiet_step (rfl))
        refine wpQuiet_nil ?_
        rintro _ ⟨d, rfl⟩
        clear r1
        have HBD := Lib.hid (hB.out.trans (d.b.mono hsw))
        have hdsz : w.heap.size ≤ d.w.heap.size := HBD.out.size
        have HSR := Lib.hid ((HM2.out.below d.b (Nat.le_refl _)).src (k := k) (by rw [← hli.out]; exact hkl))
        have HTD := Lib.hid (HT.out.below d.b (Nat.le_refl _))
        clear HT
        generalize d.w = Z at *
        refine wpList_append_qq _ rfl (.tmp 17) (.tmp 28) 60 rfl w.heap.size 4 i0 (.bool false) 1 1 under60 hi0 hz0 hz1 hz2 rfl (by decide) _ 0 [] rfl (QRow.nil _ _ _ _) (some ad) k c (bv (r i) k) rfl HSR.out HONE.out (by unfold maxLen; omega) (by omega) (by omega) ?_
        intro v6 w6 hq6 hg6 ho6
        rw [Nat.zero_add, List.nil_append] at hq6
        have hg6 : Z.grownBy w6 none := hg6
        obtain ⟨p6, c6, rfl⟩ := hq6.isSlice
        have HB6 : Hid (Below w.heap.size w w6) := Below.grown HBD.out hg6 hdsz (fun kk e => by cases e)
        obtain ⟨xs, h1, h2⟩ := HTD.out
        have H2 : Hid (∀ i', i' < i → ∃ p c, xs[i']? = some (.slice p (min (ln i') 14) c) ∧ QRow w6 w.heap.size 4 1 (.slice p (min (ln i') 14) c) (min (ln i') 14) (bv (r i') (min (ln i') 14))) := (fun i' hi' => (h2 i' hi').elim fun p h => h.elim fun c h => ⟨p, c, h.1, h.2.kept hg6 (Classical.em _)⟩)
        have H1A := Lib.hid ((h1.kept hg6 (Classical.em _)).alloc (.cells #[.slice p6 k c6] 60))
        have HQA := Lib.hid ((show QRow w6 w.heap.size 4 1 (.slice p6 (min (ln i) 14) c6) (min (ln i) 14) (bv (r i) (min (ln i) 14)) by rw [← HKE.out]; exact hq6).alloc (.cells #[.slice p6 k c6] 60))
        have h6s : w.heap.size ≤ w6.heap.size := HB6.out.size
        have HLT := Lib.hid (fun kk (e : _ = some kk) => (h1.lt kk e).1)
        clear hq6 hg6 ho6 h1 h2
        go_wp2_with (at_builtin; go_must (refine wpList_append_q _ rfl (.tmp 16) (.tmp 30) 24 rfl w.heap.size 60 i1 (.slice none 0 0) 1 24 under24 hi1 hy0 hy1 hy2 rfl (by decide) _ i xs rfl H1A.out ⟨_, 0, none⟩ 1 1 [.slice p6 k c6] rfl rfl (cells_new1 _ _ _) (by simp [Value.oneCell']) (by unfold maxLen; omega) (by omega) (by simp; omega) ?_); intro v5 w5 hq5 hg5 ho5; have HR5 : Hid (TRow w5 w.heap.size v5 (i + 1) (fun i => min (ln i) 14) r) := (by
              refine TRow.push (p := p6) (c := c6) (xs := xs) ?_ H1A.out ?_ hg5 ?_
              · exact fun i' hi' => (H2.out i' hi').elim fun p h => h.elim fun c h => ⟨p, c, h.1, h.2.alloc _⟩
              · exact HQA.out
              · have := hq5; rw [HKE.out] at this; exact this); have HB5 : Hid (Below w.heap.size w w5) := Below.grown (HB6.out.alloc h6s _) hg5 (by simp; omega) (fun kk e => HLT.out kk e); clear hq5 hg5 ho5)
        exact ⟨⟨i + 1, by omega, int_eq (by omega), HR5.out, HB5⟩, by simp [intOf]; omega⟩
      | none =>
        have hc0 : c = 0 := hnil rfl
        have hk0 : k = 0 := by omega
        clear hnil
        subst hc0
        refine wp_region_bw_copy_tail 13 (by kernel_rfl) (by kernel_rfl) (fun _ _ _ h => h) (.inl ⟨rfl, fun _ => rfl⟩) ?_
        simp only [Act.put, Act.eval, List.getElem?_toArray, List.getElem?_cons_zero, List.getElem?_cons_succ, Option.getD_some, List.setIfInBounds_toArray, List.set_cons_zero, List.set_cons_succ, Nat.reduceSub, Array.getD_eq_getD_getElem?]
        simp only [List.take_succ_cons, List.take_zero, List.drop_succ_cons, List.drop_zero]
        repeat (go_big_quiet_step (rfl))
        refine wpQuiet_nil ?_
        rintro _ ⟨d, rfl⟩
        clear r1
        have HBD := Lib.hid (hB.out.trans (d.b.mono hsw))
        have hdsz : w.heap.size ≤ d.w.heap.size := HBD.out.size
        have HSR := Lib.hid ((HM2.out.below d.b (Nat.le_refl _)).src (k := k) (by rw [← hli.out]; exact hkl))
        have HTD := Lib.hid (HT.out.below d.b (Nat.le_refl _))
        clear HT
        generalize d.w = Z at *
        have HKZ : Hid (0 = min (ln i) 14) := by rw [← HKE.out, hk0]; rfl
        rw [hk0] at HSR HONE
        refine wpList_append_qq _ rfl (.tmp 17) (.tmp 28) 60 rfl w.heap.size 4 i0 (.bool false) 1 1 under60 hi0 hz0 hz1 hz2 rfl (by decide) _ 0 [] rfl (QRow.nil _ _ _ _) none 0 0 (bv (r i) 0) rfl HSR.out HONE.out (by unfold maxLen; omega) (by omega) (by omega) ?_
        intro v6 w6 hq6 hg6 ho6
        rw [Nat.zero_add, List.nil_append] at hq6
        have hg6 : Z.grownBy w6 none := hg6
        obtain ⟨p6, c6, rfl⟩ := hq6.isSlice
        have HB6 : Hid (Below w.heap.size w w6) := Below.grown HBD.out hg6 hdsz (fun kk e => by cases e)
        obtain ⟨xs, h1, h2⟩ := HTD.out
        have H2 : Hid (∀ i', i' < i → ∃ p c, xs[i']? = some (.slice p (min (ln i') 14) c) ∧ QRow w6 w.heap.size 4 1 (.slice p (min (ln i') 14) c) (min (ln i') 14) (bv (r i') (min (ln i') 14))) := (fun i' hi' => (h2 i' hi').elim fun p h => h.elim fun c h => ⟨p, c, h.1, h.2.kept hg6 (Classical.em _)⟩)
        have H1A := Lib.hid ((h1.kept hg6 (Classical.em _)).alloc (.cells #[.slice p6 0 c6] 60))
        have HQA := Lib.hid ((show QRow w6 w.heap.size 4 1 (.slice p6 (min (ln i) 14) c6) (min (ln i) 14) (bv (r i) (min (ln i) 14)) by rw [← HKZ.out]; exact hq6).alloc (.cells #[.slice p6 0 c6] 60))
        have h6s : w.heap.size ≤ w6.heap.size := HB6.out.size
        have HLT := Lib.hid (fun kk (e : _ = some kk) => (h1.lt kk e).1)
        clear hq6 hg6 ho6 h1 h2
        go_wp2_with (at_builtin; go_must (refine wpList_append_q _ rfl (.tmp 16) (.tmp 30) 24 rfl w.heap.size 60 i1 (.slice none 0 0) 1 24 under24 hi1 hy0 hy1 hy2 rfl (by decide) _ i xs rfl H1A.out ⟨_, 0, none⟩ 1 1 [.slice p6 0 c6] rfl rfl (cells_new1 _ _ _) (by simp [Value.oneCell']) (by unfold maxLen; omega) (by omega) (by simp; omega) ?_); intro v5 w5 hq5 hg5 ho5; have HR5 : Hid (TRow w5 w.heap.size v5 (i + 1) (fun i => min (ln i) 14) r) := (by
              refine TRow.push (p := p6) (c := c6) (xs := xs) ?_ H1A.out ?_ hg5 ?_
              · exact fun i' hi' => (H2.out i' hi').elim fun p h => h.elim fun c h => ⟨p, c, h.1, h.2.alloc _⟩
              · exact HQA.out
              · have := hq5; rw [HKZ.out] at this; exact this); have HB5 : Hid (Below w.heap.size w w5) := Below.grown (HB6.out.alloc h6s _) hg5 (by simp; omega) (fun kk e => HLT.out kk e); clear hq5 hg5 ho5)
        exact ⟨⟨i + 1, by omega, int_eq (by omega), HR5.out, HB5⟩, by simp [intOf]; omega⟩
    · have g1 : ¬ (i < n ∧ i < 14) := by omega
      obtain rfl : m = i := by omega
      have HTT := Lib.hid hT
      obtain ⟨p5, c5, rfl⟩ := hT.isSlice
      clear hT
      by_cases hin : m < n
      · have g2 : (m : Int) < (n : Int) := by omega
        have g3 : ¬ (m : Int) < 14 := by omega
        have g4 : decide (m < n) = true := by simpa using hin
        go_wp2
        go_ret
        exact ⟨_, rfl, HTT.out, hB.out⟩
      · have g2 : ¬ (m : Int) < (n : Int) := by omega
        have g4 : decide (m < n) = false := by simpa using hin
        go_wp2
        go_ret
        exact ⟨_, rfl, HTT.out, hB.out⟩
end Go.Proofs.YtgpijajgaclhfaaDoor
namespace Go.Proofs.YtgpijajgaclhfaaDoor
open Go.RowKit Go.Shelf

def ChkA (n : Nat) (ln : Nat → Nat) (r : Nat → Nat → Bool) (e : Ending) : Prop := (e = .returned (.int .i64 0) ∧ TabOK n ln r) ∨ (e = .returned (.int .i64 100) ∧ ¬ TabOK n ln r)
set_option maxRecDepth 100000 in
set_option maxHeartbeats 4000000 in
theorem rCheck_any (la : Option Addr) (n lc : Nat) (ln : Nat → Nat) (r : Nat → Nat → Bool) (w : World) (hn : n ≤ 1099511627776) (hT : TblI w la n ln r) :
    Calls Tryd.prog 50 #[.slice la n lc] w fun e w' => ChkA n ln r e ∧ w' = w := by
  have HT := Lib.hid hT
  clear hT
  go_enter Tryd.func50, Tryd.ntmps50
  by_cases h1 : n < 1
  · have g1 : (n : Int) < 1 := by omega
    have HB : Hid (¬ TabOK n ln r) := fun h => by have := h.n1; omega
    go_wp2
    go_ret
    exact ⟨.inr ⟨rfl, HB.out⟩, rfl⟩
  · by_cases h2 : 12 < n
    · have g1 : ¬ (n : Int) < 1 := by omega
      have g2 : (12 : Int) < (n : Int) := by omega
      have g3 : decide ((n : Int) < 1) = false := by simp; omega
      have HB : Hid (¬ TabOK n ln r) := fun h => by have := h.n12; omega
      go_wp2
      go_ret
      exact ⟨.inr ⟨rfl, HB.out⟩, rfl⟩
    · have g1 : ¬ (n : Int) < 1 := by omega
      have g2 : ¬ (12 : Int) < (n : Int) := by omega
      have g3 : decide ((n : Int) < 1) = false := by simp; omega
      obtain ⟨b, o, rfl, hb, hr⟩ := HT.out (by omega)
      have HR := Lib.hid hr
      clear hr HT
      go_upto_region 5 with (fail)
      clear g1 g2 g3
      go_loopw [4] (fun s4 wr => ∃ i : Nat, i ≤ n ∧ s4 = .int .i64 (i : Int) ∧ Hid (∀ i', i' < i → ln i' = n ∧ r i' i' = false) ∧ Hid (wr = w)) (fun s4 _ => n - (intOf s4).toNat)
      case atStart => exact ⟨0, by omega, rfl, (fun i' h => by omega), rfl⟩
      case round =>
        obtain ⟨i, hi, rfl, hp, hw⟩ := hrel
        rw [hw.out]
        clear hw
        by_cases hin : i < n
        · have g1 : (i : Int) < (n : Int) := by omega
          have g0 : (0 : Int) ≤ (i : Int) := by omega
          obtain ⟨p, c, k1, hS⟩ := HR.out i hin
          by_cases hl : ln i = n
          · rw [hl] at k1 hS
            obtain ⟨b2, o2, rfl, hb2, hc⟩ := hS (by omega)
            have k2 := hc i hin
            clear hc hS
            have g4 : ((n : Int) != (n : Int)) = false := by simp
            by_cases hx : r i i = true
            · rw [hx] at k2
              have HB : Hid (¬ TabOK n ln r) := fun h => by have := h.ord.irr i hin; rw [hx] at this; cases this
              clear hx hl
              go_wp2
              go_ret
              exact ⟨.inr ⟨rfl, HB.out⟩, rfl⟩
            · have hx' : r i i = false := by simpa using hx
              rw [hx'] at k2
              have HN : Hid (∀ i', i' < i + 1 → ln i' = n ∧ r i' i' = false) := fun i' h => by
                by_cases e : i' = i
                · subst e; exact ⟨hl, hx'⟩
                · exact hp.out i' (by omega)
              clear hx hx' hl
              go_wp2
              exact ⟨⟨i + 1, by omega, int_eq (by omega), HN, True.intro⟩, by simp [intOf]; omega⟩
          · have g4 : ((ln i : Int) != (n : Int)) = true := by rw [bne_iff_ne]; omega
            have HB : Hid (¬ TabOK n ln r) := fun h => hl (h.sq i hin)
            clear hS hl
            generalize ln i = li at *
            go_wp2
            go_ret
            exact ⟨.inr ⟨rfl, HB.out⟩, rfl⟩
        · have g1 : ¬ (i : Int) < (n : Int) := by omega
          obtain rfl : n = i := by omega
          go_upto_region 10 with (fail)
          go_loopw [5] (fun s5 wr => ∃ x : Nat, x ≤ n ∧ s5 = .int .i64 (x : Int) ∧ Hid (∀ x' y z, x' < x → y < n → z < n → r x' y = true → r y z = true → r x' z = true) ∧ Hid (wr = w)) (fun s5 _ => n - (intOf s5).toNat)
          case atStart => exact ⟨0, by omega, rfl, (fun x' y z h => by omega), rfl⟩
          case round =>
            obtain ⟨x, hx, rfl, hq, hw⟩ := hrel
            rw [hw.out]
            clear hw g1
            by_cases hxn : x < n
            · have g1 : (x : Int) < (n : Int) := by omega
              have g0 : (0 : Int) ≤ (x : Int) := by omega
              obtain ⟨p, c, k1, hS⟩ := HR.out x hxn
              rw [(hp.out x hxn).1] at k1 hS
              obtain ⟨b2, o2, rfl, hb2, hc⟩ := hS (by omega)
              have HCX := Lib.hid hc
              clear hc hS
              go_upto_region 13 with (fail)
              go_loopw [6] (fun s6 wr => ∃ y : Nat, y ≤ n ∧ s6 = .int .i64 (y : Int) ∧ Hid (∀ y' z, y' < y → z < n → r x y' = true → r y' z = true → r x z = true) ∧ Hid (wr = w)) (fun s6 _ => n - (intOf s6).toNat)
              case atStart => exact ⟨0, by omega, rfl, (fun y' z h => by omega), rfl⟩
              case round =>
                obtain ⟨y, hy, rfl, hs, hw⟩ := hrel
                rw [hw.out]
                clear hw
                by_cases hyn : y < n
                · have g2 : (y : Int) < (n : Int) := by omega
                  have g3 : (0 : Int) ≤ (y : Int) := by omega
                  obtain ⟨p3, c3, k3, hS⟩ := HR.out y hyn
                  rw [(hp.out y hyn).1] at k3 hS
                  obtain ⟨b3, o3, rfl, hb3, hc⟩ := hS (by omega)
                  have HCY := Lib.hid hc
                  have k2 := HCX.out y hyn
                  clear hc hS
                  obtain ⟨rxy, hrxy⟩ : ∃ t, Hid (t = r x y) := ⟨_, rfl⟩
                  rw [← hrxy.out] at k2
                  go_upto_region 16 with (fail)
                  go_loopw [7] (fun s7 wr => ∃ z : Nat, z ≤ n ∧ s7 = .int .i64 (z : Int) ∧ Hid (∀ z', z' < z → r x y = true → r y z' = true → r x z' = true) ∧ Hid (wr = w)) (fun s7 _ => n - (intOf s7).toNat)
                  case atStart => exact ⟨0, by omega, rfl, (fun z' h => by omega), rfl⟩
                  case round =>
                    obtain ⟨z, hz, rfl, ht, hw⟩ := hrel
                    rw [hw.out]
                    clear hw
                    by_cases hzn : z < n
                    · have g4 : (z : Int) < (n : Int) := by omega
                      have g5 : (0 : Int) ≤ (z : Int) := by omega
                      have k4 := HCY.out z hzn
                      have k5 := HCX.out z hzn
                      have HN : Hid ((r x y = true → r y z = true → r x z = true) → ∀ z', z' < z + 1 → r x y = true → r y z' = true → r x z' = true) := fun h z' hz' => by
                        by_cases e : z' = z
                        · subst e; exact h
                        · exact ht.out z' (by omega)
                      have HB : Hid (¬ (r x y = true → r y z = true → r x z = true) → ¬ TabOK n ln r) := fun h h2 => h (h2.ord.tr x y z hxn hyn hzn)
                      rw [← hrxy.out] at HN HB
                      generalize r y z = ryz at *
                      generalize r x z = rxz at *
                      cases rxy
                      · have HNN := Lib.hid (HN.out (fun h => by cases h))
                        clear HN HB
                        have HNN : Hid (∀ z', z' < z + 1 → r x y = true → r y z' = true → r x z' = true) := fun z' hz' h => HNN.out z' hz' (hrxy.out.trans h)
                        go_wp2
                        exact ⟨⟨z + 1, by omega, int_eq (by omega), HNN, True.intro⟩, by simp [intOf]; omega⟩
                      · cases ryz
                        · have HNN := Lib.hid (HN.out (fun _ h => by cases h))
                          clear HN HB
                          have HNN : Hid (∀ z', z' < z + 1 → r x y = true → r y z' = true → r x z' = true) := fun z' hz' h => HNN.out z' hz' (hrxy.out.trans h)
                          go_wp2
                          exact ⟨⟨z + 1, by omega, int_eq (by omega), HNN, True.intro⟩, by simp [intOf]; omega⟩
                        · cases rxz
                          · have HBB := Lib.hid (HB.out (fun h => by cases h rfl rfl))
                            clear HN HB
                            go_wp2
                            go_ret
                            exact ⟨.inr ⟨rfl, HBB.out⟩, rfl⟩
                          · have HNN := Lib.hid (HN.out (fun _ _ => rfl))
                            clear HN HB
                            have HNN : Hid (∀ z', z' < z + 1 → r x y = true → r y z' = true → r x z' = true) := fun z' hz' h => HNN.out z' hz' (hrxy.out.trans h)
                            go_wp2
                            exact ⟨⟨z + 1, by omega, int_eq (by omega), HNN, True.intro⟩, by simp [intOf]; omega⟩
                    · have g4 : ¬ (z : Int) < (n : Int) := by omega
                      obtain rfl : n = z := by omega
                      go_wp2
                      exact ⟨⟨y + 1, by omega, int_eq (by omega), (fun y' z hy' hz' => by
                        by_cases e : y' = y
                        · subst e; exact ht.out z hz'
                        · exact hs.out y' z (by omega) hz'), True.intro⟩, by simp [intOf]; omega⟩
                · have g2 : ¬ (y : Int) < (n : Int) := by omega
                  obtain rfl : n = y := by omega
                  go_wp2
                  exact ⟨⟨x + 1, by omega, int_eq (by omega), (fun x' y z hx' hy' hz' => by
                    by_cases e : x' = x
                    · subst e; exact hs.out y z hy' hz'
                    · exact hq.out x' y z (by omega) hy' hz'), True.intro⟩, by simp [intOf]; omega⟩
            · have g1 : ¬ (x : Int) < (n : Int) := by omega
              obtain rfl : n = x := by omega
              go_wp2
              go_ret
              exact ⟨.inl ⟨rfl, ⟨by omega, by omega, fun i hi => (hp.out i hi).1, ⟨fun x hx => (hp.out x hx).2, fun x y z hx hy hz => hq.out x y z hx hy hz⟩⟩⟩, rfl⟩
end Go.Proofs.YtgpijajgaclhfaaDoor
namespace Go.Proofs.YtgpijajgaclhfaaDoor
open Go.RowKit Go.Shelf

/-- another name -/
def nm5 (n x : Nat) : Nat := (5 * x + 1) % n
theorem nm5_inj : ∀ n, n ≤ 12 → n % 5 ≠ 0 → ∀ x, x < n → ∀ y, y < n → nm5 n x = nm5 n y → x = y := by
  intro n hn h5 x hx y hy e
  unfold nm5 at e
  have hc : n = 0 ∨ n = 1 ∨ n = 2 ∨ n = 3 ∨ n = 4 ∨ n = 6 ∨ n = 7 ∨ n = 8 ∨ n = 9 ∨ n = 11 ∨ n = 12 := by omega
  rcases hc with rfl | rfl | rfl | rfl | rfl | rfl | rfl | rfl | rfl | rfl | rfl <;> omega
/-- all pairs go from lesser to greater numbers by other names -/
def UpN (n : Nat) (R : Nat → Nat → Bool) : Prop := ∀ a b, R a b = true → n % 5 ≠ 0 ∧ ∃ x y, x < y ∧ y < n ∧ nm5 n x = a ∧ nm5 n y = b
theorem UpN.irr {n : Nat} {R : Nat → Nat → Bool} (h : UpN n R) (hn : n ≤ 12) (a : Nat) : R a a = false := by
  cases e : R a a with
  | false => rfl
  | true =>
    obtain ⟨h5, x, y, hxy, hy, e1, e2⟩ := h a a e
    have := nm5_inj n hn h5 x (by omega) y hy (e1.trans e2.symm)
    omega
/-- a round of the closing, up to (x, y) -/
def phR (R : Nat → Nat → Bool) (z x y i j : Nat) : Bool := R i j || ((decide (i < x) || (decide (i = x) && decide (j < y))) && (R i z && R z j))
theorem UpN.add {n : Nat} {R : Nat → Nat → Bool} (h : UpN n R) {x y : Nat} (hxy : x < y) (hy : y < n) (h5 : n % 5 ≠ 0) : UpN n (fun i j => R i j || (decide (i = nm5 n x) && decide (j = nm5 n y))) := fun a b hab => by
  simp only [Bool.or_eq_true, Bool.and_eq_true, decide_eq_true_eq] at hab
  rcases hab with hab | ⟨rfl, rfl⟩
  · exact h a b hab
  · exact ⟨h5, x, y, hxy, hy, rfl, rfl⟩
theorem nm5_lt {n x : Nat} (h : 0 < n) : nm5 n x < n := Nat.mod_lt _ h
theorem nm5_int (n x : Nat) : Int.tmod (5 * (x : Int) + 1) (n : Int) = ((nm5 n x : Nat) : Int) := by
  rw [Int.tmod_eq_emod_of_nonneg (by omega)]; unfold nm5; simp
theorem phR_zero (R : Nat → Nat → Bool) (z : Nat) : phR R z 0 0 = R := by
  funext i j; unfold phR; simp
theorem phR_up {n : Nat} {R : Nat → Nat → Bool} (h : UpN n R) (hn : n ≤ 12) (z x y : Nat) : UpN n (phR R z x y) := fun a b hab => by
  unfold phR at hab
  simp only [Bool.or_eq_true, Bool.and_eq_true] at hab
  rcases hab with hab | ⟨_, h1, h2⟩
  · exact h a b hab
  · obtain ⟨h5, x1, y1, hxy1, hy1, e1, e2⟩ := h a z h1
    obtain ⟨_, x2, y2, hxy2, hy2, e3, e4⟩ := h z b h2
    have := nm5_inj n hn h5 y1 hy1 x2 (by omega) (e2.trans e3.symm)
    exact ⟨h5, x1, y2, by omega, hy2, e1, e4⟩
theorem phR_col {R : Nat → Nat → Bool} {z : Nat} (h : R z z = false) (x y i : Nat) : phR R z x y i z = R i z := by
  unfold phR; rw [h]; simp
theorem phR_row {R : Nat → Nat → Bool} {z : Nat} (h : R z z = false) (x y j : Nat) : phR R z x y z j = R z j := by
  unfold phR; rw [h]; simp
theorem phR_next {R : Nat → Nat → Bool} {z x y : Nat} (hc : (R x z && R z y) = true) : phR R z x (y + 1) = fun i j => phR R z x y i j || (decide (i = x) && decide (j = y)) := by
  funext i j
  unfold phR
  by_cases hi : i = x
  · subst hi
    by_cases hj : j = y
    · subst hj
      rw [hc]; simp
    · have : decide (j < y + 1) = decide (j < y) := by simp only [decide_eq_decide]; omega
      rw [this]; simp [hj]
  · simp [hi]
theorem phR_skip {R : Nat → Nat → Bool} {z x y : Nat} (hc : (R x z && R z y) = false) : phR R z x (y + 1) = phR R z x y := by
  funext i j
  unfold phR
  by_cases hi : i = x
  · subst hi
    by_cases hj : j = y
    · subst hj
      rw [hc]; simp
    · have : decide (j < y + 1) = decide (j < y) := by simp only [decide_eq_decide]; omega
      rw [this]
  · simp [hi]
theorem phR_line {R : Nat → Nat → Bool} {z x n : Nat} (i j : Nat) (hj : j < n) : phR R z x n i j = phR R z (x + 1) 0 i j := by
  unfold phR
  congr 2
  by_cases h1 : i < x
  · have h2 : i < x + 1 := by omega
    simp [h1, h2]
  · by_cases h2 : i = x
    · subst h2
      simp [hj]
    · have h3 : ¬ i < x + 1 := by omega
      simp [h1, h2, h3]
/-- closed by the numbers below k -/
def ClN (n k : Nat) (R : Nat → Nat → Bool) : Prop := ∀ z, z < k → ∀ x, x < n → ∀ y, y < n → R x z = true → R z y = true → R x y = true
theorem ClN.congr {n k : Nat} {R S : Nat → Nat → Bool} (hk : k ≤ n) (h : ClN n k R) (e : ∀ i j, i < n → j < n → R i j = S i j) : ClN n k S := fun z hz x hx y hy h1 h2 => by
  rw [← e x y hx hy]
  exact h z hz x hx y hy (by rw [e x z hx (by omega)]; exact h1) (by rw [e z y (by omega) hy]; exact h2)
theorem ClN.step {n z : Nat} {R : Nat → Nat → Bool} (h : ClN n z R) (hz : z < n) (hR : R z z = false) : ClN n (z + 1) (phR R z n 0) := by
  intro k hk x hx y hy h1 h2
  have ph : ∀ i j, i < n → (phR R z n 0 i j = true ↔ R i j = true ∨ (R i z = true ∧ R z j = true)) := fun i j hi => by
    unfold phR; simp [hi]
  rw [ph x k hx] at h1
  rw [ph k y (by omega)] at h2
  rw [ph x y hx]
  by_cases e : k = z
  · subst e
    have a1 : R x k = true := h1.elim id fun h => h.1
    have a2 : R k y = true := h2.elim id fun h => h.2
    exact .inr ⟨a1, a2⟩
  · have hkz : k < z := by omega
    rcases h1 with h1 | ⟨h1, h3⟩
    · rcases h2 with h2 | ⟨h2, h4⟩
      · exact .inl (h k hkz x hx y hy h1 h2)
      · exact .inr ⟨h k hkz x hx z hz h1 h2, h4⟩
    · rcases h2 with h2 | ⟨h2, h4⟩
      · exact .inr ⟨h1, h k hkz z hz y hy h3 h2⟩
      · exact .inr ⟨h1, h4⟩
theorem UpN.congr {n : Nat} {R S : Nat → Nat → Bool} (h : UpN n R) (e : ∀ i j, S i j = true → R i j = true) : UpN n S := fun a b hab => h a b (e a b hab)
theorem UpN.tab {n : Nat} {R : Nat → Nat → Bool} (h : UpN n R) (h1 : 1 ≤ n) (hn : n ≤ 12) (hc : ClN n n R) : TabOK n (fun _ => n) R :=
  ⟨h1, hn, fun _ _ => rfl, ⟨fun x _ => h.irr hn x, fun x y z hx hy hz h1 h2 => hc y hy x hx z hz h1 h2⟩⟩
/-- a row of marks in memory -/
def RowM (W : World) (B n : Nat) (f : Nat → Bool) : Prop := ∃ vs, BoxN W B 4 vs ∧ vs.size = n ∧ ∀ j, j < n → vs[j]? = some (.bool (f j))
theorem RowM.lt {W : World} {B n : Nat} {f : Nat → Bool} (h : RowM W B n f) : B < W.heap.size := h.elim fun _ h => h.1.lt
theorem RowM.cell {W : World} {B n : Nat} {f : Nat → Bool} (h : RowM W B n f) {x : Nat} (hx : x < n) : W.cell? ⟨B, x, none⟩ = some (.bool (f x)) := by
  obtain ⟨vs, h1, h2, h3⟩ := h
  rw [h1.cell]; exact h3 x hx
theorem RowM.frozen {W : World} {B n : Nat} {f : Nat → Bool} (h : RowM W B n f) (x : Nat) : W.frozen? ⟨B, x, none⟩ = false := by
  obtain ⟨vs, h1, _⟩ := h
  exact h1.frozen x
theorem RowM.kept {W W' : World} {row : Option Nat} {B n : Nat} {f : Nat → Bool} (h : RowM W B n f) (hg : W.grownBy W' row) (hne : some B ≠ row) : RowM W' B n f := by
  obtain ⟨vs, h1, h2⟩ := h
  exact ⟨vs, h1.kept hg hne, h2⟩
theorem RowM.set {W : World} {B n : Nat} {f : Nat → Bool} (h : RowM W B n f) {x : Nat} (_hx : x < n) (v : Bool) : RowM (W.setCell ⟨B, x, none⟩ (.bool v)) B n (fun j => if j = x then v else f j) := by
  obtain ⟨vs, h1, h2, h3⟩ := h
  refine ⟨_, h1.set x (.bool v), by simpa using h2, fun j hj => ?_⟩
  by_cases e : j = x
  · subst e; rw [Array.getElem?_setIfInBounds_self_of_lt (by omega)]; simp
  · rw [Array.getElem?_setIfInBounds_ne (Ne.symm e)]; simp only [if_neg e]; exact h3 j hj
theorem RowM.other {W : World} {B n : Nat} {f : Nat → Bool} (h : RowM W B n f) {a : Addr} (hne : B ≠ a.block) (x : Value) : RowM (W.setCell a x) B n f := by
  obtain ⟨vs, h1, h2⟩ := h
  exact ⟨vs, h1.other hne x, h2⟩
theorem RowM.congr {W : World} {B n : Nat} {f g : Nat → Bool} (h : RowM W B n f) (e : ∀ j, j < n → f j = g j) : RowM W B n g := by
  obtain ⟨vs, h1, h2, h3⟩ := h
  exact ⟨vs, h1, h2, fun j hj => by rw [h3 j hj, e j hj]⟩
/-- k rows of n marks that the call has made, each its own -/
structure TabW (W : World) (base : Nat) (v : Value) (k n : Nat) (rb : Nat → Nat) (R : Nat → Nat → Bool) : Prop where
  q : QRow W base 60 1 v k ((List.range k).map fun i => .slice (some ⟨rb i, 0, none⟩) n n)
  rows : ∀ i, i < k → RowM W (rb i) n (R i)
  inj : ∀ i j, i < j → j < k → rb i ≠ rb j
  low : ∀ i, i < k → base ≤ rb i
theorem TabW.ne {W : World} {base : Nat} {v : Value} {k n : Nat} {rb : Nat → Nat} {R : Nat → Nat → Bool} (h : TabW W base v k n rb R) {i : Nat} (hi : i < k) : v.ownBlock ≠ some (rb i) := fun hv => by
  rcases h.q.2 with ⟨rfl, _⟩ | ⟨g, o, cap, cur, rfl, _, hg, _⟩
  · cases hv
  · cases hv
    obtain ⟨vs, h1, _⟩ := h.rows i hi
    rw [show W.heap[rb i]? = _ from h1] at hg
    cases hg
theorem TabW.at {W : World} {base : Nat} {v : Value} {k n : Nat} {rb : Nat → Nat} {R : Nat → Nat → Bool} (h : TabW W base v k n rb R) (hk : 0 < k) : ∃ g o c, v = .slice (some ⟨g, o, none⟩) k c ∧ base ≤ g ∧ g < W.heap.size ∧ (∀ i, i < k → W.cell? ⟨g, o + i, none⟩ = some (.slice (some ⟨rb i, 0, none⟩) n n)) ∧ ∀ i, i < k → g ≠ rb i := by
  obtain ⟨g, o, c, e, h1, h2, _, _, h3, _⟩ := h.q.at (by omega)
  refine ⟨g, o, c, e, h1, h2, fun i hi => ?_, fun i hi e2 => h.ne hi (by rw [e, e2]; rfl)⟩
  rw [h3 i (by omega), List.getElem?_map, List.getElem?_range hi]; rfl
theorem TabW.hdr {W : World} {base g o c : Nat} {k n : Nat} {rb : Nat → Nat} {R : Nat → Nat → Bool} (h : TabW W base (.slice (some ⟨g, o, none⟩) k c) k n rb R) {i : Nat} (hi : i < k) : W.cell? ⟨g, o + i, none⟩ = some (.slice (some ⟨rb i, 0, none⟩) n n) := by
  obtain ⟨g', o', c', e, _, _, h3, _⟩ := h.at (by omega)
  cases e
  exact h3 i hi
theorem TabW.tbl {W : World} {base : Nat} {p : Option Addr} {c n : Nat} {rb : Nat → Nat} {R : Nat → Nat → Bool} (h : TabW W base (.slice p n c) n n rb R) : TblI W p n (fun _ => n) R := fun hm => by
  obtain ⟨g, o, c', e, _, h2, h3, _⟩ := h.at (by omega)
  cases e
  refine ⟨g, o, rfl, h2, fun i hi => ⟨_, _, h3 i hi, fun _ => ⟨rb i, 0, rfl, (h.rows i hi).lt, fun j hj => ?_⟩⟩⟩
  rw [Nat.zero_add]; exact (h.rows i hi).cell hj
theorem TabW.set {W : World} {base : Nat} {v : Value} {k n : Nat} {rb : Nat → Nat} {R : Nat → Nat → Bool} (h : TabW W base v k n rb R) {a b : Nat} (ha : a < k) (hb : b < n) : TabW (W.setCell ⟨rb a, b, none⟩ (.bool true)) base v k n rb (fun i j => R i j || (decide (i = a) && decide (j = b))) where
  q := h.q.other (fun kk e h2 => h.ne ha (by rw [e, h2])) _
  rows := fun i hi => by
    by_cases e : i = a
    · subst e
      refine ((h.rows i hi).set hb true).congr fun j hj => ?_
      by_cases e2 : j = b
      · simp [e2]
      · simp [e2]
    · refine ((h.rows i hi).other (a := ⟨rb a, b, none⟩) (fun e2 => ?_) _).congr fun j hj => by simp [e]
      rcases Nat.lt_or_gt_of_ne e with h3 | h3
      · exact h.inj i a h3 ha e2
      · exact h.inj a i h3 hi e2.symm
  inj := h.inj
  low := h.low
theorem TabW.dr {W : World} {base : Nat} {v : Value} {k n : Nat} {rb : Nat → Nat} {R : Nat → Nat → Bool} (h : TabW W base v k n rb R) (q : Nat) : TabW (W.drewN q) base v k n rb R := ⟨h.q, h.rows, h.inj, h.low⟩
theorem TabW.congr {W : World} {base : Nat} {v : Value} {k n : Nat} {rb : Nat → Nat} {R S : Nat → Nat → Bool} (h : TabW W base v k n rb R) (e : ∀ i j, i < k → j < n → R i j = S i j) : TabW W base v k n rb S :=
  ⟨h.q, fun i hi => (h.rows i hi).congr fun j hj => e i j hi hj, h.inj, h.low⟩
theorem TabW.push {W W' : World} {base n i : Nat} {v v' : Value} {rb : Nat → Nat} {vs : Array Value} {o : Obj} (h : TabW W base v i n rb (fun _ _ => false)) (hb : base ≤ W.heap.size) (hv : vs.size = n ∧ ∀ j, j < n → vs[j]? = some (.bool false))
    (hg : ((W.alloc (.cells vs 4)).alloc o).grownBy W' v.ownBlock) (hq : QRow W' base 60 1 v' (i + 1) ((List.range i).map (fun i => .slice (some ⟨rb i, 0, none⟩) n n) ++ [.slice (some ⟨W.heap.size, 0, none⟩) n n])) :
    TabW W' base v' (i + 1) n (fun j => if j = i then W.heap.size else rb j) (fun _ _ => false) where
  q := by
    rw [List.range_succ, List.map_append]
    have e1 : (List.range i).map (fun j => Value.slice (some ⟨if j = i then W.heap.size else rb j, 0, none⟩) n n) = (List.range i).map (fun i => Value.slice (some ⟨rb i, 0, none⟩) n n) := by
      apply List.map_congr_left
      intro j hj
      rw [if_neg (by have := List.mem_range.1 hj; omega)]
    rw [e1]
    simpa using hq
  rows := fun j hj => by
    by_cases e : j = i
    · subst e
      simp only [if_true]
      have h1 : RowM (W.alloc (.cells vs 4)) W.heap.size n (fun _ => false) := ⟨vs, BoxN.new rfl, hv.1, hv.2⟩
      exact (h1.kept (World.grownBy_alloc _ o none) (by simp)).kept hg (fun e => by have := (h.q.lt _ e.symm).2; omega)
    · simp only [if_neg e]
      have h1 := h.rows j (by omega)
      exact ((h1.kept (World.grownBy_alloc _ (.cells vs 4) none) (by simp)).kept (World.grownBy_alloc _ o none) (by simp)).kept hg (fun e2 => h.ne (by omega) e2.symm)
  inj := fun a b hab hb2 => by
    have ha := (h.rows a (by omega)).lt
    by_cases e : b = i
    · rw [if_pos e, if_neg (by omega)]; omega
    · rw [if_neg e, if_neg (by omega)]; exact h.inj a b hab (by omega)
  low := fun j hj => by
    by_cases e : j = i
    · rw [if_pos e]; exact hb
    · rw [if_neg e]; exact h.low j (by omega)
theorem make_60 (n : Nat) (hn : n ≤ 20) : ∃ vs : Array Value, vs.size = n ∧ (∀ j, j < n → vs[j]? = some (.bool false)) ∧
    ∀ W, Sem.run Tryd.prog (Instr.makeSlice 60 (.int .i64 (n : Int)) (.int .i64 (n : Int))) W = .ok (.slice (some ⟨W.heap.size, 0, none⟩) n n) (W.alloc (.cells vs 4)) := by
  obtain ⟨i0, hi, hz0, hz1, hz2⟩ := info_parts info4
  refine ⟨madeCells #[.bool false] n, size_madeCells _ _, fun j hj => ?_, fun W => ?_⟩
  · rw [← Array.getElem?_toList, toList_madeCells_one, List.getElem?_replicate, if_pos hj]
  · have := run_make (P := Tryd.prog) W 60 4 i0 _ under60 hi hz0 .i64 .i64 (n : Int) (n : Int) (by omega) (Int.le_refl _) (by rw [hz2]; omega) (by omega)
    rw [hz1, show (Value.bool false).cells = #[.bool false] from rfl] at this
    simpa using this
end Go.Proofs.YtgpijajgaclhfaaDoor
namespace Go.Proofs.YtgpijajgaclhfaaDoor
open Go.RowKit Go.Shelf

set_option maxRecDepth 100000 in
set_option maxHeartbeats 8000000 in
theorem tame_any (a : Option Addr) (n cap : Nat) (ln : Nat → Nat) (r : Nat → Nat → Bool) (w : World) (h : TabIn w a n cap ln r) :
    Calls Tryd.prog 22 #[.slice a n cap] w fun e w' => ∃ p k c R, e = .returned (.slice p k c) ∧ TblI w' p k (fun _ => k) R ∧ TabOK k (fun _ => k) R ∧ Below w.heap.size w w' := by
  obtain ⟨i1, hi1, hy0, hy1, hy2⟩ := info_parts info60
  have HTA := Lib.hid (table_any a n cap ln r w h)
  clear h
  obtain ⟨m, hm⟩ : ∃ m, Hid (m = min n 14) := ⟨_, rfl⟩
  rw [← hm.out] at HTA
  have hm14 : m ≤ 14 := by rw [hm.out]; omega
  obtain ⟨l2, hl2⟩ : ∃ l2 : Nat → Nat, Hid (l2 = fun i => min (ln i) 14) := ⟨_, rfl⟩
  rw [← hl2.out] at HTA
  have HL14 : Hid (∀ i, l2 i ≤ 14) := fun i => by rw [hl2.out]; exact Nat.min_le_right _ _
  clear hm hl2
  go_enter Tryd.func22, Tryd.ntmps22
  go_upto_region 2 with (go_at_call 49; refine HTA.out.mono ?_; rintro e w1 ⟨v1, rfl, hT1, hB1⟩; obtain ⟨p1, c1, rfl⟩ := hT1.isSlice; have HT1 := Lib.hid hT1.tbl; have HB1 := Lib.hid hB1; clear hT1 hB1)
  clear HTA
  have HCK := Lib.hid (rCheck_any p1 m c1 l2 r w1 (by omega) HT1.out)
  by_cases hok : TabOK m l2 r
  · have HOK := Lib.hid hok
    have HCK2 : Hid (Calls Tryd.prog 50 #[.slice p1 m c1] w1 fun e w' => e = .returned (.int .i64 0) ∧ w' = w1) := by
      refine HCK.out.mono ?_
      rintro e w' ⟨⟨rfl, _⟩ | ⟨_, h⟩, rfl⟩
      · exact ⟨rfl, rfl⟩
      · exact absurd HOK.out h
    clear hok HCK
    go_wp2_with (go_at_call 50; refine HCK2.out.mono ?_; rintro e w2 ⟨rfl, hw2⟩; subst hw2)
    go_ret
    refine ⟨p1, m, c1, r, rfl, fun h0 => ?_, ⟨HOK.out.n1, HOK.out.n12, fun _ _ => rfl, HOK.out.ord⟩, HB1.out⟩
    obtain ⟨b, o, e, hb, hr⟩ := HT1.out h0
    refine ⟨b, o, e, hb, fun i hi => ?_⟩
    obtain ⟨p, c, h1, h2⟩ := hr i hi
    rw [HOK.out.sq i hi] at h1 h2
    exact ⟨p, c, h1, h2⟩
  · have HCK2 : Hid (Calls Tryd.prog 50 #[.slice p1 m c1] w1 fun e w' => e = .returned (.int .i64 100) ∧ w' = w1) := by
      refine HCK.out.mono ?_
      rintro e w' ⟨⟨_, h⟩ | ⟨rfl, _⟩, rfl⟩
      · exact absurd h hok
      · exact ⟨rfl, rfl⟩
    clear hok HCK
    obtain ⟨k, hk⟩ : ∃ k, Hid (k = 1 + m % 12) := ⟨_, rfl⟩
    have hk1 : 1 ≤ k := by rw [hk.out]; omega
    have hk12 : k ≤ 12 := by rw [hk.out]; omega
    have hrem : Int.tmod (m : Int) 12 = (((k - 1 : Nat) : Int)) := by rw [Int.tmod_eq_emod_of_nonneg (by omega), hk.out]; omega
    have hkk : 1 + ((k - 1 : Nat) : Int) = (k : Int) := by omega
    have HKK := Lib.hid hkk
    clear hkk
    go_upto_region 5 with (go_at_call 50; refine HCK2.out.mono ?_; rintro e w2 ⟨rfl, hw2⟩; subst hw2)
    rw [HKK.out]
    have hw1 : w.heap.size ≤ w2.heap.size := HB1.out.size
    clear hrem
    obtain ⟨vs, hv1, hv2, hmk⟩ := make_60 k (by omega)
    have HVS : Hid (vs.size = k ∧ ∀ j, j < k → vs[j]? = some (.bool false)) := ⟨hv1, hv2⟩
    clear hv1 hv2 HCK2
    go_upto_region 7 with (fail)
    have hcong : ∀ {A : Type} {x y : A}, x = y → x = y := fun h => h
    clear hcong
    go_loopw [5, 6] (fun s5 s6 wr => ∃ (i : Nat) (rb : Nat → Nat), i ≤ k ∧ s6 = .int .i64 (i : Int) ∧ TabW wr w2.heap.size s5 i k rb (fun _ _ => false) ∧ Hid (Below w2.heap.size w2 wr)) (fun _ s6 _ => k - (intOf s6).toNat)
    case atStart => exact ⟨0, fun _ => 0, by omega, rfl, ⟨QRow.nil _ _ _ _, fun i h => by omega, fun i j _ h => by omega, fun i h => by omega⟩, Below.refl _ _⟩
    case round =>
      obtain ⟨i, rb, hi, rfl, hT, hB⟩ := hrel
      have hwr : w2.heap.size ≤ wr.heap.size := hB.out.size
      by_cases hik : i < k
      · have g1 : (i : Int) < (k : Int) := by omega
        have HTT := Lib.hid hT
        have HQ := Lib.hid hT.q
        clear hT
        have HM := Lib.hid hmk
        have hmk := hmk wr
        have HLT := Lib.hid (fun kk (e : _ = some kk) => (HQ.out.lt kk e))
        have HQA := Lib.hid ((HQ.out.alloc (.cells vs 4)).alloc (.cells #[.slice (some ⟨wr.heap.size, 0, none⟩) k k] 60))
        have hcn := cells_new1 (wr.alloc (.cells vs 4)) 60 (.slice (some ⟨wr.heap.size, 0, none⟩) k k)
        rw [World.size_alloc] at hcn
        have HCN := Lib.hid hcn
        clear hcn
        go_wp2_with (at_builtin; go_must (refine wpList_append_q _ rfl (.tmp 31) (.tmp 34) 24 rfl w2.heap.size 60 i1 (.slice none 0 0) 1 24 under24 hi1 hy0 hy1 hy2 rfl (by decide) _ i ((List.range i).map fun i => .slice (some ⟨rb i, 0, none⟩) k k) rfl HQA.out ⟨_, 0, none⟩ 1 1 [.slice (some ⟨wr.heap.size, 0, none⟩) k k] rfl rfl HCN.out (by simp [Value.oneCell']) (by unfold maxLen; omega) (by omega) (by simp; omega) ?_); intro v5 w5 hq5 hg5 ho5; have HQ5 := Lib.hid hq5; have HG5 := Lib.hid hg5; have HO5 := Lib.hid ho5; clear hq5 hg5 ho5)
        have HBN : Hid (Below w2.heap.size w2 w5) := Below.grown (((hB.out.alloc hwr (.cells vs 4)).alloc (by simp; omega) (.cells #[.slice (some ⟨wr.heap.size, 0, none⟩) k k] 60))) HG5.out (by simp; omega) (fun kk e => (HLT.out kk e).1)
        exact ⟨⟨i + 1, _, by omega, int_eq (by omega), HTT.out.push hwr HVS.out HG5.out HQ5.out, HBN⟩, by simp [intOf]; omega⟩
      · have g1 : ¬ (i : Int) < (k : Int) := by omega
        obtain rfl : k = i := by omega
        have HRB : Hid (∀ j, j < k → w2.heap.size ≤ rb j) := hT.low
        obtain ⟨g, o, c, rfl, _⟩ := hT.at (by omega)
        clear hmk HVS
        go_upto_region 11 with (fail)
        have HT := Lib.hid hT
        have HBB := Lib.hid hB.out
        clear hT hB
        go_loopw [7] (fun s7 wr => ∃ (x : Nat) (R : Nat → Nat → Bool), x ≤ k ∧ s7 = .int .i64 (x : Int) ∧ Hid (TabW wr w2.heap.size (.slice (some ⟨g, o, none⟩) k c) k k rb R) ∧ Hid (UpN k R) ∧ Hid (Below w2.heap.size w2 wr)) (fun s7 _ => k - (intOf s7).toNat)
        case atStart => exact ⟨0, _, by omega, rfl, HT, (fun a b h => by cases h), HBB⟩
        case round =>
          obtain ⟨x, R, hx, rfl, hT, hU, hB⟩ := hrel
          clear HT HBB
          by_cases hxk : x < k
          · have g1 : (x : Int) < (k : Int) := by omega
            go_upto_region 14 with (fail)
            go_loopw [8] (fun s8 wr => ∃ (y : Nat) (R : Nat → Nat → Bool), x < y ∧ y ≤ k ∧ s8 = .int .i64 (y : Int) ∧ Hid (TabW wr w2.heap.size (.slice (some ⟨g, o, none⟩) k c) k k rb R) ∧ Hid (UpN k R) ∧ Hid (Below w2.heap.size w2 wr)) (fun s8 _ => k - (intOf s8).toNat)
            case atStart => exact ⟨x + 1, R, by omega, by omega, int_eq (by omega), hT, hU, hB⟩
            case round =>
              clear hT hU hB
              obtain ⟨y, R, hxy, hy, rfl, hT, hU, hB⟩ := hrel
              by_cases hyk : y < k
              · have g2 : (y : Int) < (k : Int) := by omega
                have g3 : (0 : Int) ≤ (x : Int) := by omega
                have g4 : (0 : Int) ≤ (y : Int) := by omega
                have ha := nm5_lt (n := k) (x := x) (by omega)
                have hb := nm5_lt (n := k) (x := y) (by omega)
                have t1 := nm5_int k x
                have t2 := nm5_int k y
                have HADD := Lib.hid (fun h5 => hU.out.add hxy hyk h5)
                have h50 : Int.tmod (k : Int) 5 = ((k % 5 : Nat) : Int) := by rw [Int.tmod_eq_emod_of_nonneg (by omega)]; omega
                generalize nm5 k x = na at *
                generalize nm5 k y = nb at *
                go_wp2
                go_quiet (fail)
                clear t1 t2
                have HTq := Lib.hid (hT.out.dr nq)
                have HBq := Lib.hid (below_dr hB.out nq)
                clear hT hB
                generalize wr.drewN nq = X at *
                have NEXT : Hid (∃ (y_1 : Nat) (R : Nat → Nat → Bool), x < y_1 ∧ y_1 ≤ k ∧ Value.int .i64 ((y : Int) + 1) = .int .i64 (y_1 : Int) ∧ Hid (TabW X w2.heap.size (.slice (some ⟨g, o, none⟩) k c) k k rb R) ∧ Hid (UpN k R) ∧ Hid (Below w2.heap.size w2 X)) := ⟨y + 1, R, by omega, by omega, int_eq (by omega), HTq, hU, HBq⟩
                have fin : ∀ {P : Prop}, P → P := fun h => h
                by_cases e1 : na = nb
                · have q1 : ((na : Int) != (nb : Int)) = false := by rw [e1]; simp
                  go_wp2
                  exact ⟨NEXT.out, by simp [intOf]; omega⟩
                have q1 : ((na : Int) != (nb : Int)) = true := by rw [bne_iff_ne]; omega
                by_cases e2 : ¬ x < m
                · have q2 : decide (x < m) = false := by simpa using e2
                  have q2' : ¬ (x : Int) < (m : Int) := by omega
                  go_wp2
                  exact ⟨NEXT.out, by simp [intOf]; omega⟩
                have e2 : x < m := Classical.not_not.1 e2
                have q2 : decide (x < m) = true := by simpa using e2
                have q2' : (x : Int) < (m : Int) := by omega
                obtain ⟨bp, op, e, hbp, hrow⟩ := HT1.out (by omega)
                cases e
                obtain ⟨pr, cr, k1, hS⟩ := hrow x e2
                have HS := Lib.hid hS
                have k1 := (HBq.out.cell (p := ⟨bp, op + x, none⟩) hbp).trans k1
                have hl14 := HL14.out x
                clear hrow hS
                by_cases e3 : ¬ y < l2 x
                · have q3 : decide (y < l2 x) = false := by simpa using e3
                  have q3' : ¬ (y : Int) < (l2 x : Int) := by omega
                  generalize l2 x = lx at *
                  go_wp2
                  exact ⟨NEXT.out, by simp [intOf]; omega⟩
                have e3 : y < l2 x := Classical.not_not.1 e3
                have q3 : decide (y < l2 x) = true := by simpa using e3
                have q3' : (y : Int) < (l2 x : Int) := by omega
                obtain ⟨b2, o2, e, hb2, hc2⟩ := HS.out (by omega)
                cases e
                have k2 := (HBq.out.cell (p := ⟨b2, o2 + y, none⟩) hb2).trans (hc2 y e3)
                clear hc2
                generalize l2 x = lx at *
                by_cases e4 : r x y = false
                · rw [e4] at k2
                  clear e4
                  go_wp2
                  exact ⟨NEXT.out, by simp [intOf]; omega⟩
                have e4 : r x y = true := by simpa using e4
                rw [e4] at k2
                clear e4
                by_cases e5 : k % 5 = 0
                · rw [e5] at h50
                  have h50 : Int.tmod (k : Int) 5 = 0 := h50
                  go_wp2
                  exact ⟨NEXT.out, by simp [intOf]; omega⟩
                have q5 : (((k % 5 : Nat) : Int) != 0) = true := by rw [bne_iff_ne]; omega
                have k3 := HTq.out.hdr ha
                have k4 := (HTq.out.rows na ha).frozen nb
                have k5 := (HTq.out.rows na ha).cell hb
                have HSET := Lib.hid (HTq.out.set ha hb)
                have HUU := Lib.hid (HADD.out e5)
                have HB5 := Lib.hid (HBq.out.setCell (p := ⟨rb na, nb, none⟩) (HRB.out na ha) (.bool true))
                have ga : (na : Int) < (k : Int) := by omega
                have ga0 : (0 : Int) ≤ (na : Int) := by omega
                have gb : (nb : Int) < (k : Int) := by omega
                have gb0 : (0 : Int) ≤ (nb : Int) := by omega
                clear e5 NEXT
                generalize R na nb = old at *
                go_wp2
                exact ⟨⟨y + 1, _, by omega, by omega, int_eq (by omega), HSET, HUU, HB5⟩, by simp [intOf]; omega⟩
              · have g2 : ¬ (y : Int) < (k : Int) := by omega
                go_wp2
                exact ⟨⟨x + 1, R, by omega, int_eq (by omega), hT, hU, hB⟩, by simp [intOf]; omega⟩
          · have g1 : ¬ (x : Int) < (k : Int) := by omega
            go_upto_region 21 with (fail)
            go_loopw [12] (fun s12 wr => ∃ (z : Nat) (R : Nat → Nat → Bool), z ≤ k ∧ s12 = .int .i64 (z : Int) ∧ Hid (TabW wr w2.heap.size (.slice (some ⟨g, o, none⟩) k c) k k rb R) ∧ Hid (UpN k R) ∧ Hid (ClN k z R) ∧ Hid (Below w2.heap.size w2 wr)) (fun s12 _ => k - (intOf s12).toNat)
            case atStart => exact ⟨0, R, by omega, rfl, hT, hU, (fun z hz => by omega), hB⟩
            case round =>
              clear hT hU hB
              obtain ⟨z, R, hz, rfl, hT, hU, hC, hB⟩ := hrel
              by_cases hzk : z < k
              · have g1 : (z : Int) < (k : Int) := by omega
                have g0 : (0 : Int) ≤ (z : Int) := by omega
                have hzz := hU.out.irr hk12 z
                have HZZ := Lib.hid hzz
                clear hzz
                go_upto_region 24 with (fail)
                go_loopw [13] (fun s13 wr => ∃ x : Nat, x ≤ k ∧ s13 = .int .i64 (x : Int) ∧ Hid (TabW wr w2.heap.size (.slice (some ⟨g, o, none⟩) k c) k k rb (phR R z x 0)) ∧ Hid (Below w2.heap.size w2 wr)) (fun s13 _ => k - (intOf s13).toNat)
                case atStart => exact ⟨0, by omega, rfl, by rw [phR_zero]; exact hT, hB⟩
                case round =>
                  clear hT hB
                  obtain ⟨x, hx, rfl, hT, hB⟩ := hrel
                  by_cases hxk : x < k
                  · have g2 : (x : Int) < (k : Int) := by omega
                    have g3 : (0 : Int) ≤ (x : Int) := by omega
                    go_upto_region 27 with (fail)
                    go_loopw [14] (fun s14 wr => ∃ y : Nat, y ≤ k ∧ s14 = .int .i64 (y : Int) ∧ Hid (TabW wr w2.heap.size (.slice (some ⟨g, o, none⟩) k c) k k rb (phR R z x y)) ∧ Hid (Below w2.heap.size w2 wr)) (fun s14 _ => k - (intOf s14).toNat)
                    case atStart => exact ⟨0, by omega, rfl, hT, hB⟩
                    case round =>
                      clear hT hB
                      obtain ⟨y, hy, rfl, hT, hB⟩ := hrel
                      by_cases hyk : y < k
                      · have g4 : (y : Int) < (k : Int) := by omega
                        have g5 : (0 : Int) ≤ (y : Int) := by omega
                        have k1 := hT.out.hdr hxk
                        have k2 := hT.out.hdr hzk
                        have k3 := (hT.out.rows x hxk).cell hzk
                        have k4 := (hT.out.rows z hzk).cell hyk
                        rw [phR_col HZZ.out] at k3
                        rw [phR_row HZZ.out] at k4
                        have HNX : Hid ((R x z && R z y) = true → phR R z x (y + 1) = fun i j => phR R z x y i j || (decide (i = x) && decide (j = y))) := phR_next
                        have HNS : Hid ((R x z && R z y) = false → phR R z x (y + 1) = phR R z x y) := phR_skip
                        generalize R x z = u1 at *
                        generalize R z y = u2 at *
                        cases u1
                        · have HE : Hid (TabW wr w2.heap.size (.slice (some ⟨g, o, none⟩) k c) k k rb (phR R z x (y + 1))) := by rw [HNS.out rfl]; exact hT
                          clear HNX HNS
                          go_wp2
                          exact ⟨⟨y + 1, by omega, int_eq (by omega), HE, hB⟩, by simp [intOf]; omega⟩
                        · cases u2
                          · have HE : Hid (TabW wr w2.heap.size (.slice (some ⟨g, o, none⟩) k c) k k rb (phR R z x (y + 1))) := by rw [HNS.out rfl]; exact hT
                            clear HNX HNS
                            go_wp2
                            exact ⟨⟨y + 1, by omega, int_eq (by omega), HE, hB⟩, by simp [intOf]; omega⟩
                          · have k5 := (hT.out.rows x hxk).frozen y
                            have k6 := (hT.out.rows x hxk).cell hyk
                            have HE : Hid (TabW (wr.setCell ⟨rb x, y, none⟩ (.bool true)) w2.heap.size (.slice (some ⟨g, o, none⟩) k c) k k rb (phR R z x (y + 1))) := by rw [HNX.out rfl]; exact hT.out.set hxk hyk
                            have HB5 := Lib.hid (hB.out.setCell (p := ⟨rb x, y, none⟩) (HRB.out x hxk) (.bool true))
                            generalize phR R z x y x y = old at *
                            clear HNX HNS
                            go_wp2
                            exact ⟨⟨y + 1, by omega, int_eq (by omega), HE, HB5⟩, by simp [intOf]; omega⟩
                      · have g4 : ¬ (y : Int) < (k : Int) := by omega
                        obtain rfl : k = y := by omega
                        have HE : Hid (TabW wr w2.heap.size (.slice (some ⟨g, o, none⟩) k c) k k rb (phR R z (x + 1) 0)) := hT.out.congr fun i j _ hj => phR_line i j hj
                        go_wp2
                        exact ⟨⟨x + 1, by omega, int_eq (by omega), HE, hB⟩, by simp [intOf]; omega⟩
                  · have g2 : ¬ (x : Int) < (k : Int) := by omega
                    obtain rfl : k = x := by omega
                    have HUN := Lib.hid (phR_up hU.out hk12 z k 0)
                    have HCN := Lib.hid (hC.out.step hzk HZZ.out)
                    go_wp2
                    exact ⟨⟨z + 1, _, by omega, int_eq (by omega), hT, HUN, HCN, hB⟩, by simp [intOf]; omega⟩
              · have g1 : ¬ (z : Int) < (k : Int) := by omega
                obtain rfl : k = z := by omega
                go_wp2
                go_ret
                exact ⟨_, k, ⟨c, rfl⟩, R, hT.out.tbl, hU.out.tab hk1 hk12 hC.out, HB1.out.trans (hB.out.mono hw1)⟩
end Go.Proofs.YtgpijajgaclhfaaDoor
namespace Go.Proofs.YtgpijajgaclhfaaDoor
open Go.RowKit Go.Shelf

theorem size_any (s : Nat) (w : World) (hs : Sm s) :
    Calls Tryd.prog 82 #[.int .i64 s] w fun e w' => e = .returned (.int .i64 (size s)) ∧ w' = w := by
  go_enter Tryd.func82, Tryd.ntmps82
  go_wp2
  go_loop [3, 4] (fun n i => ∃ k : Nat, k ≤ 20 ∧ i = .int .i64 k ∧ n = .int .i64 (szTo s k)) (fun _ i => 64 - (intOf i).toNat)
  case atStart => exact ⟨0, Nat.zero_le _, rfl, rfl⟩
  case round =>
    obtain ⟨k, hk, rfl, rfl⟩ := hrel
    have h1 := tb_lt s k
    have h2 := szTo_le s k
    go_wp2
    · have hlt : 0 < shr s k := by assumption
      have := shr_pos_lt hs hlt
      go_round
      case rel => exact ⟨k + 1, by omega, by go_num, by simp only [szTo]; go_num⟩
      case measure => simp [intOf]; omega
    · have hz : shr s k = 0 := by have : ¬ 0 < shr s k := by assumption
                                  omega
      go_ret
      exact ⟨ret_int (by rw [size_of_stop hk hz]), rfl⟩
set_option maxRecDepth 100000 in
set_option maxHeartbeats 2000000 in
theorem before_any (la : Option Addr) (n lc x : Nat) (r : Nat → Nat → Bool) (w : World) (hn : n ≤ 12) (hx : x < n) (hT : TblI w la n (fun _ => n) r) :
    Calls Tryd.prog 63 #[.slice la n lc, .int .i64 (x : Int)] w fun e w' => e = .returned (.int .i64 ((bef n r x : Nat) : Int)) ∧ w' = w := by
  obtain ⟨b, o, rfl, hb, hr⟩ := hT (by omega)
  have HR := Lib.hid hr
  clear hr hT
  have g1 : (x : Int) < (n : Int) := by omega
  have g0 : (0 : Int) ≤ (x : Int) := by omega
  go_enter Tryd.func63, Tryd.ntmps63
  go_upto_region 3 with (fail)
  go_loopw [5, 6] (fun s5 s6 wr => ∃ y : Nat, y ≤ n ∧ s6 = .int .i64 (y : Int) ∧ s5 = .int .i64 ((bs (fun i => r i x) y : Nat) : Int) ∧ Hid (wr = w)) (fun _ s6 _ => n - (intOf s6).toNat)
  case atStart => exact ⟨0, by omega, rfl, rfl, rfl⟩
  case round =>
    obtain ⟨y, hy, rfl, rfl, hw⟩ := hrel
    rw [hw.out]
    clear hw
    by_cases hyn : y < n
    · have g2 : (y : Int) < (n : Int) := by omega
      have g3 : (0 : Int) ≤ (y : Int) := by omega
      have g4 : y < 20 := by omega
      obtain ⟨p, c, k1, hS⟩ := HR.out y hyn
      obtain ⟨b2, o2, rfl, hb2, hc⟩ := hS (by omega)
      have k2 := hc x hx
      have s1 : Sm (bs (fun i => r i x) y) := sm_bs _ (by omega)
      have s2 := sm_pw g4
      have HS : Hid (bs (fun i => r i x) (y + 1) = bs (fun i => r i x) y ||| (if r y x = true then 2 ^ y else 0)) := rfl
      clear hc hS
      generalize bs (fun i => r i x) y = v at *
      generalize r y x = t at *
      cases t
      · have HE : Hid (bs (fun i => r i x) (y + 1) = v) := by unfold Hid; rw [HS.out]; simp
        clear HS
        go_wp2
        refine ⟨⟨y + 1, by omega, int_eq (by omega), ?_, True.intro⟩, by simp [intOf]; omega⟩
        rw [HE.out]
      · have HE : Hid (bs (fun i => r i x) (y + 1) = v ||| pw y) := by unfold Hid; rw [HS.out]; simp [pw]
        clear HS
        go_wp2
        refine ⟨⟨y + 1, by omega, int_eq (by omega), ?_, True.intro⟩, by simp [intOf]; omega⟩
        rw [HE.out]
    · have g2 : ¬ (y : Int) < (n : Int) := by omega
      obtain rfl : n = y := by omega
      go_wp2
      go_ret
      exact ⟨rfl, rfl⟩
/-- the sets before the first elements, in order -/
structure SetsTo (n : Nat) (r : Nat → Nat → Bool) (x : Nat) (L : List Nat) : Prop where
  up : L.Pairwise LtS
  mem : ∀ s, s ∈ L ↔ ∃ y, y < x ∧ s = bef n r y
theorem SetsTo.all {n : Nat} {r : Nat → Nat → Bool} {L : List Nat} (h : SetsTo n r n L) : SetsL n r L := ⟨h.up, h.mem⟩
theorem nthN_mem {L : List Nat} {k : Nat} (hk : k < L.length) : nthN L k ∈ L := by unfold nthN; rw [List.getElem?_eq_getElem hk]; exact List.getElem_mem hk
theorem mem_nthN {L : List Nat} {s : Nat} (h : s ∈ L) : ∃ k, k < L.length ∧ nthN L k = s := by
  obtain ⟨k, hk, e⟩ := List.mem_iff_getElem.1 h
  exact ⟨k, hk, by unfold nthN; rw [List.getElem?_eq_getElem hk]; exact e⟩
theorem pair_nthN {L : List Nat} (h : L.Pairwise LtS) {i j : Nat} (hij : i < j) (hj : j < L.length) : LtS (nthN L i) (nthN L j) := by
  unfold nthN
  rw [List.getElem?_eq_getElem hj, List.getElem?_eq_getElem (by omega)]
  exact List.pairwise_iff_getElem.1 h i j (by omega) hj hij
theorem SetsTo.has {n : Nat} {r : Nat → Nat → Bool} {x k : Nat} {L : List Nat} (h : SetsTo n r x L) (hk : k < L.length) (e : nthN L k = bef n r x) : SetsTo n r (x + 1) L where
  up := h.up
  mem := fun s => by
    rw [h.mem]
    constructor
    · rintro ⟨y, hy, e⟩; exact ⟨y, by omega, e⟩
    · rintro ⟨y, hy, e2⟩
      by_cases ey : y = x
      · subst ey
        rw [e2, ← e]
        exact (h.mem _).1 (nthN_mem hk)
      · exact ⟨y, by omega, e2⟩
theorem SetsTo.put {n : Nat} {r : Nat → Nat → Bool} {x k : Nat} {L : List Nat} (h : SetsTo n r x L) (hk : k ≤ L.length) (h1 : ∀ j, j < k → LtS (nthN L j) (bef n r x)) (h2 : k < L.length → LtS (bef n r x) (nthN L k)) : SetsTo n r (x + 1) (L.take k ++ [bef n r x] ++ L.drop k) where
  up := by
    have hlo : ∀ a ∈ L.take k, LtS a (bef n r x) := fun a ha => by
      obtain ⟨j, hj, e⟩ := mem_nthN ha
      rw [List.length_take] at hj
      have := h1 j (by omega)
      rw [← e]
      unfold nthN at this ⊢
      rw [List.getElem?_take, if_pos (by omega)]; exact this
    have hhi : ∀ a ∈ L.drop k, LtS (bef n r x) a := fun a ha => by
      obtain ⟨j, hj, e⟩ := mem_nthN ha
      rw [List.length_drop] at hj
      have e2 : nthN L (k + j) = a := by rw [← e]; unfold nthN; rw [List.getElem?_drop]
      by_cases ej : j = 0
      · subst ej; rw [← e2]; exact h2 (by omega)
      · rw [← e2]; exact ltS_trans (h2 (by omega)) (pair_nthN h.up (by omega) (by omega))
    rw [List.pairwise_append, List.pairwise_append]
    refine ⟨⟨h.up.sublist (List.take_sublist k L), List.pairwise_singleton _ _, fun a ha b hb => ?_⟩, h.up.sublist (List.drop_sublist k L), fun a ha b hb => ?_⟩
    · rw [List.mem_singleton] at hb; subst hb; exact hlo a ha
    · rcases List.mem_append.1 ha with ha | ha
      · exact ltS_trans (hlo a ha) (hhi b hb)
      · rw [List.mem_singleton] at ha; subst ha; exact hhi b hb
  mem := fun s => by
    rw [List.mem_append, List.mem_append, List.mem_singleton]
    have hm : s ∈ L ↔ s ∈ L.take k ∨ s ∈ L.drop k := by rw [← List.mem_append, List.take_append_drop]
    constructor
    · rintro ((h3 | h3) | h3)
      · obtain ⟨y, hy, e⟩ := (h.mem s).1 (hm.2 (.inl h3)); exact ⟨y, by omega, e⟩
      · exact ⟨x, by omega, h3⟩
      · obtain ⟨y, hy, e⟩ := (h.mem s).1 (hm.2 (.inr h3)); exact ⟨y, by omega, e⟩
    · rintro ⟨y, hy, e⟩
      by_cases ey : y = x
      · subst ey; exact .inl (.inr e)
      · rcases hm.1 ((h.mem s).2 ⟨y, by omega, e⟩) with h3 | h3
        · exact .inl (.inl h3)
        · exact .inr h3
theorem SetsTo.len {n : Nat} {r : Nat → Nat → Bool} {x : Nat} {L : List Nat} (h : SetsTo n r x L) : L.length ≤ x := by
  have hnd : L.Nodup := h.up.imp fun hlt e => by rw [e] at hlt; exact ltS_irr hlt
  have := nodup_in L ((List.range x).map (bef n r)) hnd fun k hk => by
    obtain ⟨y, hy, e⟩ := (h.mem k).1 hk
    exact List.mem_map.2 ⟨y, List.mem_range.2 hy, e.symm⟩
  simpa using this
end Go.Proofs.YtgpijajgaclhfaaDoor
namespace Go.Proofs.YtgpijajgaclhfaaDoor
open Go.RowKit Go.Shelf

theorem iv_app (a b : List Nat) : iv (a ++ b) = iv a ++ iv b := by simp [iv]
theorem src_take {w : World} {base : Nat} {p : Option Addr} {m c k : Nat} {L : List Nat} (h : QRow w base 3 1 (.slice p m c) m (iv L)) (hm : L.length = m) (hk : k ≤ m) : Src w p k 1 (iv (L.take k)) := by
  refine ⟨by rw [iv_length, List.length_take]; omega, fun h0 => ?_⟩
  obtain ⟨b, o, cap, e, _, _, _, _, hc, _⟩ := h.at (by omega)
  cases e
  refine ⟨_, rfl, fun j u hu => ?_⟩
  have hj := (List.getElem?_eq_some_iff.1 hu).1
  rw [iv_length, List.length_take] at hj
  rw [Addr.add_lit, hc j (by omega), ← hu]
  unfold iv
  rw [List.getElem?_map, List.getElem?_map, List.getElem?_take, if_pos (by omega)]
theorem src_drop {w : World} {base : Nat} {b o m c k : Nat} {L : List Nat} (h : QRow w base 3 1 (.slice (some ⟨b, o, none⟩) m c) m (iv L)) (hm : L.length = m) (hk : k ≤ m) : Src w (some ⟨b, o + k, none⟩) (m - k) 1 (iv (L.drop k)) := by
  refine ⟨by rw [iv_length, List.length_drop]; omega, fun h0 => ?_⟩
  obtain ⟨b', o', cap, e, _, _, _, _, hc, _⟩ := h.at (by omega)
  cases e
  refine ⟨_, rfl, fun j u hu => ?_⟩
  have hj := (List.getElem?_eq_some_iff.1 hu).1
  rw [iv_length, List.length_drop] at hj
  rw [Addr.add_lit, Nat.add_assoc, hc (k + j) (by omega), ← hu]
  unfold iv
  rw [List.getElem?_map, List.getElem?_map, List.getElem?_drop]
set_option maxRecDepth 100000 in
set_option maxHeartbeats 8000000 in
theorem rsets_any (la : Option Addr) (n lc : Nat) (r : Nat → Nat → Bool) (w : World) (hn : n ≤ 12) (hT : TblI w la n (fun _ => n) r) :
    Calls Tryd.prog 59 #[.slice la n lc] w fun e w' => ∃ v L, e = .returned v ∧ SetsL n r L ∧ QRow w' w.heap.size 3 1 v L.length (iv L) ∧ Below w.heap.size w w' := by
  obtain ⟨i0, hi0, hz0, hz1, hz2⟩ := info_parts info3
  have HT := Lib.hid hT
  clear hT
  go_enter Tryd.func59, Tryd.ntmps59
  go_upto_region 3 with (fail)
  go_loopw [3, 4] (fun s3 s4 wr => ∃ (x m : Nat) (L : List Nat), x ≤ n ∧ s4 = .int .i64 (x : Int) ∧ L.length = m ∧ m ≤ x ∧ Hid (SetsTo n r x L) ∧ QRow wr w.heap.size 3 1 s3 m (iv L) ∧ Hid (Below w.heap.size w wr)) (fun _ s4 _ => n - (intOf s4).toNat)
  case atStart => exact ⟨0, 0, [], by omega, rfl, rfl, by omega, ⟨List.Pairwise.nil, fun s => Iff.intro (fun h => by cases h) (fun ⟨y, hy, _⟩ => by omega)⟩, QRow.nil _ _ _ _, Below.refl _ _⟩
  case round =>
    obtain ⟨x, m, L, hx, rfl, hL, hmx, hS, hq, hB⟩ := hrel
    have HL := Lib.hid hL
    clear hL
    obtain ⟨p, c, rfl⟩ := hq.isSlice
    have hsw : w.heap.size ≤ wr.heap.size := hB.out.size
    by_cases hxn : x < n
    · have g1 : (x : Int) < (n : Int) := by omega
      have HBE := Lib.hid (before_any la n lc x r wr hn hxn (HT.out.below hB.out (Nat.le_refl _)))
      obtain ⟨s, hs⟩ : ∃ s, Hid (s = bef n r x) := ⟨_, rfl⟩
      rw [← hs.out] at HBE
      have hsm : Sm s := by rw [hs.out]; exact bef_sm hn x
      have HRN : Hid (∀ j, j < m → ∃ b o, p = some ⟨b, o, none⟩ ∧ b < wr.heap.size ∧ wr.cell? ⟨b, o + j, none⟩ = some (.int .i64 (nthN L j : Nat))) := fun j hj => hq.rowN j (by rw [HL.out]; exact hj)
      have HSM : Hid (∀ j, j < m → Sm (nthN L j)) := fun j hj => by
        obtain ⟨y, _, e⟩ := (hS.out.mem (nthN L j)).1 (nthN_mem (by rw [HL.out]; exact hj))
        rw [e]; exact bef_sm hn y
      have HQ := Lib.hid hq
      clear hq
      obtain ⟨wo, hwo⟩ : ∃ wo, Hid (wo = wr) := ⟨_, rfl⟩
      rw [← hwo.out] at hB HBE HRN HQ hsw ⊢
      clear hwo
      go_upto_region 7 with (go_at_call 63; refine HBE.out.mono ?_; rintro e w1 ⟨rfl, hw1⟩; subst hw1)
      clear HBE
      go_loopw [6] (fun s6 wr => ∃ k : Nat, k ≤ m ∧ s6 = .int .i64 (k : Int) ∧ Hid (∀ j, j < k → LtS (nthN L j) s) ∧ Hid (wr = w1)) (fun s6 _ => m - (intOf s6).toNat)
      case atStart => exact ⟨0, by omega, rfl, (fun j hj => by omega), rfl⟩
      case round =>
        obtain ⟨k, hk, rfl, hlo, hw⟩ := hrel
        rw [hw.out]
        clear hw
        have KS : Hid (Calls Tryd.prog 82 #[.int .i64 (s : Int)] w1 fun e w' => e = .returned (.int .i64 (size s : Nat)) ∧ w' = w1) := size_any s w1 hsm
        by_cases hkm : k < m
        · have g2 : (k : Int) < (m : Int) := by omega
          have g3 : (0 : Int) ≤ (k : Int) := by omega
          have hz := HSM.out k hkm
          obtain ⟨b, o, rfl, hb, k1⟩ := HRN.out k hkm
          have KZ : Hid (Calls Tryd.prog 82 #[.int .i64 (nthN L k : Int)] w1 fun e w' => e = .returned (.int .i64 (size (nthN L k) : Nat)) ∧ w' = w1) := size_any (nthN L k) w1 hz
          have hcm : m ≤ c := by
            rcases HQ.out.2 with ⟨e, _⟩ | ⟨g, o', cap, cur, e, _, _, h5, _⟩
            · cases e
            · cases e; omega
          obtain ⟨z, hzz⟩ : ∃ z, Hid (z = nthN L k) := ⟨_, rfl⟩
          have HLT : Hid (LtS z s ↔ size z < size s ∨ (size z = size s ∧ z < s)) := Iff.rfl
          have HLO : Hid (LtS z s → ∀ j, j < k + 1 → LtS (nthN L j) s) := fun h j hj => by
            by_cases e : j = k
            · subst e; rw [← hzz.out]; exact h
            · exact hlo.out j (by omega)
          rw [← hzz.out] at KZ k1 hz
          have hzs := size_le z
          have hss := size_le s
          generalize size z = sz at *
          generalize size s = ss at *
          by_cases h1 : sz < ss
          · have HN := Lib.hid (HLO.out (HLT.out.2 (.inl h1)))
            have q1 : (sz : Int) < (ss : Int) := by omega
            clear HLO HLT
            go_wp2_with (first
              | (go_at_call 82; with_reducible refine KZ.out.mono ?_; rintro e w4 ⟨rfl, hw4⟩; replace hw4 := hw4.symm; subst hw4)
              | (go_at_call 82; with_reducible refine KS.out.mono ?_; rintro e w4 ⟨rfl, hw4⟩; replace hw4 := hw4.symm; subst hw4))
            exact ⟨⟨k + 1, by omega, int_eq (by omega), HN, True.intro⟩, by simp [intOf]; omega⟩
          by_cases h2 : sz = ss ∧ z < s
          · have HN := Lib.hid (HLO.out (HLT.out.2 (.inr h2)))
            have q1 : ¬ (sz : Int) < (ss : Int) := by omega
            have q2 : ((sz : Int) == (ss : Int)) = true := by rw [h2.1]; simp
            have q3 : (z : Int) < (s : Int) := by omega
            have q4 := h2.2
            clear HLO HLT h2
            go_wp2_with (first
              | (go_at_call 82; with_reducible refine KZ.out.mono ?_; rintro e w4 ⟨rfl, hw4⟩; replace hw4 := hw4.symm; subst hw4)
              | (go_at_call 82; with_reducible refine KS.out.mono ?_; rintro e w4 ⟨rfl, hw4⟩; replace hw4 := hw4.symm; subst hw4))
            exact ⟨⟨k + 1, by omega, int_eq (by omega), HN, True.intro⟩, by simp [intOf]; omega⟩
          have HNO : Hid (¬ LtS z s) := fun h => by rcases HLT.out.1 h with h | h; exact h1 h; exact h2 h
          have q1 : ¬ (sz : Int) < (ss : Int) := by omega
          by_cases h3 : z = s
          · have HHAS : Hid (SetsTo n r (x + 1) L) := hS.out.has (k := k) (by rw [HL.out]; exact hkm) (by rw [← hzz.out, h3, hs.out])
            have q3 : ¬ (z : Int) < (s : Int) := by omega
            have q4 : ((z : Int) == (s : Int)) = true := by rw [h3]; simp
            have q5 : ¬ z < s := by omega
            clear HLO HLT h2
            by_cases h4 : sz = ss
            · have q2 : ((sz : Int) == (ss : Int)) = true := by rw [h4]; simp
              go_wp2_with (first
                | (go_at_call 82; with_reducible refine KZ.out.mono ?_; rintro e w4 ⟨rfl, hw4⟩; replace hw4 := hw4.symm; subst hw4)
                | (go_at_call 82; with_reducible refine KS.out.mono ?_; rintro e w4 ⟨rfl, hw4⟩; replace hw4 := hw4.symm; subst hw4))
              exact ⟨⟨x + 1, m, L, by omega, int_eq (by omega), HL.out, by omega, HHAS, HQ.out, hB⟩, by simp [intOf]; omega⟩
            · have q2 : ((sz : Int) == (ss : Int)) = false := by rw [beq_eq_false_iff_ne]; omega
              go_wp2_with (first
                | (go_at_call 82; with_reducible refine KZ.out.mono ?_; rintro e w4 ⟨rfl, hw4⟩; replace hw4 := hw4.symm; subst hw4)
                | (go_at_call 82; with_reducible refine KS.out.mono ?_; rintro e w4 ⟨rfl, hw4⟩; replace hw4 := hw4.symm; subst hw4))
              exact ⟨⟨x + 1, m, L, by omega, int_eq (by omega), HL.out, by omega, HHAS, HQ.out, hB⟩, by simp [intOf]; omega⟩
          have HPUT : Hid (SetsTo n r (x + 1) (L.take k ++ [s] ++ L.drop k)) := by
            rw [hs.out]
            refine hS.out.put (by rw [HL.out]; omega) (fun j hj => by rw [← hs.out]; exact hlo.out j hj) (fun _ => ?_)
            rcases ltS_tri (nthN L k) (bef n r x) with h | h | h
            · rw [← hzz.out, ← hs.out] at h; exact absurd h HNO.out
            · rw [← hzz.out, ← hs.out] at h; exact absurd h h3
            · exact h
          have q4 : ((z : Int) == (s : Int)) = false := by rw [beq_eq_false_iff_ne]; omega
          clear HLO HLT
          by_cases h4 : sz = ss
          · have q2 : ((sz : Int) == (ss : Int)) = true := by rw [h4]; simp
            have q3 : ¬ (z : Int) < (s : Int) := fun h => h2 ⟨h4, by omega⟩
            have q5 : ¬ z < s := fun h => h2 ⟨h4, h⟩
            clear h2
            go_upto_region 10 with (first
              | (go_at_call 82; with_reducible refine KZ.out.mono ?_; rintro e w4 ⟨rfl, hw4⟩; replace hw4 := hw4.symm; subst hw4)
              | (go_at_call 82; with_reducible refine KS.out.mono ?_; rintro e w4 ⟨rfl, hw4⟩; replace hw4 := hw4.symm; subst hw4))
            have HLEN : Hid ((L.take k ++ [s] ++ L.drop k).length = m + 1) := by
              unfold Hid; rw [List.length_append, List.length_append, List.length_take, List.length_drop, HL.out]; simp; try omega
            have HS1 : Hid (Src w1 (some ⟨b, o, none⟩) k 1 (iv (L.take k))) := src_take HQ.out HL.out (by omega)
            have HO1 := Lib.hid (iv_one (L.take k))
            have HO2 := Lib.hid (iv_one (L.drop k))
            go_upto_region 12 with (at_builtin; go_must (refine wpList_append_qq _ rfl (.tmp 63) (.tmp 66) 28 rfl w.heap.size 3 i0 (.int .i64 0) 1 8 Tryd.underlying28 hi0 hz0 hz1 hz2 rfl (by decide) _ 0 [] rfl (QRow.nil _ _ _ _) (some ⟨b, o, none⟩) k c (iv (L.take k)) rfl HS1.out HO1.out (by unfold maxLen; omega) (by omega) (by omega) ?_); intro v6 w6 hq6 hg6 ho6; rw [Nat.zero_add, List.nil_append] at hq6; have hg6 : w1.grownBy w6 none := hg6; have HQ6 := Lib.hid hq6; have HB6 : Hid (Below w.heap.size w w6) := Below.grown hB.out hg6 hsw (fun kk e => by cases e); have HR6 := Lib.hid (HQ.out.kept hg6 (Classical.em _)); have HF6 : Hid (∀ kk, v6.ownBlock = some kk → w1.heap.size ≤ kk) := (fun kk e => (ho6 kk e).elim (fun h => by cases h) id); have HA6 := Lib.hid (hq6.alloc (.cells #[.int .i64 (s : Int)] 3)); have h6s : w.heap.size ≤ w6.heap.size := HB6.out.size; have h16 : w1.heap.size ≤ w6.heap.size := hg6.size; clear hq6 hg6 ho6)
            go_upto_region 13 with (at_builtin; go_must (refine wpList_append_q _ rfl (.tmp 68) (.tmp 70) 28 rfl w.heap.size 3 i0 (.int .i64 0) 1 8 Tryd.underlying28 hi0 hz0 hz1 hz2 rfl (by decide) _ k (iv (L.take k)) rfl HA6.out ⟨_, 0, none⟩ 1 1 [.int .i64 (s : Int)] rfl rfl (cells_new1 _ _ _) (by simp [Value.oneCell']) (by unfold maxLen; omega) (by omega) (by simp; omega) ?_); intro v7 w7 hq7 hg7 ho7; have HQ7 := Lib.hid hq7; have HB7 : Hid (Below w.heap.size w w7) := Below.grown (HB6.out.alloc h6s _) hg7 (by simp; omega) (fun kk e => (HQ6.out.lt kk e).1); have HR7 : Hid (QRow w7 w.heap.size 3 1 (.slice (some ⟨b, o, none⟩) m c) m (iv L)) := (HR6.out.alloc _).kept hg7 (ne_or (fun kk hk e => by have h1 := (HQ.out.lt kk hk).2; have h2 := HF6.out kk e; omega)); have h7s : w.heap.size ≤ w7.heap.size := HB7.out.size; have HS7 : Hid (Src w7 (some ⟨b, o + k, none⟩) (m - k) 1 (iv (L.drop k))) := src_drop HR7.out HL.out (by omega); clear hq7 hg7 ho7)
            go_wp2_with (at_builtin; go_must (refine wpList_append_qq _ rfl (.tmp 72) (.tmp 75) 28 rfl w.heap.size 3 i0 (.int .i64 0) 1 8 Tryd.underlying28 hi0 hz0 hz1 hz2 rfl (by decide) v7 (k + 1) (iv (L.take k) ++ [Value.int .i64 (s : Int)]) rfl HQ7.out (some ⟨b, o + k, none⟩) (m - k) (c - k) (iv (L.drop k)) rfl HS7.out HO2.out (by unfold maxLen; omega) (by omega) (by omega) ?_); intro v8 w8 hq8 hg8 ho8; have HQ8 : Hid (QRow w8 w.heap.size 3 1 v8 (m + 1) (iv (L.take k ++ [s] ++ L.drop k))) := (by rw [iv_app, iv_app]; have := hq8; rw [show k + 1 + (m - k) = m + 1 by omega] at this; exact this); have HB8 : Hid (Below w.heap.size w w8) := Below.grown HB7.out hg8 h7s (fun kk e => (HQ7.out.lt kk e).1); clear hq8 hg8 ho8)
            exact ⟨⟨x + 1, m + 1, _, by omega, int_eq (by omega), HLEN.out, by omega, HPUT, HQ8.out, HB8⟩, by simp [intOf]; omega⟩
          · have q2 : ((sz : Int) == (ss : Int)) = false := by rw [beq_eq_false_iff_ne]; omega
            clear h2
            go_upto_region 10 with (first
              | (go_at_call 82; with_reducible refine KZ.out.mono ?_; rintro e w4 ⟨rfl, hw4⟩; replace hw4 := hw4.symm; subst hw4)
              | (go_at_call 82; with_reducible refine KS.out.mono ?_; rintro e w4 ⟨rfl, hw4⟩; replace hw4 := hw4.symm; subst hw4))
            have HLEN : Hid ((L.take k ++ [s] ++ L.drop k).length = m + 1) := by
              unfold Hid; rw [List.length_append, List.length_append, List.length_take, List.length_drop, HL.out]; simp; try omega
            have HS1 : Hid (Src w1 (some ⟨b, o, none⟩) k 1 (iv (L.take k))) := src_take HQ.out HL.out (by omega)
            have HO1 := Lib.hid (iv_one (L.take k))
            have HO2 := Lib.hid (iv_one (L.drop k))
            go_upto_region 12 with (at_builtin; go_must (refine wpList_append_qq _ rfl (.tmp 63) (.tmp 66) 28 rfl w.heap.size 3 i0 (.int .i64 0) 1 8 Tryd.underlying28 hi0 hz0 hz1 hz2 rfl (by decide) _ 0 [] rfl (QRow.nil _ _ _ _) (some ⟨b, o, none⟩) k c (iv (L.take k)) rfl HS1.out HO1.out (by unfold maxLen; omega) (by omega) (by omega) ?_); intro v6 w6 hq6 hg6 ho6; rw [Nat.zero_add, List.nil_append] at hq6; have hg6 : w1.grownBy w6 none := hg6; have HQ6 := Lib.hid hq6; have HB6 : Hid (Below w.heap.size w w6) := Below.grown hB.out hg6 hsw (fun kk e => by cases e); have HR6 := Lib.hid (HQ.out.kept hg6 (Classical.em _)); have HF6 : Hid (∀ kk, v6.ownBlock = some kk → w1.heap.size ≤ kk) := (fun kk e => (ho6 kk e).elim (fun h => by cases h) id); have HA6 := Lib.hid (hq6.alloc (.cells #[.int .i64 (s : Int)] 3)); have h6s : w.heap.size ≤ w6.heap.size := HB6.out.size; have h16 : w1.heap.size ≤ w6.heap.size := hg6.size; clear hq6 hg6 ho6)
            go_upto_region 13 with (at_builtin; go_must (refine wpList_append_q _ rfl (.tmp 68) (.tmp 70) 28 rfl w.heap.size 3 i0 (.int .i64 0) 1 8 Tryd.underlying28 hi0 hz0 hz1 hz2 rfl (by decide) _ k (iv (L.take k)) rfl HA6.out ⟨_, 0, none⟩ 1 1 [.int .i64 (s : Int)] rfl rfl (cells_new1 _ _ _) (by simp [Value.oneCell']) (by unfold maxLen; omega) (by omega) (by simp; omega) ?_); intro v7 w7 hq7 hg7 ho7; have HQ7 := Lib.hid hq7; have HB7 : Hid (Below w.heap.size w w7) := Below.grown (HB6.out.alloc h6s _) hg7 (by simp; omega) (fun kk e => (HQ6.out.lt kk e).1); have HR7 : Hid (QRow w7 w.heap.size 3 1 (.slice (some ⟨b, o, none⟩) m c) m (iv L)) := (HR6.out.alloc _).kept hg7 (ne_or (fun kk hk e => by have h1 := (HQ.out.lt kk hk).2; have h2 := HF6.out kk e; omega)); have h7s : w.heap.size ≤ w7.heap.size := HB7.out.size; have HS7 : Hid (Src w7 (some ⟨b, o + k, none⟩) (m - k) 1 (iv (L.drop k))) := src_drop HR7.out HL.out (by omega); clear hq7 hg7 ho7)
            go_wp2_with (at_builtin; go_must (refine wpList_append_qq _ rfl (.tmp 72) (.tmp 75) 28 rfl w.heap.size 3 i0 (.int .i64 0) 1 8 Tryd.underlying28 hi0 hz0 hz1 hz2 rfl (by decide) v7 (k + 1) (iv (L.take k) ++ [Value.int .i64 (s : Int)]) rfl HQ7.out (some ⟨b, o + k, none⟩) (m - k) (c - k) (iv (L.drop k)) rfl HS7.out HO2.out (by unfold maxLen; omega) (by omega) (by omega) ?_); intro v8 w8 hq8 hg8 ho8; have HQ8 : Hid (QRow w8 w.heap.size 3 1 v8 (m + 1) (iv (L.take k ++ [s] ++ L.drop k))) := (by rw [iv_app, iv_app]; have := hq8; rw [show k + 1 + (m - k) = m + 1 by omega] at this; exact this); have HB8 : Hid (Below w.heap.size w w8) := Below.grown HB7.out hg8 h7s (fun kk e => (HQ7.out.lt kk e).1); clear hq8 hg8 ho8)
            exact ⟨⟨x + 1, m + 1, _, by omega, int_eq (by omega), HLEN.out, by omega, HPUT, HQ8.out, HB8⟩, by simp [intOf]; omega⟩
        · have g2 : ¬ (k : Int) < (m : Int) := by omega
          obtain rfl : m = k := by omega
          have HPUT : Hid (SetsTo n r (x + 1) (L.take m ++ [s] ++ L.drop m)) := by
            rw [hs.out]
            exact hS.out.put (by rw [HL.out]; omega) (fun j hj => by rw [← hs.out]; exact hlo.out j hj) (fun h => by rw [HL.out] at h; omega)
          go_upto_region 10 with (fail)
          rcases HQ.out.2 with ⟨e, hm0, _⟩ | ⟨b, o, cap, cur, e, _, _, h5, _⟩
          · cases e
            have HLEN : Hid ((L.take 0 ++ [s] ++ L.drop 0).length = 0 + 1) := by
              unfold Hid; rw [List.length_append, List.length_append, List.length_take, List.length_drop, HL.out]; simp; try omega
            have HS1 : Hid (Src w1 none 0 1 (iv (L.take 0))) := src_take HQ.out HL.out (by omega)
            have HD0 : Hid (iv (L.drop 0) = []) := by
              have := List.length_eq_zero_iff.1 HL.out
              rw [this]; rfl
            have HO1 := Lib.hid (iv_one (L.take 0))
            have HO2 := Lib.hid (iv_one (L.drop 0))
            go_upto_region 12 with (at_builtin; go_must (refine wpList_append_qq _ rfl (.tmp 63) (.tmp 66) 28 rfl w.heap.size 3 i0 (.int .i64 0) 1 8 Tryd.underlying28 hi0 hz0 hz1 hz2 rfl (by decide) _ 0 [] rfl (QRow.nil _ _ _ _) none 0 0 (iv (L.take 0)) rfl HS1.out HO1.out (by unfold maxLen; omega) (by omega) (by omega) ?_); intro v6 w6 hq6 hg6 ho6; rw [Nat.zero_add, List.nil_append] at hq6; have hg6 : w1.grownBy w6 none := hg6; have HQ6 := Lib.hid hq6; have HB6 : Hid (Below w.heap.size w w6) := Below.grown hB.out hg6 hsw (fun kk e => by cases e); have HR6 := Lib.hid (HQ.out.kept hg6 (Classical.em _)); have HF6 : Hid (∀ kk, v6.ownBlock = some kk → w1.heap.size ≤ kk) := (fun kk e => (ho6 kk e).elim (fun h => by cases h) id); have HA6 := Lib.hid (hq6.alloc (.cells #[.int .i64 (s : Int)] 3)); have h6s : w.heap.size ≤ w6.heap.size := HB6.out.size; have h16 : w1.heap.size ≤ w6.heap.size := hg6.size; clear hq6 hg6 ho6)
            go_upto_region 13 with (at_builtin; go_must (refine wpList_append_q _ rfl (.tmp 68) (.tmp 70) 28 rfl w.heap.size 3 i0 (.int .i64 0) 1 8 Tryd.underlying28 hi0 hz0 hz1 hz2 rfl (by decide) _ 0 (iv (L.take 0)) rfl HA6.out ⟨_, 0, none⟩ 1 1 [.int .i64 (s : Int)] rfl rfl (cells_new1 _ _ _) (by simp [Value.oneCell']) (by unfold maxLen; omega) (by omega) (by simp; omega) ?_); intro v7 w7 hq7 hg7 ho7; have HQ7 := Lib.hid hq7; have HB7 : Hid (Below w.heap.size w w7) := Below.grown (HB6.out.alloc h6s _) hg7 (by simp; omega) (fun kk e => (HQ6.out.lt kk e).1); have HR7 : Hid (QRow w7 w.heap.size 3 1 (.slice none 0 0) 0 (iv L)) := (HR6.out.alloc _).kept hg7 (ne_or (fun kk hk e => by have h1 := (HQ.out.lt kk hk).2; have h2 := HF6.out kk e; omega)); have h7s : w.heap.size ≤ w7.heap.size := HB7.out.size; have HS7 : Hid (Src w7 none (0 - 0) 1 (iv (L.drop 0))) := (by rw [HD0.out]; exact ⟨rfl, fun h => absurd rfl h⟩); clear hq7 hg7 ho7)
            go_wp2_with (at_builtin; go_must (refine wpList_append_qq _ rfl (.tmp 72) (.tmp 75) 28 rfl w.heap.size 3 i0 (.int .i64 0) 1 8 Tryd.underlying28 hi0 hz0 hz1 hz2 rfl (by decide) v7 (0 + 1) (iv (L.take 0) ++ [Value.int .i64 (s : Int)]) rfl HQ7.out none (0 - 0) (0 - 0) (iv (L.drop 0)) rfl HS7.out HO2.out (by unfold maxLen; omega) (by omega) (by omega) ?_); intro v8 w8 hq8 hg8 ho8; have HQ8 : Hid (QRow w8 w.heap.size 3 1 v8 (0 + 1) (iv (L.take 0 ++ [s] ++ L.drop 0))) := (by rw [iv_app, iv_app]; have := hq8; rw [show 0 + 1 + (0 - 0) = 0 + 1 by omega] at this; exact this); have HB8 : Hid (Below w.heap.size w w8) := Below.grown HB7.out hg8 h7s (fun kk e => (HQ7.out.lt kk e).1); clear hq8 hg8 ho8)
            exact ⟨⟨x + 1, 0 + 1, _, by omega, int_eq (by omega), HLEN.out, by omega, HPUT, HQ8.out, HB8⟩, by simp [intOf]; omega⟩
          · cases e
            have HLEN : Hid ((L.take m ++ [s] ++ L.drop m).length = m + 1) := by
              unfold Hid; rw [List.length_append, List.length_append, List.length_take, List.length_drop, HL.out]; simp; try omega
            have HS1 : Hid (Src w1 (some ⟨b, o, none⟩) m 1 (iv (L.take m))) := src_take HQ.out HL.out (by omega)
            have HO1 := Lib.hid (iv_one (L.take m))
            have HO2 := Lib.hid (iv_one (L.drop m))
            go_upto_region 12 with (at_builtin; go_must (refine wpList_append_qq _ rfl (.tmp 63) (.tmp 66) 28 rfl w.heap.size 3 i0 (.int .i64 0) 1 8 Tryd.underlying28 hi0 hz0 hz1 hz2 rfl (by decide) _ 0 [] rfl (QRow.nil _ _ _ _) (some ⟨b, o, none⟩) m c (iv (L.take m)) rfl HS1.out HO1.out (by unfold maxLen; omega) (by omega) (by omega) ?_); intro v6 w6 hq6 hg6 ho6; rw [Nat.zero_add, List.nil_append] at hq6; have hg6 : w1.grownBy w6 none := hg6; have HQ6 := Lib.hid hq6; have HB6 : Hid (Below w.heap.size w w6) := Below.grown hB.out hg6 hsw (fun kk e => by cases e); have HR6 := Lib.hid (HQ.out.kept hg6 (Classical.em _)); have HF6 : Hid (∀ kk, v6.ownBlock = some kk → w1.heap.size ≤ kk) := (fun kk e => (ho6 kk e).elim (fun h => by cases h) id); have HA6 := Lib.hid (hq6.alloc (.cells #[.int .i64 (s : Int)] 3)); have h6s : w.heap.size ≤ w6.heap.size := HB6.out.size; have h16 : w1.heap.size ≤ w6.heap.size := hg6.size; clear hq6 hg6 ho6)
            go_upto_region 13 with (at_builtin; go_must (refine wpList_append_q _ rfl (.tmp 68) (.tmp 70) 28 rfl w.heap.size 3 i0 (.int .i64 0) 1 8 Tryd.underlying28 hi0 hz0 hz1 hz2 rfl (by decide) _ m (iv (L.take m)) rfl HA6.out ⟨_, 0, none⟩ 1 1 [.int .i64 (s : Int)] rfl rfl (cells_new1 _ _ _) (by simp [Value.oneCell']) (by unfold maxLen; omega) (by omega) (by simp; omega) ?_); intro v7 w7 hq7 hg7 ho7; have HQ7 := Lib.hid hq7; have HB7 : Hid (Below w.heap.size w w7) := Below.grown (HB6.out.alloc h6s _) hg7 (by simp; omega) (fun kk e => (HQ6.out.lt kk e).1); have HR7 : Hid (QRow w7 w.heap.size 3 1 (.slice (some ⟨b, o, none⟩) m c) m (iv L)) := (HR6.out.alloc _).kept hg7 (ne_or (fun kk hk e => by have h1 := (HQ.out.lt kk hk).2; have h2 := HF6.out kk e; omega)); have h7s : w.heap.size ≤ w7.heap.size := HB7.out.size; have HS7 : Hid (∀ ad, Src w7 ad 0 1 (iv (L.drop m))) := (fun ad => ⟨by rw [iv_length, List.length_drop, HL.out]; omega, fun h => absurd rfl h⟩); clear hq7 hg7 ho7)
            go_wp2_with (at_builtin; go_must (refine wpList_append_qq _ rfl (.tmp 72) (.tmp 75) 28 rfl w.heap.size 3 i0 (.int .i64 0) 1 8 Tryd.underlying28 hi0 hz0 hz1 hz2 rfl (by decide) v7 (m + 1) (iv (L.take m) ++ [Value.int .i64 (s : Int)]) rfl HQ7.out _ 0 _ (iv (L.drop m)) rfl (HS7.out _) HO2.out (by unfold maxLen; omega) (by omega) (by omega) ?_); intro v8 w8 hq8 hg8 ho8; have HQ8 : Hid (QRow w8 w.heap.size 3 1 v8 (m + 1) (iv (L.take m ++ [s] ++ L.drop m))) := (by rw [iv_app, iv_app]; have := hq8; rw [show m + 1 + 0 = m + 1 by omega] at this; exact this); have HB8 : Hid (Below w.heap.size w w8) := Below.grown HB7.out hg8 h7s (fun kk e => (HQ7.out.lt kk e).1); clear hq8 hg8 ho8)
            all_goals exact ⟨⟨x + 1, m + 1, _, by omega, int_eq (by omega), HLEN.out, by omega, HPUT, HQ8.out, HB8⟩, by simp [intOf]; omega⟩
    · have g1 : ¬ (x : Int) < (n : Int) := by omega
      obtain rfl : n = x := by omega
      go_wp2
      go_ret
      exact ⟨_, rfl, L, hS.out.all, by rw [HL.out]; exact hq, hB.out⟩
end Go.Proofs.YtgpijajgaclhfaaDoor
namespace Go.Proofs.YtgpijajgaclhfaaDoor
open Go.RowKit Go.Shelf

def IsTO (n : Nat) (ln : Nat → Nat) (r : Nat → Nat → Bool) (a b c d : Int) : Prop := TabOK n ln r ∧ In4 n a b c d ∧ ThreeOne n r a.toNat b.toNat c.toNat d.toNat
set_option maxRecDepth 100000 in
set_option maxHeartbeats 1000000 in
theorem IsThreeOne_any (la : Option Addr) (n lc : Nat) (ln : Nat → Nat) (r : Nat → Nat → Bool) (a b c d : Int) (w : World) (hn : n ≤ 1099511627776) (hT : TblI w la n ln r) :
    Calls Tryd.prog 40 #[.slice la n lc, .agg #[.int .i64 a, .int .i64 b, .int .i64 c, .int .i64 d]] w fun e w' => BoolP (IsTO n ln r a b c d) e ∧ Below w.heap.size w w' := by
  have HB0 : Hid (Below w.heap.size w (w.alloc (.cells #[.int .i64 a, .int .i64 b, .int .i64 c, .int .i64 d] 45))) := (Below.refl _ _).alloc (Nat.le_refl _) _
  have HX0 : Hid (BoxN (w.alloc (.cells #[.int .i64 a, .int .i64 b, .int .i64 c, .int .i64 d] 45)) w.heap.size 45 #[.int .i64 a, .int .i64 b, .int .i64 c, .int .i64 d]) := BoxN.new rfl
  have HC := Lib.hid (open_any la n lc ln r _ hn (hT.below HB0.out (Nat.le_refl _)))
  clear hT
  go_enter Tryd.func40, Tryd.ntmps40
  go_upto_region 1 with (fail)
  generalize w.alloc (.cells #[.int .i64 a, .int .i64 b, .int .i64 c, .int .i64 d] 45) = X at *
  have hbx := HX0.out.lt
  have hwX : w.heap.size ≤ X.heap.size := HB0.out.size
  go_upto_region 2 with (go_at_call 55; refine HC.out.mono ?_; rintro e w1 ⟨ha, hB1⟩; have HB1 := Lib.hid hB1; clear hB1; rcases ha with ⟨rfl, hno⟩ | ⟨B, rfl, hok, hB, hO⟩)
  · have HNO := Lib.hid hno
    clear hno
    go_wp2
    refine bodyPost_ret (v := .bool false) (by simp [results, Tryd.f40, go_sem]) rfl ?_
    exact ⟨BoolP.no fun h => HNO.out h.1, HB0.out.trans (HB1.out.mono hwX)⟩
  · have HOK := Lib.hid hok
    have HO := Lib.hid hO
    have hn1 := hok.n1
    have hn12 := hok.n12
    have HX1 := Lib.hid (HX0.out.below HB1.out hbx)
    have c0 := HX1.out.cell 0
    have c1 := HX1.out.cell 1
    have c2 := HX1.out.cell 2
    have c3 := HX1.out.cell 3
    have HE := Lib.hid (elems_any B n r a b c d w1 hO)
    have hw1 : w.heap.size ≤ w1.heap.size := Nat.le_trans hwX HB1.out.size
    clear hok hO
    by_cases hin : In4 n a b c d
    · have HIN := Lib.hid hin
      obtain ⟨a', rfl⟩ := Int.eq_ofNat_of_zero_le hin.1.1
      obtain ⟨b', rfl⟩ := Int.eq_ofNat_of_zero_le hin.2.1.1
      obtain ⟨c', rfl⟩ := Int.eq_ofNat_of_zero_le hin.2.2.1.1
      obtain ⟨d', rfl⟩ := Int.eq_ofNat_of_zero_le hin.2.2.2.1
      have ha : a' < n := by have := hin.1.2; omega
      have hb : b' < n := by have := hin.2.1.2; omega
      have hc : c' < n := by have := hin.2.2.1.2; omega
      have hd : d' < n := by have := hin.2.2.2.2; omega
      have HTT := Lib.hid (fun W (hW : Below w1.heap.size w1 W) => isTO_any B n r a' b' c' d' W hn12 ha hb hc hd (HO.out.below hW (Nat.le_refl _)))
      have HTI := Lib.hid (to3_iff (r := r) ha hb hc hd)
      generalize to3 n r a' b' c' d' = t at *
      have HE2 : Hid (Calls Tryd.prog 61 #[.pointer (some ⟨B, 0, none⟩), .agg #[.int .i64 (a' : Int), .int .i64 (b' : Int), .int .i64 (c' : Int), .int .i64 (d' : Int)]] w1 fun e w' => e = .returned (.bool true) ∧ Below w1.heap.size w1 w') := HE.out.mono fun e w' h => ⟨h.1.dec (b := true) ⟨fun _ => HIN.out, fun _ => rfl⟩, h.2⟩
      clear hin HE
      have hbw1 : w.heap.size < w1.heap.size := Nat.lt_of_lt_of_le hbx HB1.out.size
      go_wp2_with (first
        | (go_at_call 61; refine HE2.out.mono ?_; rintro e w2 ⟨rfl, hB2⟩; have HB2 := Lib.hid hB2; have HX2 := Lib.hid (HX1.out.below hB2 hbw1); have HT2 := Lib.hid (HTT.out w2 hB2); clear hB2; have e0 := HX2.out.cell 0; have e1 := HX2.out.cell 1; have e2 := HX2.out.cell 2; have e3 := HX2.out.cell 3)
        | (go_at_call 65; refine HT2.out.mono ?_; rintro e w3 ⟨rfl, hB3⟩; have HB3 := Lib.hid hB3; clear hB3))
      refine bodyPost_ret (v := .bool t) (by simp [results, Tryd.f40, go_sem]) rfl ?_
      have hw2 : w1.heap.size ≤ w2.heap.size := HB2.out.size
      refine ⟨⟨t, rfl, fun h => ⟨HOK.out, HIN.out, HTI.out.1 h⟩, fun h => HTI.out.2 h.2.2⟩, HB0.out.trans ((HB1.out.mono hwX).trans ((HB2.out.mono hw1).trans (HB3.out.mono (Nat.le_trans hw1 hw2))))⟩
    · have HE2 : Hid (Calls Tryd.prog 61 #[.pointer (some ⟨B, 0, none⟩), .agg #[.int .i64 a, .int .i64 b, .int .i64 c, .int .i64 d]] w1 fun e w' => e = .returned (.bool false) ∧ Below w1.heap.size w1 w') := HE.out.mono fun e w' h => ⟨h.1.dec (b := false) ⟨(fun h => by cases h), fun h => absurd h hin⟩, h.2⟩
      have HNI := Lib.hid hin
      clear hin HE
      go_wp2_with (go_at_call 61; refine HE2.out.mono ?_; rintro e w2 ⟨rfl, hB2⟩; have HB2 := Lib.hid hB2; clear hB2)
      refine bodyPost_ret (v := .bool false) (by simp [results, Tryd.f40, go_sem]) rfl ?_
      exact ⟨BoolP.no fun h => HNI.out h.2.1, HB0.out.trans ((HB1.out.mono hwX).trans (HB2.out.mono hw1))⟩
end Go.Proofs.YtgpijajgaclhfaaDoor
namespace Go.Proofs.YtgpijajgaclhfaaDoor
open Go.RowKit Go.Shelf

theorem in4_at {n : Nat} {a b c d : Int} : In4 n a b c d ↔ ∀ i, i < 4 → 0 ≤ at4 a b c d i ∧ at4 a b c d i < n := by
  unfold In4
  constructor
  · rintro ⟨h0, h1, h2, h3⟩ i hi
    rcases (show i = 0 ∨ i = 1 ∨ i = 2 ∨ i = 3 by omega) with rfl | rfl | rfl | rfl
    · exact h0
    · exact h1
    · exact h2
    · exact h3
  · intro h
    exact ⟨h 0 (by omega), h 1 (by omega), h 2 (by omega), h 3 (by omega)⟩
set_option maxRecDepth 100000 in
set_option maxHeartbeats 1000000 in
theorem inside_any (la : Option Addr) (n lc : Nat) (a b c d : Int) (w : World) :
    Calls Tryd.prog 60 #[.slice la n lc, .agg #[.int .i64 a, .int .i64 b, .int .i64 c, .int .i64 d]] w fun e w' => BoolP (In4 n a b c d) e ∧ Below w.heap.size w w' := by
  have HB0 : Hid (Below w.heap.size w (w.alloc (.cells #[.int .i64 a, .int .i64 b, .int .i64 c, .int .i64 d] 45))) := (Below.refl _ _).alloc (Nat.le_refl _) _
  have HX0 : Hid (BoxN (w.alloc (.cells #[.int .i64 a, .int .i64 b, .int .i64 c, .int .i64 d] 45)) w.heap.size 45 #[.int .i64 a, .int .i64 b, .int .i64 c, .int .i64 d]) := BoxN.new rfl
  go_enter Tryd.func60, Tryd.ntmps60
  go_upto_region 1 with (fail)
  obtain ⟨b1, hb1⟩ : ∃ b1, Hid (b1 = w.heap.size) := ⟨_, rfl⟩
  rw [← hb1.out] at HX0
  simp only [← hb1.out]
  generalize w.alloc (.cells #[.int .i64 a, .int .i64 b, .int .i64 c, .int .i64 d] 45) = X at *
  have HC : Hid (∀ j, j < 4 → X.cell? ⟨b1, j, none⟩ = some (.int .i64 (at4 a b c d j))) := fun j hj => by
    rw [HX0.out.cell]
    rcases (show j = 0 ∨ j = 1 ∨ j = 2 ∨ j = 3 by omega) with rfl | rfl | rfl | rfl <;> rfl
  have HI : Hid (In4 n a b c d ↔ ∀ i, i < 4 → 0 ≤ at4 a b c d i ∧ at4 a b c d i < n) := in4_at
  clear HX0
  go_upto_region 2 with (fail)
  go_loopw [5] (fun s5 wr => ∃ i : Nat, i ≤ 4 ∧ s5 = .int .i64 (i : Int) ∧ Hid (∀ j, j < i → 0 ≤ at4 a b c d j ∧ at4 a b c d j < n) ∧ Hid (wr = X)) (fun s5 _ => 4 - (intOf s5).toNat)
  case atStart => exact ⟨0, by omega, rfl, (fun j h => by omega), rfl⟩
  case round =>
    obtain ⟨i, hi, rfl, hp, hw⟩ := hrel
    rw [hw.out]
    clear hw
    by_cases hi4 : i < 4
    · have g1 : (i : Int) < 4 := by omega
      have g2 : (0 : Int) ≤ (i : Int) := by omega
      have k1 := HC.out i hi4
      obtain ⟨v, hv⟩ : ∃ v, Hid (v = at4 a b c d i) := ⟨_, rfl⟩
      rw [← hv.out] at k1
      by_cases h1 : v < 0
      · have HNO : Hid (¬ In4 n a b c d) := fun h => by have := (HI.out.1 h i hi4).1; rw [← hv.out] at this; omega
        go_wp2
        go_ret
        exact ⟨BoolP.no HNO.out, HB0.out⟩
      · have q1 : decide (v < 0) = false := by simpa using h1
        by_cases h2 : (n : Int) ≤ v
        · have HNO : Hid (¬ In4 n a b c d) := fun h => by have := (HI.out.1 h i hi4).2; rw [← hv.out] at this; omega
          go_wp2
          go_ret
          exact ⟨BoolP.no HNO.out, HB0.out⟩
        · have HN : Hid (∀ j, j < i + 1 → 0 ≤ at4 a b c d j ∧ at4 a b c d j < n) := fun j hj => by
            by_cases e : j = i
            · subst e; rw [← hv.out]; omega
            · exact hp.out j (by omega)
          go_wp2
          exact ⟨⟨i + 1, by omega, int_eq (by omega), HN, True.intro⟩, by simp [intOf]; omega⟩
    · have g1 : ¬ (i : Int) < 4 := by omega
      obtain rfl : i = 4 := by omega
      have HY := Lib.hid (HI.out.2 hp.out)
      go_wp2
      go_ret
      exact ⟨BoolP.yes HY.out, HB0.out⟩
/-- one element of a table -/
theorem TblI.at {W : World} {la : Option Addr} {n : Nat} {r : Nat → Nat → Bool} (h : TblI W la n (fun _ => n) r) {x : Nat} (hx : x < n) : ∃ b o p o2 c, la = some ⟨b, o, none⟩ ∧ b < W.heap.size ∧ p < W.heap.size ∧ W.cell? ⟨b, o + x, none⟩ = some (.slice (some ⟨p, o2, none⟩) n c) ∧ ∀ y, y < n → W.cell? ⟨p, o2 + y, none⟩ = some (.bool (r x y)) := by
  obtain ⟨b, o, e, hb, hr⟩ := h (by omega)
  obtain ⟨p, c, h1, h2⟩ := hr x hx
  obtain ⟨b2, o2, rfl, hb2, hc⟩ := h2 (by show n ≠ 0; omega)
  exact ⟨b, o, b2, o2, c, e, hb, hb2, h1, hc⟩
/-- overlapping, as the document has it -/
def ovB (r : Nat → Nat → Bool) (x y : Nat) : Bool := !decide (x = y) && !r x y && !r y x
theorem ovB_iff {r : Nat → Nat → Bool} {x y : Nat} : ovB r x y = true ↔ Ovl r x y := by
  unfold ovB Ovl; simp [and_assoc]
set_option maxRecDepth 100000 in
theorem overlap_any (la : Option Addr) (n lc x y : Nat) (r : Nat → Nat → Bool) (w : World) (hn : n ≤ 1000) (hx : x < n) (hy : y < n) (hT : TblI w la n (fun _ => n) r) :
    Calls Tryd.prog 48 #[.slice la n lc, .int .i64 (x : Int), .int .i64 (y : Int)] w fun e w' => e = .returned (.bool (ovB r x y)) ∧ w' = w := by
  obtain ⟨b, o, p, o2, c, rfl, hb, hp, k1, hc1⟩ := hT.at hx
  obtain ⟨b', o', p', o2', c', e, hb', hp', k2, hc2⟩ := hT.at hy
  cases e
  have k3 := hc1 y hy
  have k4 := hc2 x hx
  have hov : Hid (ovB r x y = (!decide (x = y) && !r x y && !r y x)) := rfl
  clear hT hc1 hc2
  generalize r x y = u1 at *
  generalize r y x = u2 at *
  have g1 : (x : Int) < (n : Int) := by omega
  have g2 : (0 : Int) ≤ (x : Int) := by omega
  have g3 : (y : Int) < (n : Int) := by omega
  have g4 : (0 : Int) ≤ (y : Int) := by omega
  by_cases h1 : x = y
  · have q1 : ((x : Int) != (y : Int)) = false := by rw [h1]; simp
    have HV : Hid (ovB r x y = false) := by unfold Hid; rw [hov.out, h1]; simp
    clear h1 hov
    go_enter Tryd.func48, Tryd.ntmps48
    go_wp2
    go_ret
    exact ⟨ret_bool HV.out.symm, rfl⟩
  · have q1 : ((x : Int) != (y : Int)) = true := by rw [bne_iff_ne]; omega
    have HV : Hid (ovB r x y = (!u1 && !u2)) := by unfold Hid; rw [hov.out]; simp [h1]
    clear h1 hov
    cases u1
    · cases u2
      all_goals
        go_enter Tryd.func48, Tryd.ntmps48
        go_wp2
        go_ret
        exact ⟨ret_bool HV.out.symm, rfl⟩
    · go_enter Tryd.func48, Tryd.ntmps48
      go_wp2
      go_ret
      exact ⟨ret_bool HV.out.symm, rfl⟩
end Go.Proofs.YtgpijajgaclhfaaDoor
