/- The program's colours, and rows of sets that a call makes: walks. The program's least number of colours: a walk. The reference's list of a graph's edges: a walk that says which pairs they are. -/
import Derived.Laws.EntriesVeiled
import Derived.Test.YtbioondlmgolkaaDoorG329
import Derived.Test.YtbioondlmgolkaaDoorG328
import Derived.Test.YtbioondlmgolkaaDoorG321
set_option linter.unusedVariables false
set_option linter.unusedSimpArgs false
namespace Go.Proofs.YtbioondlmgolkaaDoor.Hu
open Go.RowKit Go.Shelf

theorem Boxed.keep {W W' : World} {k B : Nat} {t : TypeId} {v : Value} (h : Boxed W B t v) (hB : Below k W W') (hk : B < k) : Boxed W' B t v := (hB.block B hk).trans h
theorem boxN_at {W : World} {B : Nat} {t : TypeId} {vs : Array Value} (h : B = W.heap.size) : BoxN (W.alloc (.cells vs t)) B t vs := by rw [h]; exact BoxN.new rfl
theorem ColPre.zero (g o : List Nat) (L c : Nat → Nat) : ColPre g o L 0 c := fun i hi => by omega
/-- what the trials of all colours answer -/
def ColsP (g : List Nat) (L : Nat → Nat) (n : Nat) (w : World) (e : Ending) (w' : World) : Prop :=
  (e = .returned (.tuple #[.slice none 0 0, .bool false]) ∧ ¬ (∃ c, ColOK g n L c)) ∨ ∃ ob c, e = .returned (.tuple #[.slice (some ⟨ob, 0, none⟩) n n, .bool true]) ∧ w.heap.size ≤ ob ∧ RowB w' ob n (fun v => (c v : Int)) ∧ (∀ v, c v < 64) ∧ ColOK g n L c
set_option maxRecDepth 100000 in
set_option maxHeartbeats 4000000 in
theorem colours_any (G n : Nat) (a : Option Addr) (cap len : Nat) (g : List Nat) (lb lq lc : Nat) (L : Nat → Nat) (w : World) (hT : Tab w) (hg : GraphAt w G n a cap len g) (hsm : ∀ i : Nat, Sm (g[i]?.getD 0)) (U : Und g n) (hn1 : 1 ≤ n) (hn : n ≤ 16) (hL : ∀ v, L v < 18446744073709551616)
    (hrL : lb < w.heap.size ∧ ∀ v, v < n → w.cell? ⟨lb, lq + v, none⟩ = some (.int .u64 (L v : Nat))) :
    Calls Tryd.prog 18 #[.pointer (some ⟨G, 0, none⟩), .slice (some ⟨lb, lq, none⟩) n lc] w fun e w' => ColsP g L n w e w' ∧ Below w.heap.size w w' := by
  have HO := Lib.hid (fun W hB => order_any G n a cap len g W (hg.below (w := w) (W := W) (k := w.heap.size) hB (Nat.le_refl _)) hsm hn)
  have HG := Lib.hid hg
  have HT := Lib.hid hT
  have HU := Lib.hid U
  have HS := Lib.hid hsm
  have HL := Lib.hid hL
  have HR := Lib.hid hrL
  obtain ⟨vs0, hv1, hv2, HMK⟩ := make_30 n (by omega)
  have HV2 := Lib.hid hv2
  have HV1 := Lib.hid hv1
  have hG1 := hg.lt
  have hl1 := hrL.1
  have hn' := hg.n
  clear hg hT U hsm hL hrL hv1 hv2
  go_enter Tryd.func18, Tryd.ntmps18
  go_upto_region 2 with (go_at_call 29; refine (HO.out _ (((Below.refl _ w).alloc (Nat.le_refl _) _).alloc (by simp) _)).mono ?_; rintro e w1 ⟨v1, rfl, hq1, hb1⟩; obtain ⟨qb, qo, qc, rfl, hqb, hqlt, hnq, hqm, hqc, -⟩ := hq1.at (by omega); have HB1 := Lib.hid hb1; have HQC := Lib.hid hqc; clear hq1 hb1 hqc)
  have k0 := Boxed.keep ((boxed_at (W := w) (B := w.heap.size) (t := 51) (v := .pointer (some ⟨G, 0, none⟩)) rfl).alloc (.cells #[.slice (some ⟨lb, lq, none⟩) n lc] 54)) HB1.out (by simp; omega)
  have k1 := Boxed.keep (boxed_at (W := w.alloc (.cells #[.pointer (some ⟨G, 0, none⟩)] 51)) (B := w.heap.size + 1) (t := 54) (v := .slice (some ⟨lb, lq, none⟩) n lc) (by simp)) HB1.out (by simp)
  have hBw : Below w.heap.size w w1 := (((Below.refl _ w).alloc (Nat.le_refl _) _).alloc (by simp) _).trans (HB1.out.mono (by simp; omega))
  have hsz1 : w.heap.size + 2 ≤ w1.heap.size := by have := HB1.out.size; simpa using this
  have K0 := Lib.hid k0
  have K1 := Lib.hid k1
  have HBW := Lib.hid hBw
  have hn1' := (hBw.cell (p := ⟨G, 0, none⟩) hG1).trans hn'
  obtain ⟨s, hs⟩ : ∃ s, Hid (s = w1.heap.size) := ⟨_, rfl⟩
  have hGs : G < s := by rw [hs.out]; omega
  have hws : w.heap.size + 2 ≤ s := by rw [hs.out]; omega
  have hBV : Below w.heap.size w (w1.alloc (.cells #[.slice (some ⟨qb, qo, none⟩) n qc] 30)) := hBw.alloc hBw.size _
  have hV1 : Below w1.heap.size w1 (w1.alloc (.cells #[.slice (some ⟨qb, qo, none⟩) n qc] 30)) := (Below.refl _ w1).alloc (Nat.le_refl _) _
  have kl := boxed_at (W := w1) (B := s) (t := 30) (v := .slice (some ⟨qb, qo, none⟩) n qc) hs.out
  have hsV : (w1.alloc (.cells #[.slice (some ⟨qb, qo, none⟩) n qc] 30)).heap.size = s + 1 := by rw [hs.out]; simp
  have kG := k0.alloc (.cells #[.slice (some ⟨qb, qo, none⟩) n qc] 30)
  have kL := k1.alloc (.cells #[.slice (some ⟨qb, qo, none⟩) n qc] 30)
  have hqlt2 : qb < s := by rw [hs.out]; exact hqlt
  rw [← hs.out] at hV1 ⊢
  generalize (w1.alloc (.cells #[.slice (some ⟨qb, qo, none⟩) n qc] 30)) = V at *
  have hcV := (hBV.cell (p := ⟨G, 0, none⟩) hG1).trans hn'
  have HQV : Hid (∀ i, i < n → V.cell? ⟨qb, qo + i, none⟩ = some (.int .i64 (nth (ordL g n) i : Nat))) := fun i hi => by
    refine (hV1.cell (p := ⟨qb, qo + i, none⟩) hqlt2).trans ((HQC.out i (by omega)).trans ?_)
    unfold nth
    have hl : (ordL g n).length = n := by simp [ordL]
    have e : (iv (ordL g n))[i]? = some (.int .i64 ((ordL g n)[i]?.getD 0 : Nat)) := by
      unfold iv; rw [List.getElem?_map, List.getElem?_eq_getElem (by omega)]; rfl
    exact e
  have HBV := Lib.hid hBV
  have kGc := kG.cell
  have KL := Lib.hid kL
  have KG := Lib.hid kG
  have Kl := Lib.hid kl
  have gV : G < V.heap.size := by omega
  clear hn' hn1' k0 k1 hBw K0 K1 HQC HB1 HBW kl kL kG hBV hV1 hqb hqlt hsz1 
  go_upto_region 4 with (fail)
  have y1 := (((boxN_at (W := V) (B := s + 1) (t := 3) (vs := vs0) hsV.symm).alloc (.cells #[.slice (some ⟨s + 1, 0, none⟩) n n] 30)).alloc (.cells #[.nilFunc] 58))
  have y2 := (boxed_at (W := V.alloc (.cells vs0 3)) (B := s + 1 + 1) (t := 30) (v := .slice (some ⟨s + 1, 0, none⟩) n n) (by simp [hsV])).alloc (.cells #[.nilFunc] 58)
  have y3 := boxed_at (W := (V.alloc (.cells vs0 3)).alloc (.cells #[.slice (some ⟨s + 1, 0, none⟩) n n] 30)) (B := s + 1 + 1 + 1) (t := 58) (v := .nilFunc) (by simp [hsV])
  have yB : Below V.heap.size V (((V.alloc (.cells vs0 3)).alloc (.cells #[.slice (some ⟨s + 1, 0, none⟩) n n] 30)).alloc (.cells #[.nilFunc] 58)) := (((Below.refl _ V).alloc (Nat.le_refl _) _).alloc (by simp) _).alloc (by simp; omega) _
  have yS : (((V.alloc (.cells vs0 3)).alloc (.cells #[.slice (some ⟨s + 1, 0, none⟩) n n] 30)).alloc (.cells #[.nilFunc] 58)).heap.size = s + 1 + 1 + 1 + 1 := by simp [hsV]
  generalize (((V.alloc (.cells vs0 3)).alloc (.cells #[.slice (some ⟨s + 1, 0, none⟩) n n] 30)).alloc (.cells #[.nilFunc] 58)) = X at *
  have Y1 := Lib.hid y1
  have Y2 := Lib.hid y2
  have Y3 := Lib.hid y3
  have YB := Lib.hid yB
  have y3c := y3.cell
  have y3f := y3.frozen
  clear y1 y2 y3 yB hcV kGc HMK
  go_upto_region 5 with (fail)
  obtain ⟨fv, hfv⟩ : ∃ fv, fv = Value.func (.func 30) #[] #[.pointer (some ⟨s, 0, none⟩), .pointer (some ⟨w.heap.size + 1, 0, none⟩), .pointer (some ⟨w.heap.size, 0, none⟩), .pointer (some ⟨s + 1 + 1, 0, none⟩), .pointer (some ⟨s + 1 + 1 + 1, 0, none⟩)] := ⟨_, rfl⟩
  rw [← hfv]
  have x3 := Y3.out.set fv
  have xB : Below V.heap.size V (X.setCell ⟨s + 1 + 1 + 1, 0, none⟩ fv) := YB.out.setCell (p := ⟨s + 1 + 1 + 1, 0, none⟩) (by simp [hsV]) _
  have x2 := Y2.out.other (B' := s + 1 + 1 + 1) (by omega) fv
  have x1 : BoxN (X.setCell ⟨s + 1 + 1 + 1, 0, none⟩ fv) (s + 1) 3 vs0 := Y1.out.other (by simp) fv
  have xS : (X.setCell ⟨s + 1 + 1 + 1, 0, none⟩ fv).heap.size = s + 1 + 1 + 1 + 1 := by simp [yS]
  generalize (X.setCell ⟨s + 1 + 1 + 1, 0, none⟩ fv) = Z at *
  have hBZ : Below w.heap.size w Z := HBV.out.trans (xB.mono HBV.out.size)
  have hne : s ≠ s + 1 ∧ w.heap.size + 1 ≠ s + 1 ∧ w.heap.size ≠ s + 1 ∧ s + 1 + 1 ≠ s + 1 ∧ s + 1 + 1 + 1 ≠ s + 1 ∧ qb ≠ s + 1 ∧ lb ≠ s + 1 ∧ G ≠ s + 1 ∧ 0 ≠ s + 1 := by omega
  have hCB : Hid (CBase Z s (w.heap.size + 1) w.heap.size (s + 1 + 1) (s + 1 + 1 + 1) G qb qo qc lb lq lc (s + 1) n a cap len g (ordL g n) L) :=
    ⟨Boxed.keep Kl.out xB (by omega), Boxed.keep KL.out xB (by omega), Boxed.keep KG.out xB (by omega), x2, hfv ▸ x3, ⟨by omega, fun i hi => (xB.cell (p := ⟨qb, qo + i, none⟩) (by simp; omega)).trans (HQV.out i hi)⟩, ⟨by omega, fun v hv => (hBZ.cell (p := ⟨lb, lq + v, none⟩) hl1).trans (HR.out.2 v hv)⟩, HG.out.below hBZ (Nat.le_refl _), HT.out.below hBZ (Nat.le_refl _), hnq, hne⟩
  have hRB : Hid (RowB Z (s + 1) n (fun v => (((fun _ => 0 : Nat → Nat) v : Nat) : Int))) := ⟨vs0, x1, HV1.out, fun j hj => HV2.out j hj⟩
  have HTR := Lib.hid (try_any HU.out (ordOK g n) hn HS.out HL.out n 0 (by omega) Z (fun _ => 0) hCB.out hRB.out (ColPre.zero _ _ _ _) (fun _ => by omega))
  have x3c := x3.cell
  have x2c := x2.cell
  have HBZ := Lib.hid hBZ
  have HFV := Lib.hid hfv
  have X2 := Lib.hid x2
  clear hfv x3 x2 x1 xB hBZ hne hsV xS y3c y3f
  rw [HFV.out] at x3c
  go_upto_if 23 with (go_at_call 30; refine (HTR.out).mono ?_; rintro e w6 ⟨b6, c6, rfl, hag6, hR6, hc6, hsm6, ht6, hf6⟩; have HA6 := Lib.hid hag6; have HR6 := Lib.hid hR6; have HC6 := Lib.hid hc6; have HT6 := Lib.hid ht6; have HF6 := Lib.hid hf6; clear hag6 hR6 hc6 hsm6 ht6 hf6)
  have X6 := Lib.hid (HA6.out.boxed X2.out (by omega))
  have x6c := X6.out.cell
  have HB6 := Lib.hid (HA6.out.below HBZ.out HBZ.out.size (fun k hk e => by omega))
  clear x2c x3c
  cases b6 with
  | false =>
    go_wp2
    refine bodyPost_ret (v := .tuple #[.slice none 0 0, .bool false]) (by simp [results, Tryd.f18, go_sem]) rfl ?_
    exact ⟨.inl ⟨rfl, fun ⟨c, hc⟩ => (show ¬ ColExt g n (ordL g n) L 0 (fun _ => 0) from (by first | exact HF6.out rfl | exact HF6.out trivial)) ⟨c, hc, fun i hi => by omega⟩⟩, HB6.out⟩
  | true =>
    go_wp2
    refine bodyPost_ret (v := .tuple #[.slice (some ⟨s + 1, 0, none⟩) n n, .bool true]) (by simp [results, Tryd.f18, go_sem]) rfl ?_
    exact ⟨.inr ⟨s + 1, c6, rfl, by omega, HR6.out, HC6.out, (by first | exact HT6.out rfl | exact HT6.out trivial)⟩, HB6.out⟩
end Go.Proofs.YtbioondlmgolkaaDoor.Hu
namespace Go.Proofs.YtbioondlmgolkaaDoor.Hu
open Go.RowKit Go.Shelf

theorem info55 : (Tryd.prog.info? 55).map (fun i => (i.zero, i.size, i.bytes)) = some (some (.int .u64 0), 1, 8) := by kernel_rfl
theorem make_54 (n : Nat) (hn : n ≤ 1099511627776) : ∃ vs : Array Value, vs.size = n ∧ (∀ j, j < n → vs[j]? = some (.int .u64 0)) ∧
    ∀ W, Sem.run Tryd.prog (Instr.makeSlice 54 (.int .i64 (n : Int)) (.int .i64 (n : Int))) W = .ok (.slice (some ⟨W.heap.size, 0, none⟩) n n) (W.alloc (.cells vs 55)) := by
  obtain ⟨i0, hi, hz0, hz1, hz2⟩ := info_parts info55
  refine ⟨madeCells #[.int .u64 0] n, size_madeCells _ _, fun j hj => ?_, fun W => ?_⟩
  · rw [← Array.getElem?_toList, toList_madeCells_one, List.getElem?_replicate, if_pos hj]
  · have := run_make (P := Tryd.prog) W 54 55 i0 _ Tryd.underlying54 hi hz0 .i64 .i64 (n : Int) (n : Int) (by omega) (Int.le_refl _) (by rw [hz2]; omega) (by omega)
    rw [hz1, show (Value.int .u64 0).cells = #[.int .u64 0] from rfl] at this
    simpa using this
/-- block B is a row of n sets of 64 -/
def RowUB (W : World) (B n : Nat) (f : Nat → Nat) : Prop := ∃ vs, BoxN W B 55 vs ∧ vs.size = n ∧ ∀ j, j < n → vs[j]? = some (.int .u64 (f j : Nat))
section
variable {W W' : World} {B n : Nat} {f f' : Nat → Nat}
theorem RowUB.lt (h : RowUB W B n f) : B < W.heap.size := h.elim fun _ h => h.1.lt
theorem RowUB.cell (h : RowUB W B n f) {x : Nat} (hx : x < n) : W.cell? ⟨B, x, none⟩ = some (.int .u64 (f x : Nat)) := by
  obtain ⟨vs, h1, h2, h3⟩ := h
  rw [h1.cell]; exact h3 x hx
theorem RowUB.frozen (h : RowUB W B n f) (x : Nat) : W.frozen? ⟨B, x, none⟩ = false := by
  obtain ⟨vs, h1, _⟩ := h
  exact h1.frozen x
theorem RowUB.block (h : RowUB W B n f) (hb : W'.heap[B]? = W.heap[B]?) : RowUB W' B n f := by
  obtain ⟨vs, h1, h2⟩ := h
  exact ⟨vs, hb.trans h1, h2⟩
theorem RowUB.below {k : Nat} (h : RowUB W B n f) (hB : Below k W W') (hk : B < k) : RowUB W' B n f := h.block (hB.block B hk)
theorem RowUB.set (h : RowUB W B n f) {x : Nat} (v : Nat) : RowUB (W.setCell ⟨B, x, none⟩ (.int .u64 (v : Int))) B n (fun j => if j = x then v else f j) := by
  obtain ⟨vs, h1, h2, h3⟩ := h
  refine ⟨_, h1.set x (.int .u64 (v : Int)), by simpa using h2, fun j hj => ?_⟩
  by_cases e : j = x
  · subst e; rw [Array.getElem?_setIfInBounds_self_of_lt (by omega)]; simp
  · rw [Array.getElem?_setIfInBounds_ne (Ne.symm e)]; simp only [if_neg e]; exact h3 j hj
theorem RowUB.congr (h : RowUB W B n f) (e : ∀ x, x < n → f x = f' x) : RowUB W B n f' := by
  obtain ⟨vs, h1, h2, h3⟩ := h
  exact ⟨vs, h1, h2, fun j hj => by rw [h3 j hj, e j hj]⟩
end
/-- the first k hues -/
def low (k : Nat) : Nat := 2 ^ k - 1
theorem low_bit (k j : Nat) : (low k).testBit j = decide (j < k) := Nat.testBit_two_pow_sub_one k j
theorem low_lt {k : Nat} (h : k ≤ 63) : low k < 18446744073709551616 := by
  have := Nat.pow_le_pow_right (n := 2) (by decide) h
  unfold low; omega
theorem low_cast {k : Nat} (hk : k ≤ 63) : IntKind.u64.wrap ((2 : Int) ^ k - 1) = ((low k : Nat) : Int) := by
  have h1 := Nat.one_le_two_pow (n := k)
  have h2 := low_lt hk
  rw [show (2 : Int) ^ k = ((2 ^ k : Nat) : Int) by simp, show ((2 ^ k : Nat) : Int) - 1 = ((low k : Nat) : Int) by unfold low; omega]
  exact u64_same _ h2
/-- k colours are enough -/
def ColK (g : List Nat) (n k : Nat) : Prop := ∃ c, ColOK g n (fun _ => low k) c
theorem colK_self {g : List Nat} {n : Nat} (U : Und g n) : ColK g n n := ⟨fun v => v, fun v hv => by rw [low_bit]; simpa using hv, fun v w ha => U.ne _ _ ha⟩
/-- k is the least number of colours -/
def ChrIs (g : List Nat) (n k : Nat) : Prop := 1 ≤ k ∧ ColK g n k ∧ ∀ j, 1 ≤ j → j < k → ¬ ColK g n j
/-- what is returned -/
def ChrP (g : List Nat) (n : Nat) (w : World) (e : Ending) (w' : World) : Prop := ∃ k ob c, e = .returned (.tuple #[.int .i64 (k : Nat), .slice (some ⟨ob, 0, none⟩) n n, .int .i64 0]) ∧ ChrIs g n k ∧ w.heap.size ≤ ob ∧ RowB w' ob n (fun v => (c v : Int)) ∧ (∀ v, c v < 64) ∧ ColOK g n (fun _ => low k) c
set_option maxRecDepth 100000 in
set_option maxHeartbeats 4000000 in
theorem Chromatic_ok (n : Nat) (a : Option Addr) (cap : Nat) (ps : List (Int × Int)) (w : World) (hT : Tab w) (hG : Good n ps a w) (hn10 : n ≤ 10) :
    Calls Tryd.prog 8 #[.int .i64 (n : Int), .slice a ps.length cap] w fun e w' => ChrP (ofE n ps) n w e w' ∧ Below w.heap.size w w' := by
  have HO := Lib.hid (gopen_ok n a cap ps w hG.hl hG.hg hG.n1 hG.n2 hG.ok)
  have HU := Lib.hid (und_ofE hG.ok)
  have HSM := Lib.hid (ofE_sm hG.n2 hG.ok)
  have HT := Lib.hid hT
  have hn1 := hG.n1
  obtain ⟨g, hg⟩ : ∃ g, Hid (g = ofE n ps) := ⟨_, rfl⟩
  rw [← hg.out] at HO HU HSM ⊢
  obtain ⟨vs0, hv1, hv2, HMK⟩ := make_54 n (by omega)
  have HV1 := Lib.hid hv1
  have HV2 := Lib.hid hv2
  have hnn : ¬ 10 < (n : Int) := by omega
  have hnd : decide (10 < (n : Int)) = false := decide_eq_false hnn
  clear hT hG hv1 hv2
  go_enter Tryd.func8, Tryd.ntmps8
  go_upto_region 7 with (first
    | (go_at_call 17; refine HO.out.mono ?_; rintro e w1 ⟨B, rfl, hBl, hg1, hb1⟩; have HG1 := Lib.hid hg1; have HB1 := Lib.hid hb1; clear hBl hg1 hb1))
  go_loopw [9] (fun s9 wr => ∃ k : Nat, 1 ≤ k ∧ k ≤ n ∧ s9 = .int .i64 (k : Int) ∧ Hid (Below w1.heap.size w1 wr) ∧ Hid (∀ j, 1 ≤ j → j < k → ¬ ColK g n j)) (fun s9 _ => 40 - (intOf s9).toNat)
  case atStart => exact ⟨1, by omega, by omega, rfl, Below.refl _ _, fun j h1 h2 => by omega⟩
  case round =>
    obtain ⟨k, hk1, hkn, rfl, hB, hno⟩ := hrel
    obtain ⟨wo, hwo⟩ : ∃ wo, Hid (wo = wr) := ⟨_, rfl⟩
    rw [← hwo.out] at hB ⊢
    clear hwo
    go_upto_region 9 with (fail)
    obtain ⟨b, hb⟩ : ∃ b, Hid (b = wo.heap.size) := ⟨_, rfl⟩
    have hR0 : RowUB (wo.alloc (.cells vs0 55)) b n (fun _ => 0) := ⟨vs0, boxN_at hb.out, HV1.out, fun j hj => HV2.out j hj⟩
    have hBV : Below wo.heap.size wo (wo.alloc (.cells vs0 55)) := (Below.refl _ _).alloc (Nat.le_refl _) _
    rw [← hb.out] at hBV ⊢
    generalize (wo.alloc (.cells vs0 55)) = V at *
    have HR0 := Lib.hid hR0
    have HBV := Lib.hid hBV
    have hk63 : k ≤ 63 := by omega
    have hpw := pow64 k (by omega)
    have hwk : IntKind.u64.wrap (k : Int) = (k : Int) := u64_same _ (by omega)
    have hlw : IntKind.u64.wrap ((2 : Int) ^ k - 1) = ((low k : Nat) : Int) := low_cast hk63
    clear hR0 hBV
    go_upto_region 10 with (fail)
    go_loopw [31] (fun s31 wq => ∃ j : Nat, j ≤ n ∧ s31 = .int .i64 (j : Int) ∧ Hid (RowUB wq b n (fun v => if v < j then low k else 0)) ∧ Hid (Ag (fun x => x = b) V wq)) (fun s31 _ => 40 - (intOf s31).toNat)
    case atStart => exact ⟨0, by omega, rfl, HR0.out.congr fun x _ => by simp, Ag.refl _ _⟩
    case round =>
      obtain ⟨j, hj, rfl, hR, hA⟩ := hrel
      by_cases hjn : j < n
      · have h1 : (j : Int) < (n : Int) := by omega
        have h2 : (0 : Int) ≤ (j : Int) := by omega
        have hf := hR.out.frozen j
        have hc := hR.out.cell hjn
        have HRN : Hid (RowUB (wr.setCell ⟨b, j, none⟩ (.int .u64 ((low k : Nat) : Int))) b n (fun v => if v < j + 1 then low k else 0)) := (hR.out.set (low k)).congr fun x _ => by
          by_cases e : x = j
          · subst e; simp
          · rw [if_neg e]
            by_cases h : x < j
            · rw [if_pos h, if_pos (by omega)]
            · rw [if_neg h, if_neg (by omega)]
        have HAN := Lib.hid (hA.out.set ⟨b, j, none⟩ (.int .u64 ((low k : Nat) : Int)) (.inr rfl))
        go_wp2
        exact ⟨⟨j + 1, by omega, int_eq (by omega), HRN, HAN⟩, by simp [intOf]; omega⟩
      · have h1 : ¬ (j : Int) < (n : Int) := by omega
        have hje : j = n := by omega
        have hRL : RowUB wr b n (fun _ => low k) := hR.out.congr fun x hx => by rw [if_pos (by omega)]
        have hVs : b < V.heap.size := HR0.out.lt
        have hBr : Below wo.heap.size wo wr := hA.out.below (by rw [← hb.out]; exact HBV.out) (by rw [← hb.out]; omega) (fun x hx e => by have := hb.out; omega)
        have hB1r := hB.out.trans (hBr.mono hB.out.size)
        have hBwr := HB1.out.trans (hB1r.mono HB1.out.size)
        have HC := Lib.hid (colours_any B n a cap ps.length g b 0 n (fun _ => low k) wr (HT.out.below hBwr (Nat.le_refl _)) (HG1.out.below hB1r (Nat.le_refl _)) HSM.out HU.out hn1 (by omega) (fun _ => low_lt hk63) ⟨hRL.lt, fun v hv => by rw [Nat.zero_add]; exact hRL.cell hv⟩)
        have HB1R := Lib.hid hB1r
        have HBWR := Lib.hid hBwr
        clear hB1r hBwr hBr hRL hR hA hje hVs
        go_upto_if 48 with (go_at_call 18; refine (HC.out).mono ?_; rintro e w6 ⟨hcp, hb6⟩; have HB6 := Lib.hid (HB1R.out.trans (hb6.mono HB1R.out.size)); have HB7 := Lib.hid (HBWR.out.trans (hb6.mono HBWR.out.size)); clear hb6; rcases hcp with ⟨rfl, hcn⟩ | ⟨ob, c6, rfl, hob, hrb, hc64, hok⟩)
        · have hkn2 : k < n := Nat.lt_of_le_of_ne hkn fun e => hcn (by rw [e]; exact colK_self HU.out)
          have HNO : Hid (∀ j, 1 ≤ j → j < k + 1 → ¬ ColK g n j) := fun j h1 h2 => by
            by_cases e : j = k
            · subst e; exact hcn
            · exact hno.out j h1 (by omega)
          clear hcn
          go_wp2
          exact ⟨⟨k + 1, by omega, by omega, int_eq (by omega), HB6, HNO⟩, by simp [intOf]; omega⟩
        · have HK : Hid (ColOK g n (fun _ => low k) c6) := hok
          have HRB := Lib.hid hrb
          have HC6 := Lib.hid hc64
          have hobw : w.heap.size ≤ ob := Nat.le_trans HBWR.out.size hob
          clear hok hrb hc64 hob
          go_wp2
          refine bodyPost_ret (v := .tuple #[.int .i64 (k : Nat), .slice (some ⟨ob, 0, none⟩) n n, .int .i64 0]) (by simp [results, Tryd.f8, go_sem]) rfl ?_
          exact ⟨⟨k, ob, c6, rfl, ⟨hk1, ⟨c6, HK.out⟩, hno.out⟩, hobw, HRB.out, HC6.out, HK.out⟩, HB7.out⟩
end Go.Proofs.YtbioondlmgolkaaDoor.Hu
namespace Go.Proofs.YtbioondlmgolkaaDoor.Hu
open Go.RowKit Go.Shelf

/-- what has been listed before (i, j) -/
def EdM (g : List Nat) (n i j : Nat) (ps : List (Int × Int)) : Prop := ∀ e, e ∈ ps ↔ ∃ a b : Nat, e = ((a : Int), (b : Int)) ∧ a < b ∧ b < n ∧ (g[a]?.getD 0).testBit b = true ∧ (a < i ∨ (a = i ∧ b < j))
theorem EdM.nil (g : List Nat) (n : Nat) : EdM g n 0 0 [] := fun e => Iff.intro (fun h => by cases h) (fun ⟨a, b, _, _, _, _, h⟩ => by omega)
theorem EdM.start {g : List Nat} {n i : Nat} {ps : List (Int × Int)} (h : EdM g n i 0 ps) : EdM g n i (i + 1) ps := fun e => (h e).trans
  ⟨fun ⟨a, b, h1, h2, h3, h4, h5⟩ => ⟨a, b, h1, h2, h3, h4, by omega⟩, fun ⟨a, b, h1, h2, h3, h4, h5⟩ => ⟨a, b, h1, h2, h3, h4, by omega⟩⟩
theorem EdM.no {g : List Nat} {n i j : Nat} {ps : List (Int × Int)} (h : EdM g n i j ps) (hb : (g[i]?.getD 0).testBit j = false) : EdM g n i (j + 1) ps := fun e => (h e).trans
  ⟨fun ⟨a, b, h1, h2, h3, h4, h5⟩ => ⟨a, b, h1, h2, h3, h4, by omega⟩, fun ⟨a, b, h1, h2, h3, h4, h5⟩ => ⟨a, b, h1, h2, h3, h4, by
    rcases h5 with h5 | ⟨h5, h6⟩
    · exact .inl h5
    · refine .inr ⟨h5, ?_⟩
      by_cases e2 : b = j
      · subst e2; subst h5; rw [hb] at h4; cases h4
      · omega⟩⟩
theorem EdM.snoc {g : List Nat} {n i j : Nat} {ps : List (Int × Int)} (h : EdM g n i j ps) (hij : i < j) (hj : j < n) (hb : (g[i]?.getD 0).testBit j = true) : EdM g n i (j + 1) (ps ++ [((i : Int), (j : Int))]) := fun e => by
  rw [List.mem_append, List.mem_singleton, h e]
  constructor
  · rintro (⟨a, b, h1, h2, h3, h4, h5⟩ | rfl)
    · exact ⟨a, b, h1, h2, h3, h4, by omega⟩
    · exact ⟨i, j, rfl, hij, hj, hb, .inr ⟨rfl, by omega⟩⟩
  · rintro ⟨a, b, h1, h2, h3, h4, h5⟩
    by_cases e2 : a = i ∧ b = j
    · rw [e2.1, e2.2] at h1; exact .inr h1
    · exact .inl ⟨a, b, h1, h2, h3, h4, by omega⟩
theorem EdM.row {g : List Nat} {n i : Nat} {ps : List (Int × Int)} (h : EdM g n i n ps) : EdM g n (i + 1) 0 ps := fun e => (h e).trans
  ⟨fun ⟨a, b, h1, h2, h3, h4, h5⟩ => ⟨a, b, h1, h2, h3, h4, by omega⟩, fun ⟨a, b, h1, h2, h3, h4, h5⟩ => ⟨a, b, h1, h2, h3, h4, by omega⟩⟩
/-- the edges' graph is that of the sets, where they are both ways -/
theorem EdM.adj {g : List Nat} {n : Nat} {ps : List (Int × Int)} (h : EdM g n n 0 ps) (hok : edgesB n ps = true) (f : Nat → Nat → Prop) (hf : ∀ a b, a < b → b < n → ((g[a]?.getD 0).testBit b = true ↔ f a b)) (hs : ∀ a b, f a b → f b a) (v x : Nat) :
    adj (ofE n ps) v x ↔ v < n ∧ x < n ∧ v ≠ x ∧ f v x := by
  rw [adj_ofE hok]
  constructor
  · rintro ⟨e, he, h1⟩
    obtain ⟨a, b, rfl, h2, h3, h4, h5⟩ := (h e).1 he
    have h6 := (hf a b h2 h3).1 h4
    simp at h1
    rcases h1 with ⟨rfl, rfl⟩ | ⟨rfl, rfl⟩
    · exact ⟨by omega, by omega, by omega, h6⟩
    · exact ⟨by omega, by omega, by omega, hs _ _ h6⟩
  · rintro ⟨h1, h2, h3, h4⟩
    rcases Nat.lt_or_gt_of_ne h3 with hlt | hlt
    · exact ⟨((v : Int), (x : Int)), (h _).2 ⟨v, x, rfl, hlt, h2, (hf v x hlt h2).2 h4, by omega⟩, .inl ⟨by simp, by simp⟩⟩
    · exact ⟨((x : Int), (v : Int)), (h _).2 ⟨x, v, rfl, hlt, h1, (hf x v hlt h1).2 (hs _ _ h4), by omega⟩, .inr ⟨by simp, by simp⟩⟩
def LiM (w W : World) (g : List Nat) (n i j : Nat) (v : Value) : Prop :=
  ∃ ps : List (Int × Int), QRow W w.heap.size 24 2 v ps.length (pairCells ps) ∧ ps.length ≤ i * 20 + j ∧ edgesB n ps = true ∧ LastLt ps i j ∧ EdM g n i j ps ∧ Below w.heap.size w W
set_option maxHeartbeats 1000000 in
set_option maxRecDepth 100000 in
theorem listedM_any (a : Option Addr) (cap : Nat) (g : List Nat) (w : World) (hl : g.length ≤ 16) (hsm : ∀ i : Nat, Sm (g[i]?.getD 0)) (hg : Sets w a g) :
    Calls Tryd.prog 9 #[.slice a g.length cap] w fun e w' => ∃ (ps : List (Int × Int)) (a' : Option Addr) (c' : Nat), e = .returned (.slice a' ps.length c') ∧ Pairs w' a' ps ∧ edgesB g.length ps = true ∧ ps.length ≤ 400 ∧ EdM g g.length g.length 0 ps ∧ Below w.heap.size w w' := by
  obtain ⟨i0, hi, hz0, hz1, hz2⟩ := info_parts info49
  obtain ⟨b, off, rfl, hb, hc⟩ := hg
  obtain ⟨gg, hgg⟩ : ∃ gg, Hid (gg = g) := ⟨_, rfl⟩
  have HGG : Hid (∀ i : Nat, gg[i]?.getD 0 = g[i]?.getD 0) := by rw [hgg.out]; exact fun _ => rfl
  have HFIN : Hid (∀ n ps, EdM gg n n 0 ps → EdM g n n 0 ps) := by rw [hgg.out]; exact fun _ _ h => h
  clear hgg
  have HFIN2 : Hid (∀ ps, EdM gg g.length g.length 0 ps → EdM g g.length g.length 0 ps) := fun ps => HFIN.out _ ps
  clear HFIN
  generalize hlen : g.length = n at *
  have HL := Lib.hid hlen
  clear hlen
  have HC := Lib.hid hc
  have HS := Lib.hid hsm
  clear hc hsm
  go_enter Tryd.func9, Tryd.ntmps9
  go_wp2
  go_loopw [3, 4, 5] (fun v s4 s5 wr => ∃ i : Nat, i ≤ n ∧ s4 = .int .i64 i ∧ LiM w wr gg n i 0 v) (fun _ s4 _ _ => n - (intOf s4).toNat)
  case atStart => exact ⟨0, Nat.zero_le _, rfl, [], QRow.nil _ _ _ _, Nat.zero_le _, rfl, LastLt.nil _ _, EdM.nil _ _, Below.refl _ _⟩
  case round =>
    obtain ⟨i, hin, rfl, hli⟩ := hrel
    obtain ⟨wo, hwo⟩ : ∃ wo : World, wo = wr := ⟨_, rfl⟩
    by_cases hil : i < n
    · go_wp2
      go_loopw [3, 5] (fun v s5 wr => ∃ j : Nat, i < j ∧ j ≤ n ∧ s5 = .int .i64 j ∧ LiM w wr gg n i j v) (fun _ s5 _ => n - (intOf s5).toNat)
      case atStart =>
        obtain ⟨ps, q1, q2, q3, q4, q6, q5⟩ := hli
        exact ⟨i + 1, by omega, by omega, by go_num, ps, q1, by omega, q3, q4.start _, q6.start, q5⟩
      case round =>
        obtain ⟨j, hij, hjn, rfl, hlj⟩ := hrel
        by_cases hjl : j < n
        · obtain ⟨ps, q1, q2, q3, q4, q6, q5⟩ := hlj
          have hci := (q5.cell (p := ⟨b, off + i, none⟩) hb).trans (HC.out i hil)
          have hgi := HS.out i
          have HG1 : Hid (∀ t : Bool, (g[i]?.getD 0).testBit j = t → (gg[i]?.getD 0).testBit j = t) := fun t h => by rw [HGG.out]; exact h
          generalize g[i]?.getD 0 = gi at hci hgi HG1
          have HQ3 := Lib.hid q3
          have HQ4 := Lib.hid q4
          have HQ6 := Lib.hid q6
          clear q3 q4 q6 hli
          have hsz := q5.size
          by_cases hbt : gi.testBit j = true
          · have HQ7 := Lib.hid (HQ6.out.snoc hij hjl (HG1.out true hbt))
            go_wp2_with (at_builtin; go_must (refine wpList_append_q _ rfl (.tmp 28) (.tmp 32) 22 rfl w.heap.size 24 i0 _ 2 16 Tryd.underlying22 hi hz0 hz1 hz2 rfl (by decide) _ ps.length (pairCells ps) rfl (q1.alloc _) ⟨wr.heap.size, 0, none⟩ 1 1 [.int .i64 (i : Int), .int .i64 (j : Int)] rfl rfl (cells_newB _ _ _ _) (by simp [Value.oneCell']) (by unfold maxLen; omega) (by omega) (by simp; omega) ?_); intro v' w' hq hgr hbl)
            refine ⟨⟨j + 1, by omega, by omega, by go_num, ps ++ [((i : Int), (j : Int))], ?_, ?_, edgesB_snoc HQ3.out HQ4.out hij hjl, LastLt.snoc _ _ _, HQ7.out, ?_⟩, by simp [intOf]; omega⟩
            · rw [pairCells_snoc, List.length_append]; exact hq
            · simp; omega
            · exact Below.grown (q5.alloc hsz _) hgr (by simp; omega) (fun k hk => (q1.lt k hk).1)
          · have hbf : gi.testBit j = false := by simpa using hbt
            have HQ7 := Lib.hid (HQ6.out.no (HG1.out false hbf))
            go_wp2
            exact ⟨⟨j + 1, by omega, by omega, by go_num, ps, q1, by omega, HQ3.out, HQ4.out.next, HQ7.out, q5⟩, by simp [intOf]; omega⟩
        · obtain ⟨ps, q1, q2, q3, q4, q6, q5⟩ := hlj
          obtain rfl : n = j := by omega
          have HQ6 := Lib.hid q6.row
          have HQ4 := Lib.hid (q4.row 0)
          have HQ3 := Lib.hid q3
          clear q3 q4 q6
          go_wp2
          exact ⟨⟨i + 1, by omega, by go_num, ps, q1, by omega, HQ3.out, HQ4.out, HQ6.out, q5⟩, by simp [intOf]; omega⟩
    · obtain ⟨ps, q1, q2, q3, q4, q6, q5⟩ := hli
      obtain rfl : n = i := by omega
      have HQ6 := Lib.hid (HFIN2.out ps q6)
      clear q6
      go_wp2
      obtain ⟨p, c, rfl⟩ := q1.isSlice
      go_ret
      refine ⟨ps, p, c, rfl, fun hne => ?_, q3, by omega, HQ6.out, q5⟩
      obtain ⟨gb, o, cap', e, h1, h2, h3, h4, h5, h6⟩ := q1.at (List.length_pos_iff.2 hne)
      cases e
      refine ⟨gb, o, rfl, h2, fun j hj => ?_⟩
      have := pairCells_get ps j hj
      exact ⟨(h5 (j * 2) (by omega)).trans this.1, (h5 (j * 2 + 1) (by omega)).trans this.2⟩
end Go.Proofs.YtbioondlmgolkaaDoor.Hu
