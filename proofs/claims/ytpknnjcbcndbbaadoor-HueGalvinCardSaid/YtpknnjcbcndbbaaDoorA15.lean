/- The program's colours, and rows of sets that a call makes: walks. Hues from lists, in plain text. The program's hues by trial: a walk. The program's least number of colours: a walk. The program's choice of hues from lists: a walk. The program's test for too many edges within a set: a walk. The program's Vizing and Degree: walks. The program's Fewest: a walk. The iterator's contract, each element with the word that it is a neighbour; and the law of a loop over it. -/
import Derived.Test.YtpknnjcbcndbbaaDoorA14
import Derived.Laws.EntriesVeiled
import Derived.Test.YtpknnjcbcndbbaaDoorA12
import Derived.Test.YtpknnjcbcndbbaaDoorA07
import Derived.Test.YtpknnjcbcndbbaaDoorA06
set_option linter.unusedVariables false
set_option linter.unusedSimpArgs false
namespace Go.Proofs.YtpknnjcbcndbbaaDoor
open Go.RowKit Go.Shelf

theorem Boxed.keep {W W' : World} {k B : Nat} {t : TypeId} {v : Value} (h : Boxed W B t v) (hB : Below k W W') (hk : B < k) : Boxed W' B t v := (hB.block B hk).trans h
theorem boxN_at {W : World} {B : Nat} {t : TypeId} {vs : Array Value} (h : B = W.heap.size) : BoxN (W.alloc (.cells vs t)) B t vs := by rw [h]; exact BoxN.new rfl
theorem ColPre.zero (g o : List Nat) (L c : Nat → Nat) : ColPre g o L 0 c := fun i hi => by omega
/-- what the trials of all colours answer -/
def ColsP (g : List Nat) (L : Nat → Nat) (n : Nat) (w : World) (e : Ending) (w' : World) : Prop :=
  (e = .returned (.tuple #[.slice none 0 0, .bool false]) ∧ ¬ (∃ c, ColOK g n L c)) ∨ ∃ ob c, e = .returned (.tuple #[.slice (some ⟨ob, 0, none⟩) n n, .bool true]) ∧ w.heap.size ≤ ob ∧ RowB w' ob n (fun v => (c v : Int)) ∧ (∀ v, c v < 64) ∧ ColOK g n L c
set_option maxRecDepth 100000 in
set_option maxHeartbeats 4000000 in
theorem colours_any (G n : Nat) (a : Option Addr) (cap len : Nat) (g : List Nat) (lb lq lc : Nat) (L : Nat → Nat) (w : World) (hT : Tab w) (hg : GraphAt w G n a cap len g) (hsm : ∀ i : Nat, Sm (g[i]?.getD 0)) (U : Und g n) (hn1 : 1 ≤ n) (hn : n ≤ 16) (hL : ∀ v, L v < 18446744073709551616)
    (hrL : lb < w.heap.size ∧ ∀ v, v < n → w.cell? ⟨lb, lq + v, none⟩ = some (.int .u64 (L v : Nat))) :
    Calls Tryd.prog 70 #[.pointer (some ⟨G, 0, none⟩), .slice (some ⟨lb, lq, none⟩) n lc] w fun e w' => ColsP g L n w e w' ∧ Below w.heap.size w w' := by
  have HO := Lib.hid (fun W hB => order_any G n a cap len g W (hg.below (w := w) (W := W) (k := w.heap.size) hB (Nat.le_refl _)) hsm hn)
  have HG := Lib.hid hg
  have HT := Lib.hid hT
  have HU := Lib.hid U
  have HS := Lib.hid hsm
  have HL := Lib.hid hL
  have HR := Lib.hid hrL
  obtain ⟨vs0, hv1, hv2, HMK⟩ := make_25 n (by omega)
  have HV2 := Lib.hid hv2
  have HV1 := Lib.hid hv1
  have hG1 := hg.lt
  have hl1 := hrL.1
  have hn' := hg.n
  clear hg hT U hsm hL hrL hv1 hv2
  go_enter Tryd.func70, Tryd.ntmps70
  go_upto_region 2 with (go_at_call 61; refine (HO.out _ (((Below.refl _ w).alloc (Nat.le_refl _) _).alloc (by simp) _)).mono ?_; rintro e w1 ⟨v1, rfl, hq1, hb1⟩; obtain ⟨qb, qo, qc, rfl, hqb, hqlt, hnq, hqm, hqc, -⟩ := hq1.at (by omega); have HB1 := Lib.hid hb1; have HQC := Lib.hid hqc; clear hq1 hb1 hqc)
  have k0 := Boxed.keep ((boxed_at (W := w) (B := w.heap.size) (t := 79) (v := .pointer (some ⟨G, 0, none⟩)) rfl).alloc (.cells #[.slice (some ⟨lb, lq, none⟩) n lc] 82)) HB1.out (by simp; omega)
  have k1 := Boxed.keep (boxed_at (W := w.alloc (.cells #[.pointer (some ⟨G, 0, none⟩)] 79)) (B := w.heap.size + 1) (t := 82) (v := .slice (some ⟨lb, lq, none⟩) n lc) (by simp)) HB1.out (by simp)
  have hBw : Below w.heap.size w w1 := (((Below.refl _ w).alloc (Nat.le_refl _) _).alloc (by simp) _).trans (HB1.out.mono (by simp; omega))
  have hsz1 : w.heap.size + 2 ≤ w1.heap.size := by have := HB1.out.size; simpa using this
  have K0 := Lib.hid k0
  have K1 := Lib.hid k1
  have HBW := Lib.hid hBw
  have hn1' := (hBw.cell (p := ⟨G, 0, none⟩) hG1).trans hn'
  obtain ⟨s, hs⟩ : ∃ s, Hid (s = w1.heap.size) := ⟨_, rfl⟩
  have hGs : G < s := by rw [hs.out]; omega
  have hws : w.heap.size + 2 ≤ s := by rw [hs.out]; omega
  have hBV : Below w.heap.size w (w1.alloc (.cells #[.slice (some ⟨qb, qo, none⟩) n qc] 25)) := hBw.alloc hBw.size _
  have hV1 : Below w1.heap.size w1 (w1.alloc (.cells #[.slice (some ⟨qb, qo, none⟩) n qc] 25)) := (Below.refl _ w1).alloc (Nat.le_refl _) _
  have kl := boxed_at (W := w1) (B := s) (t := 25) (v := .slice (some ⟨qb, qo, none⟩) n qc) hs.out
  have hsV : (w1.alloc (.cells #[.slice (some ⟨qb, qo, none⟩) n qc] 25)).heap.size = s + 1 := by rw [hs.out]; simp
  have kG := k0.alloc (.cells #[.slice (some ⟨qb, qo, none⟩) n qc] 25)
  have kL := k1.alloc (.cells #[.slice (some ⟨qb, qo, none⟩) n qc] 25)
  have hqlt2 : qb < s := by rw [hs.out]; exact hqlt
  rw [← hs.out] at hV1 ⊢
  generalize (w1.alloc (.cells #[.slice (some ⟨qb, qo, none⟩) n qc] 25)) = V at *
  have hcV := (hBV.cell (p := ⟨G, 0, none⟩) hG1).trans hn'
  have HQV : Hid (∀ i, i < n → V.cell? ⟨qb, qo + i, none⟩ = some (.int .i64 (nth (ordL g n) i : Nat))) := fun i hi => by
    refine (hV1.cell (p := ⟨qb, qo + i, none⟩) hqlt2).trans ((HQC.out i (by omega)).trans ?_)
    unfold nth
    have hl : (ordL g n).length = n := by simp [ordL]
    have e : (iv (ordL g n))[i]? = some (.int .i64 ((ordL g n)[i]?.getD 0 : Nat)) := by
      unfold iv; rw [List.getElem?_map, List.getElem?_eq_getElem (by omega)]; rfl
    exact e
  have HBV := Lib.hid hBV
  have kGc := kG.cell
  have KL := Lib.hid kL
  have KG := Lib.hid kG
  have Kl := Lib.hid kl
  have gV : G < V.heap.size := by omega
  clear hn' hn1' k0 k1 hBw K0 K1 HQC HB1 HBW kl kL kG hBV hV1 hqb hqlt hsz1 
  go_upto_region 4 with (fail)
  have y1 := (((boxN_at (W := V) (B := s + 1) (t := 3) (vs := vs0) hsV.symm).alloc (.cells #[.slice (some ⟨s + 1, 0, none⟩) n n] 25)).alloc (.cells #[.nilFunc] 96))
  have y2 := (boxed_at (W := V.alloc (.cells vs0 3)) (B := s + 1 + 1) (t := 25) (v := .slice (some ⟨s + 1, 0, none⟩) n n) (by simp [hsV])).alloc (.cells #[.nilFunc] 96)
  have y3 := boxed_at (W := (V.alloc (.cells vs0 3)).alloc (.cells #[.slice (some ⟨s + 1, 0, none⟩) n n] 25)) (B := s + 1 + 1 + 1) (t := 96) (v := .nilFunc) (by simp [hsV])
  have yB : Below V.heap.size V (((V.alloc (.cells vs0 3)).alloc (.cells #[.slice (some ⟨s + 1, 0, none⟩) n n] 25)).alloc (.cells #[.nilFunc] 96)) := (((Below.refl _ V).alloc (Nat.le_refl _) _).alloc (by simp) _).alloc (by simp; omega) _
  have yS : (((V.alloc (.cells vs0 3)).alloc (.cells #[.slice (some ⟨s + 1, 0, none⟩) n n] 25)).alloc (.cells #[.nilFunc] 96)).heap.size = s + 1 + 1 + 1 + 1 := by simp [hsV]
  generalize (((V.alloc (.cells vs0 3)).alloc (.cells #[.slice (some ⟨s + 1, 0, none⟩) n n] 25)).alloc (.cells #[.nilFunc] 96)) = X at *
  have Y1 := Lib.hid y1
  have Y2 := Lib.hid y2
  have Y3 := Lib.hid y3
  have YB := Lib.hid yB
  have y3c := y3.cell
  have y3f := y3.frozen
  clear y1 y2 y3 yB hcV kGc HMK
  go_upto_region 5 with (fail)
  obtain ⟨fv, hfv⟩ : ∃ fv, fv = Value.func (.func 91) #[] #[.pointer (some ⟨s, 0, none⟩), .pointer (some ⟨w.heap.size + 1, 0, none⟩), .pointer (some ⟨w.heap.size, 0, none⟩), .pointer (some ⟨s + 1 + 1, 0, none⟩), .pointer (some ⟨s + 1 + 1 + 1, 0, none⟩)] := ⟨_, rfl⟩
  rw [← hfv]
  have x3 := Y3.out.set fv
  have xB : Below V.heap.size V (X.setCell ⟨s + 1 + 1 + 1, 0, none⟩ fv) := YB.out.setCell (p := ⟨s + 1 + 1 + 1, 0, none⟩) (by simp [hsV]) _
  have x2 := Y2.out.other (B' := s + 1 + 1 + 1) (by omega) fv
  have x1 : BoxN (X.setCell ⟨s + 1 + 1 + 1, 0, none⟩ fv) (s + 1) 3 vs0 := Y1.out.other (by simp) fv
  have xS : (X.setCell ⟨s + 1 + 1 + 1, 0, none⟩ fv).heap.size = s + 1 + 1 + 1 + 1 := by simp [yS]
  generalize (X.setCell ⟨s + 1 + 1 + 1, 0, none⟩ fv) = Z at *
  have hBZ : Below w.heap.size w Z := HBV.out.trans (xB.mono HBV.out.size)
  have hne : s ≠ s + 1 ∧ w.heap.size + 1 ≠ s + 1 ∧ w.heap.size ≠ s + 1 ∧ s + 1 + 1 ≠ s + 1 ∧ s + 1 + 1 + 1 ≠ s + 1 ∧ qb ≠ s + 1 ∧ lb ≠ s + 1 ∧ G ≠ s + 1 ∧ 0 ≠ s + 1 := by omega
  have hCB : Hid (CBase Z s (w.heap.size + 1) w.heap.size (s + 1 + 1) (s + 1 + 1 + 1) G qb qo qc lb lq lc (s + 1) n a cap len g (ordL g n) L) :=
    ⟨Boxed.keep Kl.out xB (by omega), Boxed.keep KL.out xB (by omega), Boxed.keep KG.out xB (by omega), x2, hfv ▸ x3, ⟨by omega, fun i hi => (xB.cell (p := ⟨qb, qo + i, none⟩) (by simp; omega)).trans (HQV.out i hi)⟩, ⟨by omega, fun v hv => (hBZ.cell (p := ⟨lb, lq + v, none⟩) hl1).trans (HR.out.2 v hv)⟩, HG.out.below hBZ (Nat.le_refl _), HT.out.below hBZ (Nat.le_refl _), hnq, hne⟩
  have hRB : Hid (RowB Z (s + 1) n (fun v => (((fun _ => 0 : Nat → Nat) v : Nat) : Int))) := ⟨vs0, x1, HV1.out, fun j hj => HV2.out j hj⟩
  have HTR := Lib.hid (try_any HU.out (ordOK g n) hn HS.out HL.out n 0 (by omega) Z (fun _ => 0) hCB.out hRB.out (ColPre.zero _ _ _ _) (fun _ => by omega))
  have x3c := x3.cell
  have x2c := x2.cell
  have HBZ := Lib.hid hBZ
  have HFV := Lib.hid hfv
  have X2 := Lib.hid x2
  clear hfv x3 x2 x1 xB hBZ hne hsV xS y3c y3f
  rw [HFV.out] at x3c
  go_upto_if 23 with (go_at_call 91; refine (HTR.out).mono ?_; rintro e w6 ⟨b6, c6, rfl, hag6, hR6, hc6, hsm6, ht6, hf6⟩; have HA6 := Lib.hid hag6; have HR6 := Lib.hid hR6; have HC6 := Lib.hid hc6; have HT6 := Lib.hid ht6; have HF6 := Lib.hid hf6; clear hag6 hR6 hc6 hsm6 ht6 hf6)
  have X6 := Lib.hid (HA6.out.boxed X2.out (by omega))
  have x6c := X6.out.cell
  have HB6 := Lib.hid (HA6.out.below HBZ.out HBZ.out.size (fun k hk e => by omega))
  clear x2c x3c
  cases b6 with
  | false =>
    go_wp2
    refine bodyPost_ret (v := .tuple #[.slice none 0 0, .bool false]) (by simp [results, Tryd.f70, go_sem]) rfl ?_
    exact ⟨.inl ⟨rfl, fun ⟨c, hc⟩ => (show ¬ ColExt g n (ordL g n) L 0 (fun _ => 0) from (by first | exact HF6.out rfl | exact HF6.out trivial)) ⟨c, hc, fun i hi => by omega⟩⟩, HB6.out⟩
  | true =>
    go_wp2
    refine bodyPost_ret (v := .tuple #[.slice (some ⟨s + 1, 0, none⟩) n n, .bool true]) (by simp [results, Tryd.f70, go_sem]) rfl ?_
    exact ⟨.inr ⟨s + 1, c6, rfl, by omega, HR6.out, HC6.out, (by first | exact HT6.out rfl | exact HT6.out trivial)⟩, HB6.out⟩
end Go.Proofs.YtpknnjcbcndbbaaDoor
namespace Go.Proofs.YtpknnjcbcndbbaaDoor
open Go.RowKit

/-- the k-th pair -/
def qa (ps : List (Int × Int)) (k : Nat) : Int × Int := ps[k]?.getD (0, 0)
theorem EdgesOK.at {g : List Nat} {ps : List (Int × Int)} (E : EdgesOK g ps) {j : Nat} (hj : j < ps.length) : ∃ x y : Nat, qa ps j = ((x : Int), (y : Int)) ∧ pr (qa ps j) = ed x y ∧ ed x y = (x, y) ∧ x ≠ y ∧ x < 16 ∧ y < 16 ∧ adj g x y ∧ adj g y x := by
  obtain ⟨x, y, h1, h2, h3, h4, h5⟩ := E.edge j hj
  have e : qa ps j = ((x : Int), (y : Int)) := by unfold qa; rw [h1]; rfl
  refine ⟨x, y, e, ?_, ed_lt h2, by omega, by omega, h3, h4, h5⟩
  rw [e, ed_lt h2]; simp [pr]
theorem EdgesOK.pr_ne {g : List Nat} {ps : List (Int × Int)} (E : EdgesOK g ps) {i j : Nat} (hi : i < ps.length) (hj : j < ps.length) (hne : i ≠ j) : pr (qa ps i) ≠ pr (qa ps j) := fun h => by
  have key : ∀ i j, i < j → j < ps.length → pr (qa ps i) ≠ pr (qa ps j) := fun i j hij hj h => by
    obtain ⟨x, y, e1, -⟩ := E.edge i (by omega)
    obtain ⟨x', y', e2, -⟩ := E.edge j hj
    refine E.nd i j hij hj ?_
    unfold qa pr at h
    rw [e1, e2] at h
    simp only [Option.getD_some, Int.toNat_natCast, Prod.mk.injEq] at h
    rw [e1, e2, h.1, h.2]
  rcases Nat.lt_or_gt_of_ne hne with h1 | h1
  · exact key i j h1 hj h
  · exact key j i h1 hi h.symm
/-- hues of all edges, each of its list -/
def HueOK (g : List Nat) (ps : List (Int × Int)) (L : Nat → Nat) (col : Nat × Nat → Option Nat) : Prop := (∃ us, HInv g us col) ∧ ∀ i, i < ps.length → ∃ h, col (pr (qa ps i)) = some h ∧ (L i).testBit h = true
/-- there are such hues that go on from these -/
def HueExt (g : List Nat) (ps : List (Int × Int)) (L : Nat → Nat) (col : Nat × Nat → Option Nat) : Prop := ∃ col', HueOK g ps L col' ∧ ∀ e h, col e = some h → col' e = some h
/-- what has a hue has one of its list -/
def OwnH (ps : List (Int × Int)) (L : Nat → Nat) (col : Nat × Nat → Option Nat) : Prop := ∀ i, i < ps.length → ∀ h, col (pr (qa ps i)) = some h → (L i).testBit h = true
section
variable {g : List Nat} {ps : List (Int × Int)} {L : Nat → Nat} {us : Nat → Nat} {col : Nat × Nat → Option Nat}
theorem HueExt.congr {col2 : Nat × Nat → Option Nat} (h : HueExt g ps L col) (e : ∀ x, col2 x = col x) : HueExt g ps L col2 := by
  obtain ⟨c', h1, h2⟩ := h
  exact ⟨c', h1, fun x y hx => h2 x y (by rw [← e x]; exact hx)⟩
theorem OwnH.congr {col2 : Nat × Nat → Option Nat} (h : OwnH ps L col) (e : ∀ x, col2 x = col x) : OwnH ps L col2 := fun i hi x hx => h i hi x (by rw [← e]; exact hx)
theorem HInv.congr {col2 : Nat × Nat → Option Nat} (h : HInv g us col) (e : ∀ x, col2 x = col x) : HInv g us col2 := by
  have : col2 = col := funext e
  rw [this]; exact h
theorem OwnH.done (h : OwnH ps L col) (H : HInv g us col) (hall : ∀ i, i < ps.length → col (pr (qa ps i)) ≠ none) : HueOK g ps L col := ⟨⟨us, H⟩, fun i hi => by
  cases e : col (pr (qa ps i)) with
  | none => exact absurd e (hall i hi)
  | some x => exact ⟨x, rfl, h i hi x e⟩⟩
/-- the hues left to an edge -/
def lft2 (L : Nat → Nat) (us : Nat → Nat) (i v w : Nat) : Nat := ldiff (ldiff (L i) (us v)) (us w)
theorem lft2_bit {i v w h : Nat} : (lft2 L us i v w).testBit h = true ↔ (L i).testBit h = true ∧ (us v).testBit h = false ∧ (us w).testBit h = false := by
  unfold lft2
  rw [testBit_ldiff, testBit_ldiff]
  cases (L i).testBit h <;> cases (us v).testBit h <;> cases (us w).testBit h <;> simp
theorem lft2_le {i v w : Nat} : lft2 L us i v w ≤ L i := Nat.le_trans (ldiff_le _ _) (ldiff_le _ _)
theorem OwnH.put (E : EdgesOK g ps) (h : OwnH ps L col) {i v w x : Nat} (hi : i < ps.length) (hq : pr (qa ps i) = ed v w) (hx : (L i).testBit x = true) : OwnH ps L (setF col (ed v w) (some x)) := fun j hj y hy => by
  unfold setF at hy
  by_cases e : j = i
  · subst e
    rw [if_pos hq] at hy; cases hy; exact hx
  · rw [if_neg (fun h => E.pr_ne hj hi e (h.trans hq.symm))] at hy
    exact h j hj y hy
theorem HueExt.step (H : HInv g us col) (hno : ∀ a, us a < 18446744073709551616) (hL : ∀ i, L i < 18446744073709551616) (h : HueExt g ps L col) {i v w : Nat} (hi : i < ps.length) (hq : pr (qa ps i) = ed v w) (hv : v < 16) (hw : w < 16) (hn : col (ed v w) = none) : ∃ x, (lft2 L us i v w).testBit x = true ∧ HueExt g ps L (setF col (ed v w) (some x)) := by
  obtain ⟨c', ⟨⟨us', H'⟩, h2⟩, h3⟩ := h
  obtain ⟨x, hx1, hx2⟩ := h2 i hi
  rw [hq] at hx1
  have hx64 := (H'.edge v w x hx1).2.2.2.2
  refine ⟨x, lft2_bit.2 ⟨hx2, (H.free hv hx64).2 fun y hy => ?_, (H.free hw hx64).2 fun y hy => ?_⟩, c', ⟨⟨us', H'⟩, h2⟩, fun e y hy => ?_⟩
  · have := H'.inj _ _ _ _ (h3 _ _ hy) hx1
    rw [this, hn] at hy; cases hy
  · rw [ed_comm] at hx1
    have := H'.inj _ _ _ _ (h3 _ _ hy) hx1
    rw [this, ed_comm, hn] at hy; cases hy
  · unfold setF at hy
    by_cases e' : e = ed v w
    · rw [if_pos e'] at hy; cases hy; rw [e']; exact hx1
    · rw [if_neg e'] at hy; exact h3 e y hy
/-- how many edges have no hue -/
def unc (ps : List (Int × Int)) (col : Nat × Nat → Option Nat) : Nat := ((List.range ps.length).filter fun i => (col (pr (qa ps i))).isNone).length
theorem unc_congr {col2 : Nat × Nat → Option Nat} (e : ∀ x, col2 x = col x) : unc ps col2 = unc ps col := by
  have : col2 = col := funext e
  rw [this]
theorem unc_put {i v w x : Nat} (hi : i < ps.length) (hq : pr (qa ps i) = ed v w) (hn : col (ed v w) = none) : unc ps (setF col (ed v w) (some x)) < unc ps col := by
  unfold unc
  rw [← List.countP_eq_length_filter, ← List.countP_eq_length_filter]
  have hm : i ∈ List.range ps.length := List.mem_range.2 hi
  have key : ∀ l : List Nat, l.countP (fun j => (setF col (ed v w) (some x) (pr (qa ps j))).isNone) ≤ l.countP (fun j => (col (pr (qa ps j))).isNone) := fun l => by
    refine List.countP_mono_left fun j _ hj => ?_
    unfold setF at hj
    split at hj
    · cases hj
    · exact hj
  obtain ⟨l1, l2, e⟩ := List.append_of_mem hm
  rw [e, List.countP_append, List.countP_append, List.countP_cons, List.countP_cons]
  have k1 := key l1
  have k2 := key l2
  have e1 : (setF col (ed v w) (some x) (pr (qa ps i))).isNone = false := by unfold setF; rw [if_pos hq]; rfl
  have e2 : (col (pr (qa ps i))).isNone = true := by rw [hq, hn]; rfl
  rw [e1, e2]
  simp only [Bool.false_eq_true, if_false, if_true]
  omega
theorem unc_zero (h : unc ps col = 0) : ∀ i, i < ps.length → col (pr (qa ps i)) ≠ none := fun i hi e => by
  unfold unc at h
  have : i ∈ (List.range ps.length).filter fun i => (col (pr (qa ps i))).isNone := List.mem_filter.2 ⟨List.mem_range.2 hi, by rw [e]; rfl⟩
  have := List.length_pos_of_mem this
  omega
theorem setF_back {v w x : Nat} (hn : col (ed v w) = none) : ∀ e, setF (setF col (ed v w) (some x)) (ed v w) none e = col e := fun e => by
  unfold setF
  by_cases h : e = ed v w
  · rw [if_pos h, h, hn]
  · rw [if_neg h, if_neg h]
end
end Go.Proofs.YtpknnjcbcndbbaaDoor
namespace Go.Proofs.YtpknnjcbcndbbaaDoor
open Go.RowKit Go.Shelf

/-- a row of sets of 64 in memory -/
def RowU (W : World) (la : Option Addr) (n : Nat) (L : Nat → Nat) : Prop := n ≠ 0 → ∃ lb lq, la = some ⟨lb, lq, none⟩ ∧ lb < W.heap.size ∧ ∀ i, i < n → W.cell? ⟨lb, lq + i, none⟩ = some (.int .u64 (L i : Nat))
theorem RowU.below {k : Nat} {w W : World} {la : Option Addr} {n : Nat} {L : Nat → Nat} (h : RowU w la n L) (hB : Below k w W) (hk : w.heap.size ≤ k) : RowU W la n L := fun h0 => by
  obtain ⟨lb, lq, e, h1, h2⟩ := h h0
  exact ⟨lb, lq, e, Nat.lt_of_lt_of_le h1 hB.size, fun i hi => (hB.cell (p := ⟨lb, lq + i, none⟩) (Nat.lt_of_lt_of_le h1 hk)).trans (h2 i hi)⟩
theorem bandNot64n (a b : Nat) (ha : a < 18446744073709551616) (hb : b < 18446744073709551616) : bits .andNot .u64 (a : Int) (b : Int) = ((ldiff a b : Nat) : Int) := by
  show IntKind.u64.wrap ((BitVec.ofInt 64 (a : Int) &&& ~~~BitVec.ofInt 64 (b : Int)).toNat : Int) = _
  have e : (BitVec.ofInt 64 (a : Int) &&& ~~~BitVec.ofInt 64 (b : Int)).toNat = ldiff a b := by
    apply Nat.eq_of_testBit_eq
    intro i
    have h1 := ofNat64 a ha
    have h2 := ofNat64 b hb
    rw [testBit_ldiff, BitVec.toNat_and, Nat.testBit_and, h1]
    by_cases hi : i < 64
    · have : (~~~BitVec.ofInt 64 (b : Int)).toNat.testBit i = !(BitVec.ofInt 64 (b : Int)).toNat.testBit i := by
        rw [← BitVec.getLsbD, ← BitVec.getLsbD, BitVec.getLsbD_not]; simp [hi]
      rw [this, h2]
    · have : a.testBit i = false := Nat.testBit_lt_two_pow (Nat.lt_of_lt_of_le ha (Nat.le_trans (show 18446744073709551616 ≤ 2 ^ 64 by decide) (Nat.pow_le_pow_right (by decide) (by omega))))
      simp [this]
  rw [e, u64_same _ (Nat.lt_of_le_of_lt (ldiff_le _ _) ha)]
/-- what lay in memory before hues are tried -/
structure HFix (w0 : World) (G n : Nat) (a la : Option Addr) (cap : Nat) (g : List Nat) (ps : List (Int × Int)) (L : Nat → Nat) : Prop where
  gr : GraphAt w0 G n a cap ps.length g
  hE : Pairs w0 a ps
  rL : RowU w0 la ps.length L
  tab : Tab w0
  E : EdgesOK g ps
  len : ps.length ≤ 1099511627776
  L64 : ∀ i, L i < 18446744073709551616
/-- what lies in memory while hues are tried -/
structure HBase (w0 W : World) (bG bP bL bF G p M : Nat) (la : Option Addr) (lc len : Nat) : Prop where
  low : Below w0.heap.size w0 W
  kG : Boxed W bG 79 (.pointer (some ⟨G, 0, none⟩))
  kP : Boxed W bP 112 (.pointer (some ⟨p, 0, none⟩))
  kL : Boxed W bL 82 (.slice la len lc)
  kF : Boxed W bF 29 (.func (.func 78) #[] #[.pointer (some ⟨bG, 0, none⟩), .pointer (some ⟨bP, 0, none⟩), .pointer (some ⟨bL, 0, none⟩), .pointer (some ⟨bF, 0, none⟩)])
  pm : w0.heap.size ≤ p ∧ w0.heap.size ≤ M
  ne : (bG ≠ p ∧ bG ≠ M) ∧ (bP ≠ p ∧ bP ≠ M) ∧ (bL ≠ p ∧ bL ≠ M) ∧ bF ≠ p ∧ bF ≠ M
theorem HBase.ag {w0 W W' : World} {bG bP bL bF G p M : Nat} {la : Option Addr} {lc len : Nat} (h : HBase w0 W bG bP bL bF G p M la lc len) (hg : Ag (fun k => k = p ∨ k = M) W W') : HBase w0 W' bG bP bL bF G p M la lc len := by
  obtain ⟨⟨n1, n2⟩, ⟨n3, n4⟩, ⟨n5, n6⟩, n7, n8⟩ := h.ne
  have hp := h.pm
  exact ⟨hg.below h.low h.low.size (fun k hk e => by omega), hg.boxed h.kG (fun e => by omega), hg.boxed h.kP (fun e => by omega), hg.boxed h.kL (fun e => by omega), hg.boxed h.kF (fun e => by omega), h.pm, h.ne⟩
theorem HBase.below {w0 W W' : World} {bG bP bL bF G p M : Nat} {la : Option Addr} {lc len : Nat} (h : HBase w0 W bG bP bL bF G p M la lc len) (hg : Below W.heap.size W W') : HBase w0 W' bG bP bL bF G p M la lc len := h.ag (Ag.of_below hg)
theorem PaintAt.congr {W : World} {p G M : Nat} {us : Nat → Nat} {col col2 : Nat × Nat → Option Nat} (h : PaintAt W p G M us col) (e : ∀ x, col x = col2 x) : PaintAt W p G M us col2 := ⟨h.box, h.map.congr e, h.ne, h.sm⟩
/-- what a trial of hues answers -/
def HTryP (g : List Nat) (ps : List (Int × Int)) (L : Nat → Nat) (p G M : Nat) (col : Nat × Nat → Option Nat) (W : World) (e : Ending) (w' : World) : Prop := ∃ (b : Bool) (us' : Nat → Nat) (col' : Nat × Nat → Option Nat), e = .returned (.bool b) ∧ Ag (fun k => k = p ∨ k = M) W w' ∧ PaintAt w' p G M us' col' ∧ HInv g us' col' ∧ (b = true → HueOK g ps L col') ∧ (b = false → (∀ e, col' e = col e) ∧ ¬ HueExt g ps L col)
theorem HTryP.mk {g : List Nat} {ps : List (Int × Int)} {L : Nat → Nat} {p G M : Nat} {col : Nat × Nat → Option Nat} {W : World} {e : Ending} {w' : World} (b : Bool) (us' : Nat → Nat) (col' : Nat × Nat → Option Nat) (h1 : e = .returned (.bool b)) (h2 : Ag (fun k => k = p ∨ k = M) W w') (h3 : PaintAt w' p G M us' col') (h4 : HInv g us' col') (h5 : b = true → HueOK g ps L col') (h6 : b = false → (∀ e, col' e = col e) ∧ ¬ HueExt g ps L col) : HTryP g ps L p G M col W e w' := ⟨b, us', col', h1, h2, h3, h4, h5, h6⟩
/-- the best edge among the first k without a hue -/
def BestI (ps : List (Int × Int)) (col : Nat × Nat → Option Nat) (k : Nat) (b f : Int) : Prop := (b = -1 ∧ f = 65 ∧ ∀ j, j < k → col (pr (qa ps j)) ≠ none) ∨ ∃ i : Nat, i < k ∧ b = (i : Int) ∧ 0 ≤ f ∧ f ≤ 64 ∧ col (pr (qa ps i)) = none
theorem BestI.pass {ps : List (Int × Int)} {col : Nat × Nat → Option Nat} {k : Nat} {b f : Int} (h : BestI ps col k b f) (hk : col (pr (qa ps k)) ≠ none) : BestI ps col (k + 1) b f := by
  rcases h with ⟨h1, h2, h3⟩ | ⟨i, h1, h2⟩
  · refine .inl ⟨h1, h2, fun j hj => ?_⟩
    by_cases e : j = k
    · rw [e]; exact hk
    · exact h3 j (by omega)
  · exact .inr ⟨i, by omega, h2⟩
theorem BestI.leave {ps : List (Int × Int)} {col : Nat × Nat → Option Nat} {k : Nat} {b f : Int} {l : Nat} (h : BestI ps col k b f) (hl : l ≤ 64) (hn : ¬ (l : Int) < f) : BestI ps col (k + 1) b f := by
  rcases h with ⟨h1, h2, h3⟩ | ⟨i, h1, h2⟩
  · omega
  · exact .inr ⟨i, by omega, h2⟩
theorem BestI.new {ps : List (Int × Int)} {col : Nat × Nat → Option Nat} {k : Nat} {l : Nat} (hk : col (pr (qa ps k)) = none) (hl : l ≤ 64) : BestI ps col (k + 1) (k : Int) (l : Int) := .inr ⟨k, by omega, rfl, by omega, by omega, hk⟩
set_option maxRecDepth 100000 in
set_option maxHeartbeats 8000000 in
theorem htry_any {w0 : World} {bG bP bL bF G p M n : Nat} {a la : Option Addr} {cap lc : Nat} {g : List Nat} {ps : List (Int × Int)} {L : Nat → Nat} (F : HFix w0 G n a la cap g ps L) : ∀ (m : Nat) (W : World) (us : Nat → Nat) (col : Nat × Nat → Option Nat), unc ps col < m → HBase w0 W bG bP bL bF G p M la lc ps.length → PaintAt W p G M us col → HInv g us col → OwnH ps L col →
    Calls Tryd.prog 78 #[.pointer (some ⟨bG, 0, none⟩), .pointer (some ⟨bP, 0, none⟩), .pointer (some ⟨bL, 0, none⟩), .pointer (some ⟨bF, 0, none⟩)] W (HTryP g ps L p G M col W)
  | 0, W, us, col, hm, _, _, _, _ => absurd hm (by omega)
  | m + 1, W, us, col, hm, hB, hP, hH, hO => by
    have IH : Hid (∀ (W : World) (us2 : Nat → Nat) (col2 : Nat × Nat → Option Nat), unc ps col2 < unc ps col → HBase w0 W bG bP bL bF G p M la lc ps.length → PaintAt W p G M us2 col2 → HInv g us2 col2 → OwnH ps L col2 →
        Calls Tryd.prog 78 #[.pointer (some ⟨bG, 0, none⟩), .pointer (some ⟨bP, 0, none⟩), .pointer (some ⟨bL, 0, none⟩), .pointer (some ⟨bF, 0, none⟩)] W (HTryP g ps L p G M col2 W)) := fun W us2 col2 h1 h2 h3 h4 h5 => htry_any F m W us2 col2 (by omega) h2 h3 h4 h5
    have HF := Lib.hid F
    have HB := Lib.hid hB
    have HP := Lib.hid hP
    have HH := Lib.hid hH
    have HO := Lib.hid hO
    have HM := Lib.hid hm
    have c0 := hB.kG.cell
    have c1 := (hB.low.cell (p := ⟨G, 1, none⟩) F.gr.lt).trans F.gr.e
    have hlen := F.len
    clear F hB hP hH hO hm
    go_enter Tryd.func78, Tryd.ntmps78
    go_upto_region 3 with (fail)
    go_step3
    go_upto_region 3 with (fail)
    go_loopw [5, 6, 19] (fun s5 s6 s19 wr => ∃ (k : Nat) (bi fw : Int), k ≤ ps.length ∧ s19 = .int .i64 (k : Int) ∧ s5 = .int .i64 bi ∧ s6 = .int .i64 fw ∧ Hid (BestI ps col k bi fw) ∧ Hid (Below W.heap.size W wr)) (fun _ _ s19 _ => ps.length - (intOf s19).toNat)
    case atStart => exact ⟨0, -1, 65, by omega, rfl, rfl, rfl, .inl ⟨rfl, rfl, fun j hj => by omega⟩, Below.refl _ _⟩
    case round =>
      obtain ⟨k, bi, fw, hk, rfl, rfl, rfl, hbi, hbw⟩ := hrel
      by_cases hlt : k < ps.length
      · have h1 : (k : Int) < (ps.length : Int) := by omega
        have h0 : (0 : Int) ≤ (k : Int) := by omega
        have hB1 := HB.out.below hbw.out
        have hP1 := HP.out.below hbw.out
        obtain ⟨x, y, hqe, hpr, hed, hxy, hx16, hy16, hadj, hadj'⟩ := HF.out.E.at hlt
        obtain ⟨eb, eo, ea, helt, hec⟩ := HF.out.hE (fun e => by rw [e] at hlt; simp at hlt)
        obtain ⟨lb, lq, ela, hllt, hlc⟩ := HF.out.rL (fun e => by omega)
        have hk0 := hec k hlt
        rw [show ps[k]?.getD (0, 0) = ((x : Int), (y : Int)) from hqe] at hk0
        have e0 := (hB1.low.cell (p := ⟨eb, eo + k * 2, none⟩) helt).trans hk0.1
        have e1 := (hB1.low.cell (p := ⟨eb, eo + k * 2 + 1, none⟩) helt).trans hk0.2
        have hlk := (hB1.low.cell (p := ⟨lb, lq + k, none⟩) hllt).trans (hlc k hlt)
        have hBe : eb < wr.heap.size := Nat.lt_of_lt_of_le helt hB1.low.size
        have hBl : lb < wr.heap.size := Nat.lt_of_lt_of_le hllt hB1.low.size
        have k0 := hB1.kG.cell
        have k1 := (hB1.low.cell (p := ⟨G, 1, none⟩) HF.out.gr.lt).trans HF.out.gr.e
        subst ea
        subst ela
        have HB1 := Lib.hid hB1
        have HP1 := Lib.hid hP1
        have HPR := Lib.hid hpr
        have HED := Lib.hid hed
        have HBI := hbi
        clear hB1 hP1 hpr hed hqe hec hlc hk0 hadj hadj' hbi
        go_upto_region 5 with (fail)
        have hBV : Below wr.heap.size wr (wr.alloc (.cells #[.int .i64 (x : Int), .int .i64 (y : Int)] 72)) := (Below.refl _ wr).alloc (Nat.le_refl _) _
        have hbn : BoxN (wr.alloc (.cells #[.int .i64 (x : Int), .int .i64 (y : Int)] 72)) wr.heap.size 72 #[.int .i64 (x : Int), .int .i64 (y : Int)] := BoxN.new rfl
        obtain ⟨bx, hbx⟩ : ∃ bx, Hid (bx = wr.heap.size) := ⟨_, rfl⟩
        have hvs : (wr.alloc (.cells #[.int .i64 (x : Int), .int .i64 (y : Int)] 72)).heap.size = wr.heap.size + 1 := by simp
        rw [← hbx.out] at hbn hvs ⊢
        generalize (wr.alloc (.cells #[.int .i64 (x : Int), .int .i64 (y : Int)] 72)) = V at *
        have hBk := HB1.out.below hBV
        have hPk := HP1.out.below hBV
        have hlV := (hBV.cell (p := ⟨lb, lq + k, none⟩) hBl).trans hlk
        have r0 : ∀ d : BW V.heap.size V, d.w.cell? ⟨bP, 0, none⟩ = some (.pointer (some ⟨p, 0, none⟩)) := fun d => d.cell hBk.kP.lt hBk.kP.cell
        have r1 : ∀ d : BW V.heap.size V, d.w.cell? ⟨p, 1, none⟩ = some (.map (some M)) := fun d => d.cell hPk.lt hPk.cells.2.1
        have r2 : ∀ d : BW V.heap.size V, d.w.cell? ⟨bx, 0, none⟩ = some (.int .i64 (x : Int)) := fun d => d.cell (hbn.lt) (by rw [hbn.cell]; rfl)
        have r3 : ∀ d : BW V.heap.size V, d.w.cell? ⟨bx, 1, none⟩ = some (.int .i64 (y : Int)) := fun d => d.cell (hbn.lt) (by rw [hbn.cell]; rfl)
        have HBV := Lib.hid (hbw.out.trans (hBV.mono hbw.out.size))
        have HBK := Lib.hid hBk
        have HPK := Lib.hid hPk
        have HVS := Lib.hid hbn
        clear hBV hvs hlk e0 e1 k0 k1 hbn
        cases hcol : col (x, y) with
        | some h =>
          have HL : ∀ d : BW V.heap.size V, (Instr.lookup 114 (.map (some M)) (.agg #[.int .i64 (x : Int), .int .i64 (y : Int)]) true).run Tryd.prog d.w = .ok (.tuple #[.int .i64 (h : Int), .bool true]) d.w := fun d => by
            have := look_f edgeKind true (x, y) d.w M col (HPK.out.map.below d.b HPK.out.map.lt)
            rw [hcol] at this; exact this
          have HBN : Hid (BestI ps col (k + 1) bi fw) := HBI.out.pass (by rw [HPR.out, HED.out, hcol]; simp)
          clear hcol hPk hBk
          refine wp_region_bw (by kernel_rfl) (by kernel_rfl) ?_
          repeat (go_big_quiet_step (rfl))
          refine wpQuiet_nil ?_
          rintro _ ⟨d, rfl⟩
          have HBD := Lib.hid (HBV.out.trans (d.b.mono HBV.out.size))
          clear r0 r1 r2 r3 HL
          generalize d.w = Z at *
          go_wp2
          exact ⟨⟨k + 1, bi, fw, by omega, int_eq (by omega), rfl, rfl, HBN, HBD⟩, by simp [intOf]; omega⟩
        | none =>
          have HL : ∀ d : BW V.heap.size V, (Instr.lookup 114 (.map (some M)) (.agg #[.int .i64 (x : Int), .int .i64 (y : Int)]) true).run Tryd.prog d.w = .ok (.tuple #[.int .i64 0, .bool false]) d.w := fun d => by
            have := look_f edgeKind true (x, y) d.w M col (HPK.out.map.below d.b HPK.out.map.lt)
            rw [hcol] at this; exact this
          have HCN : Hid (col (pr (qa ps k)) = none) := by rw [HPR.out, HED.out, hcol]; trivial
          clear hcol hPk hBk
          refine wp_region_bw (by kernel_rfl) (by kernel_rfl) ?_
          repeat (go_big_quiet_step (rfl))
          refine wpQuiet_nil ?_
          rintro _ ⟨d, rfl⟩
          have HBD := Lib.hid (HBV.out.trans (d.b.mono HBV.out.size))
          have HPD := Lib.hid (HPK.out.below d.b)
          have HKD := Lib.hid (HBK.out.below d.b)
          have hbn := HVS.out.below d.b HVS.out.lt
          have hlD := (d.b.cell (p := ⟨lb, lq + k, none⟩) (by have := HBK.out.low.size; simp; omega)).trans hlV
          have hBlD := Nat.lt_of_lt_of_le (show lb < V.heap.size by have := HBK.out.low.size; omega) d.b.size
          clear r0 r1 r2 r3 HL hlV
          generalize d.w = Z at *
          go_upto_region 7 with (fail)
          have q0 : ∀ d : BW Z.heap.size Z, d.w.cell? ⟨bP, 0, none⟩ = some (.pointer (some ⟨p, 0, none⟩)) := fun d => d.cell HKD.out.kP.lt HKD.out.kP.cell
          have q1 : ∀ d : BW Z.heap.size Z, d.w.cell? ⟨bL, 0, none⟩ = some (.slice (some ⟨lb, lq, none⟩) ps.length lc) := fun d => d.cell HKD.out.kL.lt HKD.out.kL.cell
          have q2 : ∀ d : BW Z.heap.size Z, d.w.cell? ⟨bx, 0, none⟩ = some (.int .i64 (x : Int)) := fun d => d.cell (hbn.lt) (by rw [hbn.cell]; rfl)
          have q3 : ∀ d : BW Z.heap.size Z, d.w.cell? ⟨bx, 1, none⟩ = some (.int .i64 (y : Int)) := fun d => d.cell (hbn.lt) (by rw [hbn.cell]; rfl)
          have q4 : ∀ d : BW Z.heap.size Z, d.w.cell? ⟨lb, lq + k, none⟩ = some (.int .u64 (L k : Nat)) := fun d => d.cell hBlD hlD
          have q5 : ∀ d : BW Z.heap.size Z, d.w.cell? ⟨p, 2 + x, none⟩ = some (.int .u64 (us x : Nat)) := fun d => d.cell HPD.out.lt (HPD.out.cells.2.2.1 x hx16)
          have q6 : ∀ d : BW Z.heap.size Z, d.w.cell? ⟨p, 2 + y, none⟩ = some (.int .u64 (us y : Nat)) := fun d => d.cell HPD.out.lt (HPD.out.cells.2.2.1 y hy16)
          have i1 : (x : Int) < 16 := by omega
          have i2 : (0 : Int) ≤ (x : Int) := by omega
          have i3 : (y : Int) < 16 := by omega
          have i4 : (0 : Int) ≤ (y : Int) := by omega
          have a1 := bandNot64n (L k) (us x) (HF.out.L64 k) (HPD.out.sm x)
          have a2 := bandNot64n (ldiff (L k) (us x)) (us y) (Nat.lt_of_le_of_lt (ldiff_le _ _) (HF.out.L64 k)) (HPD.out.sm y)
          have hll : lft2 L us k x y < 18446744073709551616 := Nat.lt_of_le_of_lt lft2_le (HF.out.L64 k)
          have HONE : Hid (∀ d : BW Z.heap.size Z, Calls Tryd.prog 72 #[.int .u64 (ldiff (ldiff (L k) (us x)) (us y) : Nat)] d.w fun e w' => e = .returned (.int .i64 (size (lft2 L us k x y) : Nat)) ∧ ∃ d' : BW Z.heap.size Z, w' = d'.w) := fun d => (ones64 _ d.w hll).mono fun e w' ⟨h1, h2⟩ => ⟨h1, d, h2⟩
          have hsz := size_le (lft2 L us k x y)
          have HLL := Lib.hid hll
          have HNN := Lib.hid hbn
          clear hbn hlD hll HVS
          generalize size (lft2 L us k x y) = cnt at *
          refine wp_region_bw (by kernel_rfl) (by kernel_rfl) ?_
          repeat (go_big_quiet_step ((first
            | rfl
            | (go_at_call 72; exact HONE.out _))))
          refine wpQuiet_nil ?_
          rintro _ ⟨d, rfl⟩
          have HBD2 := Lib.hid (HBD.out.trans (d.b.mono HBD.out.size))
          clear q0 q1 q2 q3 q4 q5 q6 HONE a1 a2
          generalize d.w = Y at *
          by_cases hcf : (cnt : Int) < fw
          · have HBN : Hid (BestI ps col (k + 1) (k : Int) (cnt : Int)) := BestI.new HCN.out hsz
            go_wp2
            exact ⟨⟨k + 1, _, _, by omega, int_eq (by omega), rfl, rfl, HBN, HBD2⟩, by simp [intOf]; omega⟩
          · have HBN : Hid (BestI ps col (k + 1) bi fw) := HBI.out.leave hsz hcf
            go_wp2
            exact ⟨⟨k + 1, bi, fw, by omega, int_eq (by omega), rfl, rfl, HBN, HBD2⟩, by simp [intOf]; omega⟩
      · have h1 : ¬ (k : Int) < (ps.length : Int) := by omega
        have hke : k = ps.length := by omega
        rw [hke] at hbi
        rcases hbi.out with ⟨rfl, hf, hall⟩ | ⟨i, hi, rfl, hf0, hf64, hno⟩
        · have HAL := Lib.hid hall
          have HPD := Lib.hid (HP.out.below hbw.out)
          clear hall hke hf
          go_wp2
          go_ret
          exact HTryP.mk true us col rfl (Ag.of_below hbw.out) HPD.out HH.out (fun _ => HO.out.done HH.out HAL.out) (fun h => by cases h)
        · have hlt : i < ps.length := by omega
          obtain ⟨x, y, hqe, hpr, hed, hxy, hx16, hy16, hadj, hadj'⟩ := HF.out.E.at hlt
          have hB1 := HB.out.below hbw.out
          have hP1 := HP.out.below hbw.out
          obtain ⟨eb, eo, ea, helt, hec⟩ := HF.out.hE (fun e => by rw [e] at hlt; simp at hlt)
          obtain ⟨lb, lq, ela, hllt, hlc⟩ := HF.out.rL (fun e => by omega)
          have hk0 := hec i hlt
          rw [show ps[i]?.getD (0, 0) = ((x : Int), (y : Int)) from hqe] at hk0
          have e0 := (hB1.low.cell (p := ⟨eb, eo + i * 2, none⟩) helt).trans hk0.1
          have e1 := (hB1.low.cell (p := ⟨eb, eo + i * 2 + 1, none⟩) helt).trans hk0.2
          have hlk := (hB1.low.cell (p := ⟨lb, lq + i, none⟩) hllt).trans (hlc i hlt)
          have hBl : lb < wr.heap.size := Nat.lt_of_lt_of_le hllt hB1.low.size
          have k0 := hB1.kG.cell
          have k1 := (hB1.low.cell (p := ⟨G, 1, none⟩) HF.out.gr.lt).trans HF.out.gr.e
          have h2 : (i : Int) < (ps.length : Int) := by omega
          have h3 : (0 : Int) ≤ (i : Int) := by omega
          have h4 : ¬ (i : Int) < 0 := by omega
          subst ea
          subst ela
          have hcn : Hid (col (ed x y) = none) := by rw [← hpr]; exact hno
          have HB1 := Lib.hid hB1
          have HP1 := Lib.hid hP1
          have HPR := Lib.hid hpr
          have HED := Lib.hid hed
          have HADJ := Lib.hid (And.intro hadj hadj')
          have hLi := HF.out.L64 i
          clear hB1 hP1 hpr hqe hec hlc hk0 hadj hadj' hbi hno hed hke
          go_upto_region 14 with (fail)
          go_step3
          go_upto_region 14 with (fail)
          have hBV : Below wr.heap.size wr (wr.alloc (.cells #[.int .i64 (x : Int), .int .i64 (y : Int)] 72)) := (Below.refl _ wr).alloc (Nat.le_refl _) _
          have hbn : BoxN (wr.alloc (.cells #[.int .i64 (x : Int), .int .i64 (y : Int)] 72)) wr.heap.size 72 #[.int .i64 (x : Int), .int .i64 (y : Int)] := BoxN.new rfl
          obtain ⟨bx, hbx⟩ : ∃ bx, Hid (bx = wr.heap.size) := ⟨_, rfl⟩
          have hbxn : ¬ (bx = p ∨ bx = M) := by
            have h1 := HP.out.lt
            have h2 := HP.out.map.lt
            have h3 := hbw.out.size
            have h4 := hbx.out
            omega
          rw [← hbx.out] at hbn ⊢
          generalize (wr.alloc (.cells #[.int .i64 (x : Int), .int .i64 (y : Int)] 72)) = V at *
          have hBk := HB1.out.below hBV
          have hPk := HP1.out.below hBV
          have hlV := (hBV.cell (p := ⟨lb, lq + i, none⟩) hBl).trans hlk
          have hBlV := Nat.lt_of_lt_of_le hBl hBV.size
          have q0 : ∀ d : BW V.heap.size V, d.w.cell? ⟨bP, 0, none⟩ = some (.pointer (some ⟨p, 0, none⟩)) := fun d => d.cell hBk.kP.lt hBk.kP.cell
          have q1 : ∀ d : BW V.heap.size V, d.w.cell? ⟨bL, 0, none⟩ = some (.slice (some ⟨lb, lq, none⟩) ps.length lc) := fun d => d.cell hBk.kL.lt hBk.kL.cell
          have q2 : ∀ d : BW V.heap.size V, d.w.cell? ⟨bx, 0, none⟩ = some (.int .i64 (x : Int)) := fun d => d.cell (hbn.lt) (by rw [hbn.cell]; rfl)
          have q3 : ∀ d : BW V.heap.size V, d.w.cell? ⟨bx, 1, none⟩ = some (.int .i64 (y : Int)) := fun d => d.cell (hbn.lt) (by rw [hbn.cell]; rfl)
          have q4 : ∀ d : BW V.heap.size V, d.w.cell? ⟨lb, lq + i, none⟩ = some (.int .u64 (L i : Nat)) := fun d => d.cell hBlV hlV
          have q5 : ∀ d : BW V.heap.size V, d.w.cell? ⟨p, 2 + x, none⟩ = some (.int .u64 (us x : Nat)) := fun d => d.cell hPk.lt (hPk.cells.2.2.1 x hx16)
          have q6 : ∀ d : BW V.heap.size V, d.w.cell? ⟨p, 2 + y, none⟩ = some (.int .u64 (us y : Nat)) := fun d => d.cell hPk.lt (hPk.cells.2.2.1 y hy16)
          have i1 : (x : Int) < 16 := by omega
          have i2 : (0 : Int) ≤ (x : Int) := by omega
          have i3 : (y : Int) < 16 := by omega
          have i4 : (0 : Int) ≤ (y : Int) := by omega
          have a1 := bandNot64n (L i) (us x) hLi (hPk.sm x)
          have a2 := bandNot64n (ldiff (L i) (us x)) (us y) (Nat.lt_of_le_of_lt (ldiff_le _ _) hLi) (hPk.sm y)
          obtain ⟨lft, hlft⟩ : ∃ z, Hid (z = lft2 L us i x y) := ⟨_, rfl⟩
          rw [show ldiff (ldiff (L i) (us x)) (us y) = lft from hlft.out.symm] at a2
          have hlft64 : lft < 18446744073709551616 := by rw [hlft.out]; exact Nat.lt_of_le_of_lt lft2_le hLi
          have HBV := Lib.hid (hbw.out.trans (hBV.mono hbw.out.size))
          have HBK := Lib.hid hBk
          have HPK := Lib.hid hPk
          have HBN := Lib.hid hbn
          clear hBV hlk e0 e1 k0 k1 hbn hBk hPk hlV
          refine wp_region_bw (by kernel_rfl) (by kernel_rfl) ?_
          repeat (go_big_quiet_step (rfl))
          refine wpQuiet_nil ?_
          rintro _ ⟨d, rfl⟩
          have HBD := Lib.hid (HBV.out.trans (d.b.mono HBV.out.size))
          have HKD := Lib.hid (HBK.out.below d.b)
          have HPD := Lib.hid (HPK.out.below d.b)
          have HND := Lib.hid (HBN.out.below d.b HBN.out.lt)
          clear q0 q1 q2 q3 q4 q5 q6 a1 a2 HBV HBK HPK HBN hBlV HB1 HP1
          generalize d.w = Z at *
          go_upto_region 15 with (fail)
          go_loopw [13] (fun s13 wq => ∃ (left : Nat) (us3 : Nat → Nat), s13 = .int .u64 (left : Int) ∧ left < 18446744073709551616 ∧ Hid (∀ z, left.testBit z = true → lft.testBit z = true) ∧ Hid (∀ z, lft.testBit z = true → left.testBit z = false → ¬ HueExt g ps L (setF col (ed x y) (some z))) ∧ Hid (PaintAt wq p G M us3 col ∧ HInv g us3 col) ∧ Hid (Ag (fun k => k = p ∨ k = M) Z wq)) (fun s13 _ => (intOf s13).toNat)
          case atStart => exact ⟨lft, us, rfl, hlft64, fun z h => h, (fun z h1 h2 => by rw [h1] at h2; cases h2), ⟨HPD.out, HH.out⟩, Ag.refl _ _⟩
          case round =>
            obtain ⟨left, us3, rfl, hl64, hsub, hgone, hP3, hA3⟩ := hrel
            by_cases hl0 : left = 0
            · have hb : (((left : Nat) : Int) != 0) = false := by rw [hl0]; rfl
              have HAW := Lib.hid ((Ag.of_below (ex := fun k => k = p ∨ k = M) HBD.out).trans hA3.out)
              have HZ : Hid (¬ HueExt g ps L col) := fun hE => by
                obtain ⟨z, hz1, hz2⟩ := hE.step HH.out HP.out.sm HF.out.L64 hlt HPR.out hx16 hy16 hcn.out
                rw [← hlft.out] at hz1
                exact hgone.out z hz1 (by rw [hl0]; simp) hz2
              go_wp2
              go_ret
              exact HTryP.mk false us3 col rfl HAW.out hP3.out.1 hP3.out.2 (fun h => by cases h) (fun _ => ⟨fun _ => rfl, HZ.out⟩)
            · have hb : (((left : Nat) : Int) != 0) = true := by rw [bne_iff_ne]; omega
              have hlo := (lo_spec hl0 hl64).elim fun _ h => h.2
              have hlb := lo_bit hl0 hl64
              obtain ⟨z, hz⟩ : ∃ z, Hid (z = lo left) := ⟨_, rfl⟩
              rw [← hz.out] at hlo hlb
              have hK3 := HKD.out.ag hA3.out
              have hT3 := HF.out.tab.below hK3.low (Nat.le_refl _)
              have HTZ : Hid (∀ d : BW wr.heap.size wr, Calls Tryd.prog 80 #[.int .u64 (left : Int)] d.w fun e w' => e = .returned (.int .i64 (z : Int)) ∧ ∃ d' : BW wr.heap.size wr, w' = d'.w) := fun d => by
                refine (tz64_any left hl64 hl0 d.w (hT3.below d.b (Nat.le_refl _))).mono ?_
                rintro e w' ⟨h1, h2⟩
                exact ⟨by rw [h1, hz.out]; rfl, d, h2⟩
              have q0 : ∀ d : BW wr.heap.size wr, d.w.cell? ⟨bP, 0, none⟩ = some (.pointer (some ⟨p, 0, none⟩)) := fun d => d.cell hK3.kP.lt hK3.kP.cell
              have hN3 := hA3.out.boxN HND.out hbxn
              have q2 : ∀ d : BW wr.heap.size wr, d.w.cell? ⟨bx, 0, none⟩ = some (.int .i64 (x : Int)) := fun d => d.cell (hN3.lt) (by rw [hN3.cell]; rfl)
              have q3 : ∀ d : BW wr.heap.size wr, d.w.cell? ⟨bx, 1, none⟩ = some (.int .i64 (y : Int)) := fun d => d.cell (hN3.lt) (by rw [hN3.cell]; rfl)
              have HK3 := Lib.hid hK3
              have HN3 := Lib.hid hN3
              have HLZ : Hid (lft.testBit z = true) := hsub.out z hlb.1
              have HLB := Lib.hid hlb
              clear hK3 hT3 hN3 hlb
              go_upto_region 17 with (fail)
              refine wp_region_bw_tail 7 (by kernel_rfl) (by kernel_rfl) ?_
              simp only [List.take_succ_cons, List.take_zero, List.drop_succ_cons, List.drop_zero]
              repeat (go_big_quiet_step ((first
                | rfl
                | (go_at_call 80; exact HTZ.out _))))
              refine wpQuiet_nil ?_
              rintro _ ⟨d, rfl⟩
              have HP4 := Lib.hid (hP3.out.1.below d.b)
              have HA4 := Lib.hid (hA3.out.trans (Ag.of_below d.b))
              have HK4 := Lib.hid (HK3.out.below d.b)
              have HN4 := Lib.hid (HN3.out.below d.b HN3.out.lt)
              clear q0 q2 q3 HTZ HK3 HN3
              generalize d.w = Y at *
              have hbits := (lft2_bit (L := L) (us := us)).1 (by rw [← hlft.out]; exact HLZ.out)
              have hfx := (HH.out.free hx16 hlo).1 hbits.2.1
              have hfy := (HH.out.free hy16 hlo).1 hbits.2.2
              have HPU := Lib.hid (put_any p G M x y z us3 col Y HP4.out hx16 hy16 hxy hlo)
              have HI5 := Lib.hid (hP3.out.2.put hx16 hy16 hxy HADJ.out.1 HADJ.out.2 hlo hcn.out hfx hfy)
              have HO5 := Lib.hid (HO.out.put HF.out.E hlt HPR.out hbits.1)
              have HU5 := Lib.hid (unc_put (x := z) hlt HPR.out hcn.out)
              have HBX := Lib.hid (setF_back (x := z) hcn.out)
              clear hbits hfx hfy
              go_upto_region 18 with (go_at_call 79; refine (HPU.out).mono ?_; rintro e w5 ⟨rfl, hP5, hA5⟩; have HP5 := Lib.hid hP5; have HA5 := Lib.hid (HA4.out.trans hA5); have HK5 := Lib.hid (HK4.out.ag hA5); have HN5 := Lib.hid (hA5.boxN HN4.out hbxn); clear hP5 hA5)
              have HT := Lib.hid (IH.out w5 _ _ HU5.out HK5.out HP5.out HI5.out HO5.out)
              have kFc := HK5.out.kF.cell
              clear HPU HP4 HI5 HO5 HU5 HK4 HN4 HA4
              go_upto_if 110 with (go_at_call 78; refine (HT.out).mono ?_; rintro e w6 ⟨b6, us6, col6, rfl, hA6, hP6, hI6, hT6, hF6⟩; have HA6 := Lib.hid (HA5.out.trans hA6); have HP6 := Lib.hid hP6; have HI6 := Lib.hid hI6; have HT6 := Lib.hid hT6; have HF6 := Lib.hid hF6; have HK6 := Lib.hid (HK5.out.ag hA6); have HN6 := Lib.hid (hA6.boxN HN5.out hbxn); clear hA6 hP6 hI6 hT6 hF6)
              have HAW := Lib.hid ((Ag.of_below (ex := fun k => k = p ∨ k = M) HBD.out).trans HA6.out)
              cases b6 with
              | true =>
                go_wp2
                go_ret
                exact HTryP.mk true us6 col6 rfl HAW.out HP6.out HI6.out (fun _ => by first | exact HT6.out rfl | exact HT6.out trivial) (fun h => by cases h)
              | false =>
                have hF : (∀ e, col6 e = setF col (ed x y) (some z) e) ∧ ¬ HueExt g ps L (setF col (ed x y) (some z)) := by first | exact HF6.out rfl | exact HF6.out trivial
                have HFF := Lib.hid hF
                have hc6 : col6 (ed x y) = some z := by rw [hF.1]; unfold setF; rw [if_pos rfl]
                have HTK := Lib.hid (take_any p G M x y z us6 col6 w6 HP6.out hx16 hy16 hxy hlo hc6)
                have HI7 := Lib.hid (HI6.out.take hc6)
                have HE7 : Hid (∀ e, setF col6 (ed x y) none e = col e) := fun e => by
                  rw [← HBX.out e]; unfold setF
                  by_cases h : e = ed x y
                  · rw [if_pos h, if_pos h]
                  · rw [if_neg h, if_neg h, if_neg h, hF.1]; unfold setF; rw [if_neg h]
                have hsub2 : left &&& (left - 1) = ldiff left (pw z) := by rw [hz.out]; exact sub_one_and hl0 hl64
                have hlt2 : ldiff left (pw z) < left := by rw [← hsub2]; have : left &&& (left - 1) ≤ left - 1 := Nat.and_le_right; omega
                have hw1 : IntKind.u64.wrap ((left : Int) - 1) = ((left - 1 : Nat) : Int) := by rw [show ((left : Int) - 1) = ((left - 1 : Nat) : Int) by omega]; exact u64_same _ (by omega)
                have hand : bits BinOp.and IntKind.u64 (left : Int) (IntKind.u64.wrap ((left : Int) - 1)) = ((ldiff left (pw z) : Nat) : Int) := by rw [hw1, band64 _ _ hl64 (by omega), hsub2]
                have hand2 : bits BinOp.and IntKind.u64 (left : Int) ((left : Int) - 1) = ((ldiff left (pw z) : Nat) : Int) := by rw [show ((left : Int) - 1) = ((left - 1 : Nat) : Int) by omega, band64 _ _ hl64 (by omega), hsub2]
                have HS2 : Hid (∀ u, (ldiff left (pw z)).testBit u = true → lft.testBit u = true) := fun u hu => by
                  rw [testBit_ldiff, Bool.and_eq_true] at hu; exact hsub.out u hu.1
                have HG2 : Hid (∀ u, lft.testBit u = true → (ldiff left (pw z)).testBit u = false → ¬ HueExt g ps L (setF col (ed x y) (some u))) := fun u hu1 hu2 => by
                  rw [testBit_ldiff, pw, Nat.testBit_two_pow] at hu2
                  by_cases e : z = u
                  · subst e; exact hF.2
                  · exact hgone.out u hu1 (by simpa [e] using hu2)
                have HL2 := Lib.hid hlt2
                have hl2 : ldiff left (pw z) < 18446744073709551616 := by omega
                have hl1 : 1 ≤ left := by omega
                have k1 := HK6.out.kP.cell
                have k2 : w6.cell? ⟨bx, 0, none⟩ = some (.int .i64 (x : Int)) := by rw [HN6.out.cell]; rfl
                have k3 : w6.cell? ⟨bx, 1, none⟩ = some (.int .i64 (y : Int)) := by rw [HN6.out.cell]; rfl
                clear hw1 hsub2 hlt2 hF hc6 kFc
                generalize ldiff left (pw z) = left2 at *
                go_wp2_with (go_at_call 81; refine (HTK.out).mono ?_; rintro e w7 ⟨rfl, hP7, hA7⟩; have HP7 := Lib.hid (And.intro (hP7.congr HE7.out) (HI7.out.congr (fun e => (HE7.out e).symm))); have HA7 := Lib.hid (HA6.out.trans hA7); clear hP7 hA7)
                exact ⟨⟨left2, _, rfl, hl2, HS2, HG2, HP7, HA7⟩, by have := HL2.out; simp [intOf]; omega⟩
end Go.Proofs.YtpknnjcbcndbbaaDoor
namespace Go.Proofs.YtpknnjcbcndbbaaDoor
open Go.RowKit Go.Shelf

theorem info83 : (Tryd.prog.info? 83).map (fun i => (i.zero, i.size, i.bytes)) = some (some (.int .u64 0), 1, 8) := by kernel_rfl
theorem make_82 (n : Nat) (hn : n ≤ 1099511627776) : ∃ vs : Array Value, vs.size = n ∧ (∀ j, j < n → vs[j]? = some (.int .u64 0)) ∧
    ∀ W, Sem.run Tryd.prog (Instr.makeSlice 82 (.int .i64 (n : Int)) (.int .i64 (n : Int))) W = .ok (.slice (some ⟨W.heap.size, 0, none⟩) n n) (W.alloc (.cells vs 83)) := by
  obtain ⟨i0, hi, hz0, hz1, hz2⟩ := info_parts info83
  refine ⟨madeCells #[.int .u64 0] n, size_madeCells _ _, fun j hj => ?_, fun W => ?_⟩
  · rw [← Array.getElem?_toList, toList_madeCells_one, List.getElem?_replicate, if_pos hj]
  · have := run_make (P := Tryd.prog) W 82 83 i0 _ Tryd.underlying82 hi hz0 .i64 .i64 (n : Int) (n : Int) (by omega) (Int.le_refl _) (by rw [hz2]; omega) (by omega)
    rw [hz1, show (Value.int .u64 0).cells = #[.int .u64 0] from rfl] at this
    simpa using this
/-- block B is a row of n sets of 64 -/
def RowUB (W : World) (B n : Nat) (f : Nat → Nat) : Prop := ∃ vs, BoxN W B 83 vs ∧ vs.size = n ∧ ∀ j, j < n → vs[j]? = some (.int .u64 (f j : Nat))
section
variable {W W' : World} {B n : Nat} {f f' : Nat → Nat}
theorem RowUB.lt (h : RowUB W B n f) : B < W.heap.size := h.elim fun _ h => h.1.lt
theorem RowUB.cell (h : RowUB W B n f) {x : Nat} (hx : x < n) : W.cell? ⟨B, x, none⟩ = some (.int .u64 (f x : Nat)) := by
  obtain ⟨vs, h1, h2, h3⟩ := h
  rw [h1.cell]; exact h3 x hx
theorem RowUB.frozen (h : RowUB W B n f) (x : Nat) : W.frozen? ⟨B, x, none⟩ = false := by
  obtain ⟨vs, h1, _⟩ := h
  exact h1.frozen x
theorem RowUB.block (h : RowUB W B n f) (hb : W'.heap[B]? = W.heap[B]?) : RowUB W' B n f := by
  obtain ⟨vs, h1, h2⟩ := h
  exact ⟨vs, hb.trans h1, h2⟩
theorem RowUB.below {k : Nat} (h : RowUB W B n f) (hB : Below k W W') (hk : B < k) : RowUB W' B n f := h.block (hB.block B hk)
theorem RowUB.set (h : RowUB W B n f) {x : Nat} (v : Nat) : RowUB (W.setCell ⟨B, x, none⟩ (.int .u64 (v : Int))) B n (fun j => if j = x then v else f j) := by
  obtain ⟨vs, h1, h2, h3⟩ := h
  refine ⟨_, h1.set x (.int .u64 (v : Int)), by simpa using h2, fun j hj => ?_⟩
  by_cases e : j = x
  · subst e; rw [Array.getElem?_setIfInBounds_self_of_lt (by omega)]; simp
  · rw [Array.getElem?_setIfInBounds_ne (Ne.symm e)]; simp only [if_neg e]; exact h3 j hj
theorem RowUB.congr (h : RowUB W B n f) (e : ∀ x, x < n → f x = f' x) : RowUB W B n f' := by
  obtain ⟨vs, h1, h2, h3⟩ := h
  exact ⟨vs, h1, h2, fun j hj => by rw [h3 j hj, e j hj]⟩
theorem RowUB.toU (h : RowUB W B n f) : RowU W (some ⟨B, 0, none⟩) n f := fun _ => ⟨B, 0, rfl, h.lt, fun x hx => by rw [Nat.zero_add]; exact h.cell hx⟩
end
/-- the first k hues -/
def low (k : Nat) : Nat := 2 ^ k - 1
theorem low_bit (k j : Nat) : (low k).testBit j = decide (j < k) := Nat.testBit_two_pow_sub_one k j
theorem low_lt {k : Nat} (h : k ≤ 63) : low k < 18446744073709551616 := by
  have := Nat.pow_le_pow_right (n := 2) (by decide) h
  unfold low; omega
theorem low_cast {k : Nat} (hk : k ≤ 63) : IntKind.u64.wrap ((2 : Int) ^ k - 1) = ((low k : Nat) : Int) := by
  have h1 := Nat.one_le_two_pow (n := k)
  have h2 := low_lt hk
  rw [show (2 : Int) ^ k = ((2 ^ k : Nat) : Int) by simp, show ((2 ^ k : Nat) : Int) - 1 = ((low k : Nat) : Int) by unfold low; omega]
  exact u64_same _ h2
/-- k colours are enough -/
def ColK (g : List Nat) (n k : Nat) : Prop := ∃ c, ColOK g n (fun _ => low k) c
theorem colK_self {g : List Nat} {n : Nat} (U : Und g n) : ColK g n n := ⟨fun v => v, fun v hv => by rw [low_bit]; simpa using hv, fun v w ha => U.ne _ _ ha⟩
/-- k is the least number of colours -/
def ChrIs (g : List Nat) (n k : Nat) : Prop := 1 ≤ k ∧ ColK g n k ∧ ∀ j, 1 ≤ j → j < k → ¬ ColK g n j
theorem ChrIs.le {g : List Nat} {n k : Nat} (U : Und g n) (hn : 1 ≤ n) (h : ChrIs g n k) : k ≤ n := Nat.le_of_not_lt fun hc => h.2.2 n hn hc (colK_self U)
/-- what is returned -/
def ChrP (g : List Nat) (n : Nat) (w : World) (e : Ending) (w' : World) : Prop := ∃ k ob c, e = .returned (.tuple #[.int .i64 (k : Nat), .slice (some ⟨ob, 0, none⟩) n n, .int .i64 0]) ∧ ChrIs g n k ∧ w.heap.size ≤ ob ∧ RowB w' ob n (fun v => (c v : Int)) ∧ (∀ v, c v < 64) ∧ ColOK g n (fun _ => low k) c
set_option maxRecDepth 100000 in
set_option maxHeartbeats 4000000 in
theorem Chromatic_ok (n : Nat) (a : Option Addr) (cap : Nat) (ps : List (Int × Int)) (w : World) (hT : Tab w) (hG : Good n ps a w) (hn10 : n ≤ 10) :
    Calls Tryd.prog 46 #[.int .i64 (n : Int), .slice a ps.length cap] w fun e w' => ChrP (ofE n ps) n w e w' ∧ Below w.heap.size w w' := by
  have HO := Lib.hid (gopen_ok n a cap ps w hG.hl hG.hg hG.n1 hG.n2 hG.ok)
  have HU := Lib.hid (und_ofE hG.ok)
  have HSM := Lib.hid (ofE_sm hG.n2 hG.ok)
  have HT := Lib.hid hT
  have hn1 := hG.n1
  obtain ⟨g, hg⟩ : ∃ g, Hid (g = ofE n ps) := ⟨_, rfl⟩
  rw [← hg.out] at HO HU HSM ⊢
  obtain ⟨vs0, hv1, hv2, HMK⟩ := make_82 n (by omega)
  have HV1 := Lib.hid hv1
  have HV2 := Lib.hid hv2
  have hnn : ¬ 10 < (n : Int) := by omega
  have hnd : decide (10 < (n : Int)) = false := decide_eq_false hnn
  clear hT hG hv1 hv2
  go_enter Tryd.func46, Tryd.ntmps46
  go_upto_region 7 with (first
    | (go_at_call 52; refine HO.out.mono ?_; rintro e w1 ⟨B, rfl, hBl, hg1, hb1⟩; have HG1 := Lib.hid hg1; have HB1 := Lib.hid hb1; clear hBl hg1 hb1))
  go_loopw [9] (fun s9 wr => ∃ k : Nat, 1 ≤ k ∧ k ≤ n ∧ s9 = .int .i64 (k : Int) ∧ Hid (Below w1.heap.size w1 wr) ∧ Hid (∀ j, 1 ≤ j → j < k → ¬ ColK g n j)) (fun s9 _ => 40 - (intOf s9).toNat)
  case atStart => exact ⟨1, by omega, by omega, rfl, Below.refl _ _, fun j h1 h2 => by omega⟩
  case round =>
    obtain ⟨k, hk1, hkn, rfl, hB, hno⟩ := hrel
    obtain ⟨wo, hwo⟩ : ∃ wo, Hid (wo = wr) := ⟨_, rfl⟩
    rw [← hwo.out] at hB ⊢
    clear hwo
    go_upto_region 9 with (fail)
    obtain ⟨b, hb⟩ : ∃ b, Hid (b = wo.heap.size) := ⟨_, rfl⟩
    have hR0 : RowUB (wo.alloc (.cells vs0 83)) b n (fun _ => 0) := ⟨vs0, boxN_at hb.out, HV1.out, fun j hj => HV2.out j hj⟩
    have hBV : Below wo.heap.size wo (wo.alloc (.cells vs0 83)) := (Below.refl _ _).alloc (Nat.le_refl _) _
    rw [← hb.out] at hBV ⊢
    generalize (wo.alloc (.cells vs0 83)) = V at *
    have HR0 := Lib.hid hR0
    have HBV := Lib.hid hBV
    have hk63 : k ≤ 63 := by omega
    have hpw := pow64 k (by omega)
    have hwk : IntKind.u64.wrap (k : Int) = (k : Int) := u64_same _ (by omega)
    have hlw : IntKind.u64.wrap ((2 : Int) ^ k - 1) = ((low k : Nat) : Int) := low_cast hk63
    clear hR0 hBV
    go_upto_region 10 with (fail)
    go_loopw [31] (fun s31 wq => ∃ j : Nat, j ≤ n ∧ s31 = .int .i64 (j : Int) ∧ Hid (RowUB wq b n (fun v => if v < j then low k else 0)) ∧ Hid (Ag (fun x => x = b) V wq)) (fun s31 _ => 40 - (intOf s31).toNat)
    case atStart => exact ⟨0, by omega, rfl, HR0.out.congr fun x _ => by simp, Ag.refl _ _⟩
    case round =>
      obtain ⟨j, hj, rfl, hR, hA⟩ := hrel
      by_cases hjn : j < n
      · have h1 : (j : Int) < (n : Int) := by omega
        have h2 : (0 : Int) ≤ (j : Int) := by omega
        have hf := hR.out.frozen j
        have hc := hR.out.cell hjn
        have HRN : Hid (RowUB (wr.setCell ⟨b, j, none⟩ (.int .u64 ((low k : Nat) : Int))) b n (fun v => if v < j + 1 then low k else 0)) := (hR.out.set (low k)).congr fun x _ => by
          by_cases e : x = j
          · subst e; simp
          · rw [if_neg e]
            by_cases h : x < j
            · rw [if_pos h, if_pos (by omega)]
            · rw [if_neg h, if_neg (by omega)]
        have HAN := Lib.hid (hA.out.set ⟨b, j, none⟩ (.int .u64 ((low k : Nat) : Int)) (.inr rfl))
        go_wp2
        exact ⟨⟨j + 1, by omega, int_eq (by omega), HRN, HAN⟩, by simp [intOf]; omega⟩
      · have h1 : ¬ (j : Int) < (n : Int) := by omega
        have hje : j = n := by omega
        have hRL : RowUB wr b n (fun _ => low k) := hR.out.congr fun x hx => by rw [if_pos (by omega)]
        have hVs : b < V.heap.size := HR0.out.lt
        have hBr : Below wo.heap.size wo wr := hA.out.below (by rw [← hb.out]; exact HBV.out) (by rw [← hb.out]; omega) (fun x hx e => by have := hb.out; omega)
        have hB1r := hB.out.trans (hBr.mono hB.out.size)
        have hBwr := HB1.out.trans (hB1r.mono HB1.out.size)
        have HC := Lib.hid (colours_any B n a cap ps.length g b 0 n (fun _ => low k) wr (HT.out.below hBwr (Nat.le_refl _)) (HG1.out.below hB1r (Nat.le_refl _)) HSM.out HU.out hn1 (by omega) (fun _ => low_lt hk63) ⟨hRL.lt, fun v hv => by rw [Nat.zero_add]; exact hRL.cell hv⟩)
        have HB1R := Lib.hid hB1r
        have HBWR := Lib.hid hBwr
        clear hB1r hBwr hBr hRL hR hA hje hVs
        go_upto_if 48 with (go_at_call 70; refine (HC.out).mono ?_; rintro e w6 ⟨hcp, hb6⟩; have HB6 := Lib.hid (HB1R.out.trans (hb6.mono HB1R.out.size)); have HB7 := Lib.hid (HBWR.out.trans (hb6.mono HBWR.out.size)); clear hb6; rcases hcp with ⟨rfl, hcn⟩ | ⟨ob, c6, rfl, hob, hrb, hc64, hok⟩)
        · have hkn2 : k < n := Nat.lt_of_le_of_ne hkn fun e => hcn (by rw [e]; exact colK_self HU.out)
          have HNO : Hid (∀ j, 1 ≤ j → j < k + 1 → ¬ ColK g n j) := fun j h1 h2 => by
            by_cases e : j = k
            · subst e; exact hcn
            · exact hno.out j h1 (by omega)
          clear hcn
          go_wp2
          exact ⟨⟨k + 1, by omega, by omega, int_eq (by omega), HB6, HNO⟩, by simp [intOf]; omega⟩
        · have HK : Hid (ColOK g n (fun _ => low k) c6) := hok
          have HRB := Lib.hid hrb
          have HC6 := Lib.hid hc64
          have hobw : w.heap.size ≤ ob := Nat.le_trans HBWR.out.size hob
          clear hok hrb hc64 hob
          go_wp2
          refine bodyPost_ret (v := .tuple #[.int .i64 (k : Nat), .slice (some ⟨ob, 0, none⟩) n n, .int .i64 0]) (by simp [results, Tryd.f46, go_sem]) rfl ?_
          exact ⟨⟨k, ob, c6, rfl, ⟨hk1, ⟨c6, HK.out⟩, hno.out⟩, hobw, HRB.out, HC6.out, HK.out⟩, HB7.out⟩
end Go.Proofs.YtpknnjcbcndbbaaDoor
namespace Go.Proofs.YtpknnjcbcndbbaaDoor
open Go.RowKit Go.Shelf

/-- what is returned -/
def ChosenP (g : List Nat) (ps : List (Int × Int)) (L : Nat → Nat) (w : World) (e : Ending) (w' : World) : Prop :=
  (e = .returned (.tuple #[.slice none 0 0, .bool false]) ∧ ¬ ∃ col, HueOK g ps L col) ∨ ∃ v us col, e = .returned (.tuple #[v, .bool true]) ∧ QRow w' w.heap.size 3 1 v ps.length (hl col ps) ∧ HInv g us col ∧ HueOK g ps L col
set_option maxRecDepth 100000 in
set_option maxHeartbeats 4000000 in
theorem chosen_any (G n : Nat) (a la : Option Addr) (cap lc : Nat) (g : List Nat) (ps : List (Int × Int)) (L : Nat → Nat) (w : World) (F : HFix w G n a la cap g ps L) :
    Calls Tryd.prog 55 #[.pointer (some ⟨G, 0, none⟩), .slice la ps.length lc] w fun e w' => ChosenP g ps L w e w' ∧ Below w.heap.size w w' := by
  have HF := Lib.hid F
  obtain ⟨s, hs⟩ : ∃ s, Hid (s = w.heap.size) := ⟨_, rfl⟩
  have hGs : G < s := by rw [hs.out]; exact F.gr.lt
  clear F
  go_enter Tryd.func55, Tryd.ntmps55
  go_upto_region 1 with (fail)
  have k0 := (boxed_at (W := w) (B := s) (t := 79) (v := .pointer (some ⟨G, 0, none⟩)) hs.out).alloc (.cells #[.slice la ps.length lc] 82)
  have k1 := boxed_at (W := w.alloc (.cells #[.pointer (some ⟨G, 0, none⟩)] 79)) (B := s + 1) (t := 82) (v := .slice la ps.length lc) (by simp [hs.out])
  have hBV : Below w.heap.size w ((w.alloc (.cells #[.pointer (some ⟨G, 0, none⟩)] 79)).alloc (.cells #[.slice la ps.length lc] 82)) := ((Below.refl _ w).alloc (Nat.le_refl _) _).alloc (by simp) _
  have hsV : ((w.alloc (.cells #[.pointer (some ⟨G, 0, none⟩)] 79)).alloc (.cells #[.slice la ps.length lc] 82)).heap.size = s + 1 + 1 := by simp [hs.out]
  rw [← hs.out] at hBV ⊢
  generalize ((w.alloc (.cells #[.pointer (some ⟨G, 0, none⟩)] 79)).alloc (.cells #[.slice la ps.length lc] 82)) = V at *
  have HNP := Lib.hid (newPaint_any G V)
  rw [hsV] at HNP
  have K0 := Lib.hid k0
  have K1 := Lib.hid k1
  have HBV := Lib.hid hBV
  have k0c := k0.cell
  clear k0 k1 hBV hsV
  go_upto_region 2 with (go_at_call 77; refine (HNP.out).mono ?_; rintro e w1 ⟨rfl, hp1, hb1⟩; have HP1 := Lib.hid hp1; have HB1 := Lib.hid hb1; clear hp1 hb1)
  obtain ⟨z, hz⟩ : ∃ z, Hid (z = w1.heap.size) := ⟨_, rfl⟩
  have hpz : s + 1 + 1 + 1 < z := by rw [hz.out]; exact HP1.out.lt
  go_upto_region 3 with (fail)
  have y0 := (Boxed.keep K0.out HB1.out (by omega)).alloc (.cells #[.pointer (some ⟨s + 1 + 1 + 1, 0, none⟩)] 112) |>.alloc (.cells #[.nilFunc] 29)
  have y1 := (Boxed.keep K1.out HB1.out (by omega)).alloc (.cells #[.pointer (some ⟨s + 1 + 1 + 1, 0, none⟩)] 112) |>.alloc (.cells #[.nilFunc] 29)
  have y2 := (boxed_at (W := w1) (B := z) (t := 112) (v := .pointer (some ⟨s + 1 + 1 + 1, 0, none⟩)) hz.out).alloc (.cells #[.nilFunc] 29)
  have y3 := boxed_at (W := w1.alloc (.cells #[.pointer (some ⟨s + 1 + 1 + 1, 0, none⟩)] 112)) (B := z + 1) (t := 29) (v := .nilFunc) (by simp [hz.out])
  have yB : Below w1.heap.size w1 ((w1.alloc (.cells #[.pointer (some ⟨s + 1 + 1 + 1, 0, none⟩)] 112)).alloc (.cells #[.nilFunc] 29)) := ((Below.refl _ w1).alloc (Nat.le_refl _) _).alloc (by simp) _
  have hV2 : s + 1 + 1 ≤ w1.heap.size := by have := hz.out; omega
  have yS : ((w1.alloc (.cells #[.pointer (some ⟨s + 1 + 1 + 1, 0, none⟩)] 112)).alloc (.cells #[.nilFunc] 29)).heap.size = z + 1 + 1 := by simp [hz.out]
  rw [← hz.out]
  generalize ((w1.alloc (.cells #[.pointer (some ⟨s + 1 + 1 + 1, 0, none⟩)] 112)).alloc (.cells #[.nilFunc] 29)) = X at *
  have Y0 := Lib.hid y0
  have Y1 := Lib.hid y1
  have Y2 := Lib.hid y2
  have Y3 := Lib.hid y3
  have YB := Lib.hid yB
  have y3c := y3.cell
  have y3f := y3.frozen
  clear y0 y1 y2 y3 yB k0c
  go_upto_region 4 with (fail)
  obtain ⟨fv, hfv⟩ : ∃ fv, fv = Value.func (.func 78) #[] #[.pointer (some ⟨s, 0, none⟩), .pointer (some ⟨z, 0, none⟩), .pointer (some ⟨s + 1, 0, none⟩), .pointer (some ⟨z + 1, 0, none⟩)] := ⟨_, rfl⟩
  rw [← hfv]
  have x3 := Y3.out.set fv
  have xB : Below w1.heap.size w1 (X.setCell ⟨z + 1, 0, none⟩ fv) := YB.out.setCell (p := ⟨z + 1, 0, none⟩) (by simp [hz.out]) _
  have x2 := Y2.out.other (B' := z + 1) (by omega) fv
  have x1 := Y1.out.other (B' := z + 1) (by omega) fv
  have x0 := Y0.out.other (B' := z + 1) (by omega) fv
  generalize (X.setCell ⟨z + 1, 0, none⟩ fv) = Z at *
  have hBZ : Below w.heap.size w Z := by
    have h1 := HBV.out
    rw [hs.out] at h1
    exact h1.trans ((HB1.out.mono (by have := hs.out; omega)).trans (xB.mono (by have := hz.out; have := hs.out; omega)))
  have hHB : Hid (HBase w Z s z (s + 1) (z + 1) G (s + 1 + 1 + 1) (s + 1 + 1) la lc ps.length) := ⟨hBZ, x0, x2, x1, hfv ▸ x3, by have := hs.out; omega, by omega⟩
  have hPZ : Hid (PaintAt Z (s + 1 + 1 + 1) G (s + 1 + 1) (fun _ => 0) (fun _ => none)) := HP1.out.below xB
  have HTR := Lib.hid (htry_any HF.out (unc ps (fun _ => none) + 1) Z (fun _ => 0) (fun _ => none) (by omega) hHB.out hPZ.out HInv.empty (fun i hi h e => by cases e))
  have x3c := x3.cell
  have hpn : Hid (s + 1 + 1 + 1 ≠ z) := by unfold Hid; omega
  rw [hfv] at x3c
  clear hfv x3 x2 x1 x0 xB hBZ y3c y3f
  go_upto_if 13 with (go_at_call 78; refine (HTR.out).mono ?_; rintro e w6 ⟨b6, us6, col6, rfl, hA6, hP6, hI6, hT6, hF6⟩; have HK6 := Lib.hid (hHB.out.ag hA6); have HP6 := Lib.hid hP6; have HI6 := Lib.hid hI6; have HT6 := Lib.hid hT6; have HF6 := Lib.hid hF6; clear hA6 hP6 hI6 hT6 hF6)
  have x6c := HK6.out.kP.cell
  clear x3c HTR HNP
  cases b6 with
  | false =>
    go_wp2
    refine bodyPost_ret (v := .tuple #[.slice none 0 0, .bool false]) (by simp [results, Tryd.f55, go_sem]) rfl ?_
    exact ⟨.inl ⟨rfl, fun ⟨c, hc⟩ => (show (∀ e, col6 e = none) ∧ ¬ HueExt g ps L (fun _ => none) from (by first | exact HF6.out rfl | exact HF6.out trivial)).2 ⟨c, hc, fun _ _ h => by cases h⟩⟩, HK6.out.low⟩
  | true =>
    have HL := Lib.hid (list_any (s + 1 + 1 + 1) G (s + 1 + 1) n a cap g us6 col6 ps w6 (HF.out.gr.below HK6.out.low (Nat.le_refl _)) (HF.out.hE.below HK6.out.low (Nat.le_refl _)) HP6.out (fun q hq => by
        obtain ⟨j, hj⟩ := List.getElem?_of_mem hq
        obtain ⟨x, y, h1, _⟩ := HF.out.E.edge j (List.getElem?_eq_some_iff.1 hj).1
        rw [hj] at h1; cases h1; exact ⟨by simp, by simp⟩) HF.out.len)
    go_wp2_with (go_at_call 82; refine (HL.out).mono ?_; rintro e w7 ⟨v7, rfl, hq7, hb7⟩; obtain ⟨s1, s2, rfl⟩ := hq7.isSlice; have HQ7 := Lib.hid hq7; have HB7 := Lib.hid hb7; clear hq7 hb7)
    refine bodyPost_ret (v := .tuple #[.slice s1 ps.length s2, .bool true]) (by simp [results, Tryd.f55, go_sem]) rfl ?_
    exact ⟨.inr ⟨_, us6, col6, rfl, HQ7.out.mono HK6.out.low.size, HI6.out, (by first | exact HT6.out rfl | exact HT6.out trivial)⟩, HK6.out.low.trans (HB7.out.mono HK6.out.low.size)⟩
end Go.Proofs.YtpknnjcbcndbbaaDoor
namespace Go.Proofs.YtpknnjcbcndbbaaDoor
open Go.RowKit Go.Shelf

/-- the edges of the first k vertices of a set within it, each end counted -/
def sumW (g : List Nat) (s : Nat) : Nat → Nat
  | 0 => 0
  | k + 1 => sumW g s k + if s.testBit k = true then wtn g k s else 0
theorem sumW_le (g : List Nat) (s : Nat) : ∀ k, sumW g s k ≤ 64 * k
  | 0 => Nat.le_refl _
  | k + 1 => by
    have := sumW_le g s k
    have h : wtn g k s ≤ 64 := size_le _
    unfold sumW
    split <;> omega
theorem sumW_yes {g : List Nat} {s k : Nat} (h : s.testBit k = true) : sumW g s (k + 1) = sumW g s k + wtn g k s := by rw [sumW, if_pos h]
theorem sumW_no {g : List Nat} {s k : Nat} (h : s.testBit k = false) : sumW g s (k + 1) = sumW g s k := by rw [sumW, if_neg (by rw [h]; decide)]; rfl
/-- a set of an odd number of vertices with more edges than d hues have room for -/
def Over (g : List Nat) (n d s : Nat) : Prop := size s % 2 = 1 ∧ d * (size s - 1) < sumW g s n
def FullP (g : List Nat) (n : Nat) (w : World) (e : Ending) (w' : World) : Prop := (∃ b, e = .returned (.bool b) ∧ (b = true → ∃ s, s < pw n ∧ Over g n (dgTo g 16) s) ∧ (b = false → ∀ s, s < pw n → ¬ Over g n (dgTo g 16) s)) ∧ w' = w
theorem dgTo_le64 (g : List Nat) : ∀ k, dgTo g k ≤ 64
  | 0 => by unfold dgTo; omega
  | k + 1 => by unfold dgTo; have := dgTo_le64 g k; have := size_le (g[k]?.getD 0); omega
set_option maxRecDepth 100000 in
set_option maxHeartbeats 4000000 in
theorem isFull_any (G n : Nat) (a : Option Addr) (cap len : Nat) (g : List Nat) (w : World) (hg : GraphAt w G n a cap len g) (hsm : ∀ i : Nat, Sm (g[i]?.getD 0)) (hn : n ≤ 16) :
    Calls Tryd.prog 54 #[.pointer (some ⟨G, 0, none⟩)] w (FullP g n w) := by
  have HW : Hid (∀ v s : Nat, v < 16 → Sm s → Calls Tryd.prog 62 #[.pointer (some ⟨G, 0, none⟩), .int .i64 (v : Int), .int .i64 (s : Int)] w fun e w' => e = .returned (.int .i64 (wtn g v s : Nat)) ∧ w' = w) := fun v s hv hs => within_any G n v s a cap len g w hg hsm hs hv
  have HD := Lib.hid (degree_any G n a cap len g w hg hsm)
  have hd64 := dgTo_le64 g 16
  have hgn := hg.n
  clear hg hsm
  have hpn : wrap64 (2 ^ n) = ((pw n : Nat) : Int) := pw_cast _ (by omega)
  have hspn : Sm (pw n) := sm_pw (by omega)
  have hwn : IntKind.u64.wrap (n : Int) = (n : Int) := u64_same _ (by omega)
  obtain ⟨d, hd⟩ : ∃ d, Hid (d = dgTo g 16) := ⟨_, rfl⟩
  rw [← hd.out] at HD hd64
  go_enter Tryd.func54, Tryd.ntmps54
  go_upto_region 2 with (fail)
  go_loopw [13] (fun s13 wr => ∃ t : Nat, t ≤ pw n ∧ s13 = .int .i64 (t : Int) ∧ Hid (∀ s, s < t → ¬ Over g n d s) ∧ Hid (wr = w)) (fun s13 _ => pw n - (intOf s13).toNat)
  case atStart => exact ⟨0, by omega, rfl, (fun s h => by omega), rfl⟩
  case round =>
    obtain ⟨t, ht, rfl, hno, hw⟩ := hrel
    rw [hw.out]
    by_cases htn : t < pw n
    · have h1 : (t : Int) < ((pw n : Nat) : Int) := by omega
      have hst : Sm t := Nat.lt_trans htn hspn
      have ht20 : t < 1048576 := hst
      have h64 : Hid (t < 18446744073709551616) := Nat.lt_trans hst (by decide)
      have hwt : IntKind.u64.wrap ((t : Nat) : Int) = ((t : Nat) : Int) := u64_same _ h64.out
      have hsz := size_le t
      have HSZ := Lib.hid (ones t w h64)
      obtain ⟨m, hm⟩ : ∃ m, Hid (m = size t) := ⟨_, rfl⟩
      rw [← hm.out] at hsz HSZ
      go_upto_region 6 with (go_at_call 76; refine (HSZ.out).mono ?_; rintro e w' ⟨rfl, hw'⟩; subst hw'; try dsimp only)
      go_loopw [5, 23] (fun s5 s23 wr2 => ∃ k : Nat, k ≤ n ∧ s23 = .int .i64 (k : Int) ∧ s5 = .int .i64 (sumW g t k : Nat) ∧ Hid (wr2 = w')) (fun _ s23 _ => 40 - (intOf s23).toNat)
      case atStart => exact ⟨0, by omega, rfl, rfl, rfl⟩
      case round =>
        obtain ⟨k, hk, rfl, rfl, hw2⟩ := hrel
        rw [hw2.out]
        have hsl := sumW_le g t k
        have h64k : 64 * k ≤ 1024 := by omega
        by_cases hkn : k < n
        · have h2 : (k : Int) < (n : Int) := by omega
          have hwk : IntKind.u64.wrap (k : Int) = (k : Int) := u64_same _ (by omega)
          cases hbit : t.testBit k with
          | false =>
            have hs := Lib.hid (sumW_no (g := g) hbit)
            generalize sumW g t k = sm at *
            go_wp2
            exact ⟨⟨k + 1, by omega, int_eq (by omega), by rw [hs.out], Lib.hid trivial⟩, by simp [intOf]; omega⟩
          | true =>
            have hs := Lib.hid (sumW_yes (g := g) hbit)
            have HC := Lib.hid (HW.out k t (by omega) hst)
            have hwl : wtn g k t ≤ 64 := size_le _
            generalize sumW g t k = sm at *
            generalize wtn g k t = wt at *
            go_wp2_with (go_at_call 62; refine Calls.mono HC.out ?_; rintro e w' ⟨rfl, hw'⟩; subst hw'; try dsimp only)
            exact ⟨⟨k + 1, by omega, int_eq (by omega), by rw [hs.out]; exact int_eq (by omega), Lib.hid trivial⟩, by simp [intOf]; omega⟩
        · have h2 : ¬ (k : Int) < (n : Int) := by omega
          have hke : k = n := by omega
          rw [hke] at hsl h64k ⊢
          clear hke
          by_cases hodd : m % 2 = 1
          · have hm1 : 1 ≤ m := by omega
            have o1 : ((m : Int) % 2 == 1) = true := by rw [beq_iff_eq]; omega
            have o2 : ((m : Int) % 2) = 1 := by omega
            have hmul : d * (m - 1) ≤ 64 * 64 := Nat.mul_le_mul hd64 (by omega)
            have hov : Hid (Over g n d t ↔ d * (m - 1) < sumW g t n) := by unfold Hid Over; rw [← hm.out]; exact ⟨fun h => h.2, fun h => ⟨hodd, h⟩⟩
            have hprod : (d : Int) * ((m : Int) - 1) = ((d * (m - 1) : Nat) : Int) := by rw [show (m : Int) - 1 = ((m - 1 : Nat) : Int) by omega]; simp
            generalize d * (m - 1) = pr at *
            generalize sumW g t n = sm at *
            by_cases hlt : pr < sm
            · have h3 : ((pr : Nat) : Int) < ((sm : Nat) : Int) := by omega
              have HO : Hid (Over g n d t) := hov.out.2 hlt
              clear hodd
              go_wp2_with (go_at_call 53; refine Calls.mono HD.out ?_; rintro e w' ⟨rfl, hw'⟩; subst hw'; try dsimp only)
              go_ret
              exact ⟨⟨true, rfl, fun _ => ⟨t, htn, by rw [← hd.out]; exact HO.out⟩, fun h => by cases h⟩, rfl⟩
            · have h3 : ¬ ((pr : Nat) : Int) < ((sm : Nat) : Int) := by omega
              have HO : Hid (∀ s, s < t + 1 → ¬ Over g n d s) := fun s hs => by
                by_cases e : s = t
                · subst e; exact fun h => hlt (hov.out.1 h)
                · exact hno.out s (by omega)
              clear hodd
              go_wp2_with (go_at_call 53; refine Calls.mono HD.out ?_; rintro e w' ⟨rfl, hw'⟩; subst hw'; try dsimp only)
              exact ⟨⟨t + 1, by omega, int_eq (by omega), HO, Lib.hid trivial⟩, by simp [intOf]; omega⟩
          · have o1 : ((m : Int) % 2 == 1) = false := by rw [beq_eq_false_iff_ne]; omega
            have HO : Hid (∀ s, s < t + 1 → ¬ Over g n d s) := fun s hs => by
              by_cases e : s = t
              · subst e; exact fun h => hodd (by rw [hm.out]; exact h.1)
              · exact hno.out s (by omega)
            generalize sumW g t n = sm at *
            clear hodd
            go_wp2
            exact ⟨⟨t + 1, by omega, int_eq (by omega), HO, Lib.hid trivial⟩, by simp [intOf]; omega⟩
    · have h1 : ¬ (t : Int) < ((pw n : Nat) : Int) := by omega
      go_wp2
      go_ret
      exact ⟨⟨false, rfl, (fun h => by cases h), fun _ s hs => by rw [← hd.out]; exact hno.out s (by omega)⟩, rfl⟩
end Go.Proofs.YtpknnjcbcndbbaaDoor
namespace Go.Proofs.YtpknnjcbcndbbaaDoor
open Go.RowKit Go.Shelf

set_option maxRecDepth 100000 in
set_option maxHeartbeats 1000000 in
theorem Vizing_ok (n : Nat) (a : Option Addr) (cap : Nat) (ps : List (Int × Int)) (w : World) (hT : Tab w) (hG : Good n ps a w) :
    Calls Tryd.prog 28 #[.int .i64 (n : Int), .slice a ps.length cap] w fun e w' => ∃ v us col, e = .returned (.tuple #[v, .int .i64 0]) ∧ QRow w' w.heap.size 3 1 v ps.length (hl col ps) ∧ Below w.heap.size w w' ∧ HInv (ofE n ps) us col ∧ (∀ e h, col e = some h → h ≤ dgTo (ofE n ps) 16) ∧ ∀ q ∈ ps, col (pr q) ≠ none := by
  have HO := Lib.hid (gopen_ok n a cap ps w hG.hl hG.hg hG.n1 hG.n2 hG.ok)
  have HV : Hid (∀ B W, Below w.heap.size w W → GraphAt W B n a cap ps.length (ofE n ps) → Calls Tryd.prog 56 #[.pointer (some ⟨B, 0, none⟩)] W fun e w' => ∃ v us col, e = .returned v ∧ QRow w' W.heap.size 3 1 v ps.length (hl col ps) ∧ Below W.heap.size W w' ∧ HInv (ofE n ps) us col ∧ (∀ e h, col e = some h → h ≤ dgTo (ofE n ps) 16) ∧ ∀ q ∈ ps, col (pr q) ≠ none) := fun B W hB hg =>
    vizing_any B n (dgTo (ofE n ps) 16) a cap (ofE n ps) ps W (hT.below hB (Nat.le_refl _)) hg (hG.hg.below hB (Nat.le_refl _)) (ofE_sm hG.n2 hG.ok) (edgesOK hG.n2 hG.ok) hG.hl (by have := (dg_bounds hG.n1 hG.n2 hG.ok).2; have := hG.n2; omega) (dg_bounds hG.n1 hG.n2 hG.ok).1
  clear hT hG
  go_enter Tryd.func28, Tryd.ntmps28
  go_wp2_with (first
    | (go_at_call 52; refine HO.out.mono ?_; rintro e w1 ⟨B, rfl, hBl, hg1, hb1⟩; have HG1 := Lib.hid hg1; have HB1 := Lib.hid hb1; clear hBl hg1 hb1)
    | (go_at_call 56; refine (HV.out _ _ HB1.out HG1.out).mono ?_; rintro e w2 ⟨v2, us, col, rfl, hq2, hb2, hh2, hm2, hd2⟩; obtain ⟨s1, s2, rfl⟩ := hq2.isSlice; have HQ2 := Lib.hid hq2; have HB2 := Lib.hid hb2; have HH2 := Lib.hid hh2; have HM2 := Lib.hid hm2; have HD2 := Lib.hid hd2; clear hq2 hb2 hh2 hm2 hd2))
  refine bodyPost_ret (v := .tuple #[.slice s1 ps.length s2, .int .i64 0]) (by simp [results, Tryd.f28, go_sem]) rfl ?_
  exact ⟨_, us, col, rfl, HQ2.out.mono HB1.out.size, HB1.out.trans (HB2.out.mono HB1.out.size), HH2.out, HM2.out, HD2.out⟩
set_option maxRecDepth 100000 in
set_option maxHeartbeats 1000000 in
theorem Degree_ok (n : Nat) (a : Option Addr) (cap : Nat) (ps : List (Int × Int)) (w : World) (hG : Good n ps a w) :
    Calls Tryd.prog 48 #[.int .i64 (n : Int), .slice a ps.length cap] w fun e w' => e = .returned (.tuple #[.int .i64 (dgTo (ofE n ps) 16 : Nat), .int .i64 0]) ∧ Below w.heap.size w w' := by
  have HO := Lib.hid (gopen_ok n a cap ps w hG.hl hG.hg hG.n1 hG.n2 hG.ok)
  have HV : Hid (∀ B W, GraphAt W B n a cap ps.length (ofE n ps) → Calls Tryd.prog 53 #[.pointer (some ⟨B, 0, none⟩)] W fun e w' => e = .returned (.int .i64 (dgTo (ofE n ps) 16 : Nat)) ∧ w' = W) := fun B W hg => degree_any B n a cap _ _ W hg (ofE_sm hG.n2 hG.ok)
  clear hG
  go_enter Tryd.func48, Tryd.ntmps48
  go_wp2_with (first
    | (go_at_call 52; refine HO.out.mono ?_; rintro e w1 ⟨B, rfl, hBl, hg1, hb1⟩; have HG1 := Lib.hid hg1; have HB1 := Lib.hid hb1; clear hBl hg1 hb1)
    | (go_at_call 53; refine (HV.out _ _ HG1.out).mono ?_; rintro e w2 ⟨rfl, hw2⟩; subst hw2; try dsimp only))
  refine bodyPost_ret (v := .tuple #[.int .i64 (dgTo (ofE n ps) 16 : Nat), .int .i64 0]) (by simp [results, Tryd.f48, go_sem]) rfl ?_
  exact ⟨rfl, HB1.out⟩
set_option maxRecDepth 100000 in
set_option maxHeartbeats 1000000 in
theorem Vizing_err (n : Int) (a : Option Addr) (cap : Nat) (ps : List (Int × Int)) (w : World) (hl : ps.length ≤ 1099511627776) (hg : Pairs w a ps) (hne : checkP n ps ≠ 0) :
    Calls Tryd.prog 28 #[.int .i64 n, .slice a ps.length cap] w fun e w' => e = .returned (.tuple #[.slice none 0 0, .int .i64 (checkP n ps)]) ∧ Below w.heap.size w w' := by
  have HO := Lib.hid (gopen_err n a cap ps w hl hg hne)
  have hb : (checkP n ps != 0) = true := by simpa using hne
  clear hg hne
  generalize checkP n ps = c at *
  go_enter Tryd.func28, Tryd.ntmps28
  go_wp2_with (first
    | (go_at_call 52; refine HO.out.mono ?_; rintro e w1 ⟨rfl, hb1⟩; have HB1 := Lib.hid hb1; clear hb1))
  refine bodyPost_ret (v := .tuple #[.slice none 0 0, .int .i64 c]) (by simp [results, Tryd.f28, go_sem]) rfl ?_
  exact ⟨rfl, HB1.out⟩
end Go.Proofs.YtpknnjcbcndbbaaDoor
namespace Go.Proofs.YtpknnjcbcndbbaaDoor
open Go.RowKit Go.Shelf

/-- what Fewest returns -/
def FewP (g : List Nat) (n : Nat) (ps : List (Int × Int)) (w : World) (e : Ending) (w' : World) : Prop :=
  ∃ v us col, e = .returned (.tuple #[v, .int .i64 0]) ∧ QRow w' w.heap.size 3 1 v ps.length (hl col ps) ∧ HInv g us col ∧ (∀ q ∈ ps, col (pr q) ≠ none) ∧
    ((∀ q ∈ ps, ∀ h, col (pr q) = some h → h < dgTo g 16) ∨ ((∀ q ∈ ps, ∀ h, col (pr q) = some h → h ≤ dgTo g 16) ∧ ((∃ s, s < pw n ∧ Over g n (dgTo g 16) s) ∨ ¬ ∃ col, HueOK g ps (fun _ => low (dgTo g 16)) col)))
set_option maxRecDepth 100000 in
set_option maxHeartbeats 1000000 in
theorem Fewest_err (n : Int) (a : Option Addr) (cap : Nat) (ps : List (Int × Int)) (w : World) (hl : ps.length ≤ 1099511627776) (hg : Pairs w a ps) (hne : checkP n ps ≠ 0) :
    Calls Tryd.prog 15 #[.int .i64 n, .slice a ps.length cap] w fun e w' => e = .returned (.tuple #[.slice none 0 0, .int .i64 (checkP n ps)]) ∧ Below w.heap.size w w' := by
  have HO := Lib.hid (gopen_err n a cap ps w hl hg hne)
  have hb : (checkP n ps != 0) = true := by simpa using hne
  clear hg hne
  generalize checkP n ps = c at *
  go_enter Tryd.func15, Tryd.ntmps15
  go_wp2_with (first
    | (go_at_call 52; refine HO.out.mono ?_; rintro e w1 ⟨rfl, hb1⟩; have HB1 := Lib.hid hb1; clear hb1))
  refine bodyPost_ret (v := .tuple #[.slice none 0 0, .int .i64 c]) (by simp [results, Tryd.f15, go_sem]) rfl ?_
  exact ⟨rfl, HB1.out⟩
set_option maxRecDepth 100000 in
set_option maxHeartbeats 1000000 in
theorem Fewest_long (n : Nat) (a : Option Addr) (cap : Nat) (ps : List (Int × Int)) (w : World) (hG : Good n ps a w) (hn : 8 < n) :
    Calls Tryd.prog 15 #[.int .i64 (n : Int), .slice a ps.length cap] w fun e w' => e = .returned (.tuple #[.slice none 0 0, .int .i64 2]) ∧ Below w.heap.size w w' := by
  have HO := Lib.hid (gopen_ok n a cap ps w hG.hl hG.hg hG.n1 hG.n2 hG.ok)
  have hnn : 8 < (n : Int) := by omega
  clear hG
  go_enter Tryd.func15, Tryd.ntmps15
  go_wp2_with (first
    | (go_at_call 52; refine HO.out.mono ?_; rintro e w1 ⟨B, rfl, hBl, hg1, hb1⟩; have HB1 := Lib.hid hb1; clear hBl hg1 hb1))
  refine bodyPost_ret (v := .tuple #[.slice none 0 0, .int .i64 2]) (by simp [results, Tryd.f15, go_sem]) rfl ?_
  exact ⟨rfl, HB1.out⟩
set_option maxRecDepth 100000 in
set_option maxHeartbeats 4000000 in
theorem Fewest_ok (n : Nat) (a : Option Addr) (cap : Nat) (ps : List (Int × Int)) (w : World) (hT : Tab w) (hG : Good n ps a w) (hn8 : n ≤ 8) :
    Calls Tryd.prog 15 #[.int .i64 (n : Int), .slice a ps.length cap] w fun e w' => FewP (ofE n ps) n ps w e w' ∧ Below w.heap.size w w' := by
  have HO := Lib.hid (gopen_ok n a cap ps w hG.hl hG.hg hG.n1 hG.n2 hG.ok)
  have HGD := Lib.hid hG
  have hlen := hG.hl
  have HT := Lib.hid hT
  have HSM := Lib.hid (ofE_sm hG.n2 hG.ok)
  have hdb := Lib.hid (dg_bounds hG.n1 hG.n2 hG.ok)
  have HE := Lib.hid (edgesOK hG.n2 hG.ok)
  have hn1 := hG.n1
  obtain ⟨g, hg⟩ : ∃ g, Hid (g = ofE n ps) := ⟨_, rfl⟩
  rw [← hg.out] at HO HSM hdb HE ⊢
  obtain ⟨vs0, hv1, hv2, HMK⟩ := make_82 ps.length hlen
  have HV1 := Lib.hid hv1
  have HV2 := Lib.hid hv2
  have hnn : ¬ 8 < (n : Int) := by omega
  have hnd : decide (8 < (n : Int)) = false := decide_eq_false hnn
  obtain ⟨d, hd⟩ : ∃ d, Hid (d = dgTo g 16) := ⟨_, rfl⟩
  have hd7 : d ≤ 7 := by rw [hd.out]; have := hdb.out.2; omega
  clear hT hG hv1 hv2
  go_enter Tryd.func15, Tryd.ntmps15
  go_upto_region 7 with (first
    | (go_at_call 52; refine HO.out.mono ?_; rintro e w1 ⟨B, rfl, hBl, hg1, hb1⟩; have HG1 := Lib.hid hg1; have HB1 := Lib.hid hb1; clear hBl hg1 hb1))
  obtain ⟨b, hb⟩ : ∃ b, Hid (b = w1.heap.size) := ⟨_, rfl⟩
  have hR0 : RowUB (w1.alloc (.cells vs0 83)) b ps.length (fun _ => 0) := ⟨vs0, boxN_at hb.out, HV1.out, fun j hj => HV2.out j hj⟩
  have hBV : Below w1.heap.size w1 (w1.alloc (.cells vs0 83)) := (Below.refl _ _).alloc (Nat.le_refl _) _
  rw [← hb.out]
  generalize (w1.alloc (.cells vs0 83)) = V at *
  have HR0 := Lib.hid hR0
  have HBV := Lib.hid hBV
  have HBW := Lib.hid (HB1.out.trans (hBV.mono HB1.out.size))
  have HDG : Hid (∀ W, Below w1.heap.size w1 W → Calls Tryd.prog 53 #[.pointer (some ⟨B, 0, none⟩)] W fun e w' => e = .returned (.int .i64 (d : Nat)) ∧ w' = W) := fun W hW => by
    rw [hd.out]; exact degree_any B n a cap ps.length g W (HG1.out.below hW (Nat.le_refl _)) HSM.out
  have hlw : IntKind.u64.wrap (IntKind.u64.wrap ((2 : Int) ^ d) - 1) = ((low d : Nat) : Int) := by
    rw [pow64 d (by omega), show ((2 ^ d : Nat) : Int) = (2 : Int) ^ d by simp]; exact low_cast (by omega)
  have hwd : IntKind.u64.wrap (d : Int) = (d : Int) := u64_same _ (by omega)
  clear hR0 hBV
  go_upto_region 8 with (fail)
  go_loopw [28] (fun s28 wq => ∃ j : Nat, j ≤ ps.length ∧ s28 = .int .i64 (j : Int) ∧ Hid (RowUB wq b ps.length (fun v => if v < j then low d else 0)) ∧ Hid (Ag (fun x => x = b) V wq)) (fun s28 _ => ps.length - (intOf s28).toNat)
  case atStart => exact ⟨0, by omega, rfl, HR0.out.congr fun x _ => by simp, Ag.refl _ _⟩
  case round =>
    obtain ⟨j, hj, rfl, hR, hA⟩ := hrel
    have hBr : Below w1.heap.size w1 wr := hA.out.below HBV.out HBV.out.size (fun x hx e => by have := hb.out; omega)
    have HBr := Lib.hid hBr
    have HDC := Lib.hid (HDG.out wr hBr)
    clear hBr
    by_cases hjn : j < ps.length
    · have h1 : (j : Int) < (ps.length : Int) := by omega
      have h2 : (0 : Int) ≤ (j : Int) := by omega
      have hf := hR.out.frozen j
      have hc := hR.out.cell hjn
      have HRN : Hid (RowUB (wr.setCell ⟨b, j, none⟩ (.int .u64 ((low d : Nat) : Int))) b ps.length (fun v => if v < j + 1 then low d else 0)) := (hR.out.set (low d)).congr fun x _ => by
        by_cases e : x = j
        · subst e; simp
        · rw [if_neg e]
          by_cases h : x < j
          · rw [if_pos h, if_pos (by omega)]
          · rw [if_neg h, if_neg (by omega)]
      have HAN := Lib.hid (hA.out.set ⟨b, j, none⟩ (.int .u64 ((low d : Nat) : Int)) (.inr rfl))
      go_wp2_with (go_at_call 53; refine Calls.mono HDC.out ?_; rintro e w' ⟨rfl, hw'⟩; subst hw'; try dsimp only)
      exact ⟨⟨j + 1, by omega, int_eq (by omega), HRN, HAN⟩, by simp [intOf]; omega⟩
    · have h1 : ¬ (j : Int) < (ps.length : Int) := by omega
      have hje : j = ps.length := by omega
      have hRL : RowUB wr b ps.length (fun _ => low d) := hR.out.congr fun x hx => by rw [if_pos (by omega)]
      have hBw := HB1.out.trans (HBr.out.mono HB1.out.size)
      have HBw := Lib.hid hBw
      have HFX : Hid (HFix wr B n a (some ⟨b, 0, none⟩) cap g ps (fun _ => low d)) := ⟨HG1.out.below HBr.out (Nat.le_refl _), HGD.out.hg.below hBw (Nat.le_refl _), hRL.toU, HT.out.below hBw (Nat.le_refl _), HE.out, hlen, fun _ => low_lt (by omega)⟩
      have HFU := Lib.hid (isFull_any B n a cap ps.length g wr HFX.out.gr HSM.out (by omega))
      have HCH := Lib.hid (chosen_any B n a (some ⟨b, 0, none⟩) cap ps.length g ps (fun _ => low d) wr HFX.out)
      have HVZ : Hid (∀ W, Below wr.heap.size wr W → Calls Tryd.prog 56 #[.pointer (some ⟨B, 0, none⟩)] W fun e w' => ∃ v us col, e = .returned v ∧ QRow w' W.heap.size 3 1 v ps.length (hl col ps) ∧ Below W.heap.size W w' ∧ HInv g us col ∧ (∀ e h, col e = some h → h ≤ d) ∧ ∀ q ∈ ps, col (pr q) ≠ none) := fun W hW =>
        vizing_any B n d a cap g ps W (HFX.out.tab.below hW (Nat.le_refl _)) (HFX.out.gr.below hW (Nat.le_refl _)) (HFX.out.hE.below hW (Nat.le_refl _)) HSM.out HE.out hlen (by omega) (by rw [hd.out]; exact hdb.out.1)
      have fin : ∀ (W : World) (v : Value) (us : Nat → Nat) (col : Nat × Nat → Option Nat) (w' : World), Below wr.heap.size wr W → QRow w' W.heap.size 3 1 v ps.length (hl col ps) → Below W.heap.size W w' → HInv g us col → (∀ e h, col e = some h → h ≤ d) → (∀ q ∈ ps, col (pr q) ≠ none) → ((∃ s, s < pw n ∧ Over g n (dgTo g 16) s) ∨ ¬ ∃ col, HueOK g ps (fun _ => low d) col) → FewP g n ps w (.returned (.tuple #[v, .int .i64 0])) w' ∧ Below w.heap.size w w' := fun W v us col w' h1 h2 h3 h4 h5 h6 h7 => by
        have hW := hBw.trans (h1.mono hBw.size)
        exact ⟨⟨v, us, col, rfl, h2.mono hW.size, h4, h6, .inr ⟨fun q hq x hx => by rw [← hd.out]; exact h5 _ _ hx, by rw [hd.out] at h7; rw [hd.out] at *; exact h7⟩⟩, hW.trans (h3.mono hW.size)⟩
      have FIN := Lib.hid fin
      clear hRL hBw fin hR hA hje HDC HDG
      go_upto_if 42 with (go_at_call 54; refine (HFU.out).mono ?_; rintro e w' ⟨⟨bf, rfl, hft, hff⟩, hw'⟩; have HFT := Lib.hid hft; have HFF := Lib.hid hff; clear hft hff; subst hw'; try dsimp only)
      cases bf with
      | true =>
        have HOV : Hid (∃ s, s < pw n ∧ Over g n (dgTo g 16) s) := by first | exact HFT.out rfl | exact HFT.out trivial
        have HVV := Lib.hid (HVZ.out w' (Below.refl _ _))
        go_wp2_with (go_at_call 56; refine (HVV.out).mono ?_; rintro e w4 ⟨v4, us4, col4, rfl, hq4, hb4, hi4, hm4, ha4⟩; obtain ⟨s1, s2, rfl⟩ := hq4.isSlice; have HF4 := Lib.hid (FIN.out w' _ us4 col4 w4 (Below.refl _ _) hq4 hb4 hi4 hm4 ha4 (.inl HOV.out)); clear hq4 hb4 hi4 hm4 ha4)
        refine bodyPost_ret (v := .tuple #[.slice s1 ps.length s2, .int .i64 0]) (by simp [results, Tryd.f15, go_sem]) rfl ?_
        exact HF4.out
      | false =>
        go_upto_if 49 with (go_at_call 55; refine (HCH.out).mono ?_; rintro e w4 ⟨hcp, hb4⟩; have HB4 := Lib.hid hb4; clear hb4; rcases hcp with ⟨rfl, hcn⟩ | ⟨v4, us4, col4, rfl, hq4, hi4, hok4⟩)
        · have HCN := Lib.hid hcn
          have HVV := Lib.hid (HVZ.out w4 HB4.out)
          clear hcn
          go_wp2_with (go_at_call 56; refine (HVV.out).mono ?_; rintro e w5 ⟨v5, us5, col5, rfl, hq5, hb5, hi5, hm5, ha5⟩; obtain ⟨s1, s2, rfl⟩ := hq5.isSlice; have HF5 := Lib.hid (FIN.out w4 _ us5 col5 w5 HB4.out hq5 hb5 hi5 hm5 ha5 (.inr HCN.out)); clear hq5 hb5 hi5 hm5 ha5)
          refine bodyPost_ret (v := .tuple #[.slice s1 ps.length s2, .int .i64 0]) (by simp [results, Tryd.f15, go_sem]) rfl ?_
          exact HF5.out
        · obtain ⟨s1, s2, rfl⟩ := hq4.isSlice
          have HQ4 := Lib.hid hq4
          have HI4 := Lib.hid hi4
          have HK4 := Lib.hid hok4
          clear hq4 hi4 hok4
          go_wp2
          refine bodyPost_ret (v := .tuple #[.slice s1 ps.length s2, .int .i64 0]) (by simp [results, Tryd.f15, go_sem]) rfl ?_
          have key : ∀ q ∈ ps, ∃ h, col4 (pr q) = some h ∧ h < dgTo g 16 := fun q hq => by
            obtain ⟨j, hj⟩ := List.getElem?_of_mem hq
            obtain ⟨h, h1, h2⟩ := HK4.out.2 j (List.getElem?_eq_some_iff.1 hj).1
            rw [show qa ps j = q by unfold qa; rw [hj]; rfl] at h1
            rw [low_bit] at h2
            exact ⟨h, h1, by rw [← hd.out]; simpa using h2⟩
          refine ⟨⟨_, us4, col4, rfl, HQ4.out.mono HBw.out.size, HI4.out, fun q hq e => ?_, .inl fun q hq x hx => ?_⟩, HBw.out.trans (HB4.out.mono HBw.out.size)⟩
          · obtain ⟨h, h1, _⟩ := key q hq
            rw [h1] at e; cases e
          · obtain ⟨h, h1, h2⟩ := key q hq
            rw [h1] at hx; cases hx; exact h2
end Go.Proofs.YtpknnjcbcndbbaaDoor
namespace Go.Proofs.YtpknnjcbcndbbaaDoor
open Go.RowKit Go.Shelf
attribute [local go_sem] Oper.semAt_some

theorem rf_setsA {p : Nat → Prop} {P : Program} {n : Nat} {g : Operand} {t d : Nat} {id : Nat} {ty : TypeId} {pos : String} {aft : Array Edge} {body : Code} {Q : Exit → Act → World → Prop} {a : Act} {w : World}
    (h1 : 1 ≤ n) {gf : Nat} {lb : Array Value} (hg : a.eval g = .func (.func gf) #[] lb) (eg : ∀ args w, (callFunc gf args).run P w = .ok (.enter gf args) w)
    {Kp : World → World → Prop} {S Sp : List {x : Nat // p x} → Prop} {N : Nat} (hseq : SeqStopsK Fence.wide (n - 1) P gf lb (fun x : {x : Nat // p x} => #[Value.int .i64 (x.1 : Int)]) Kp S Sp N w)
    (hKt : ∀ {A B C : World}, Kp A B → Kp B C → Kp A C) (hKb : ∀ (W : World) (l : Nat) (o o' : Obj), w.heap.size ≤ l → W.heap[l]? = some o → o.isCells = false → o.isWalk = false → Kp W (W.putObj l o')) (hKr : ∀ W, Kp W W)
    (ht : t < a.tmps.size) (I : List {x : Nat // p x} → World → Prop) (Ix : Code → List {x : Nat // p x} → World → Prop) (hI : OwnFrom w.heap.size I) (hIx : ∀ c, OwnFrom w.heap.size (Ix c)) (h0 : I [] w)
    (hbody : ∀ (l : Nat) (pre : List {x : Nat // p x}) (x : {x : Nat // p x}) (W : World), I pre W → pre.length < N → body.wpIn (Fence.wide.inRound l) (n - 1 - 1) P (ownPostG w.heap.size Kp I Ix (pre ++ [x]) W) { tmps := (a.tmps.setIfInBounds t (.int .i64 (x.1 : Int))).setIfInBounds d (.int .i64 (x.1 : Int)), defers := [] } W)
    (hdone : ∀ (D : Nat) (xs : List {x : Nat // p x}) (W : World), w.heap.size ≤ D → S xs → I xs W → W.heap[D]? = some (.deferred (some [])) → Q .normal { a with defers := { target := .collected D, args := #[] } :: a.defers } W)
    (hstop : ∀ (D : Nat) (c : Code) (pre : List {x : Nat // p x}) (W : World), w.heap.size ≤ D → Sp pre → Ix c pre W → W.heap[D]? = some (.deferred (some [])) → c.wpIn Fence.wide n P Q { a with defers := { target := .collected D, args := #[] } :: a.defers } W) :
    (Code.rangeFunc g #[t] (Code.region id #[{ dst := some d, op := Op.assign (Operand.tmp t), type := ty, pos := pos, after := aft, guard := none }] false) body).wpIn Fence.wide n P Q a w := by
  refine wpIn_rangeFunc_ownG_of_H rfl h1 hg trivial eg hseq (fun h k => hKt h k) hKb (Below.refl _ _) (fun _ => rfl) I Ix hI hIx h0 (fun x => { tmps := (a.tmps.setIfInBounds t (.int .i64 (x.1 : Int))).setIfInBounds d (.int .i64 (x.1 : Int)), defers := [] }) ?_ hbody hdone hstop hKr
  intro l x W K hK
  have e : (Array.zip #[t] #[Value.int .i64 (x.1 : Int)]).foldl (fun t (p, v) => t.setIfInBounds p v) a.tmps = a.tmps.setIfInBounds t (.int .i64 (x.1 : Int)) := by simp
  rw [e]
  have hv : (a.tmps.setIfInBounds t (.int .i64 (x.1 : Int))).getD t undef = .int .i64 (x.1 : Int) := by simp [Array.getD, ht]
  gi_wp2
  exact hK
set_option maxHeartbeats 1000000 in
theorem at1_at (n : Nat) (hn : 1 ≤ n) (l Bg Bv B : Nat) (v s : Nat) (hv : v < 16) (hs : Sm s) (J Jx : List {x : Nat // x ∈ els s} → World → Prop)
    (hY : ∀ pre x W, J pre W → pre.length < 21 → YieldAt Fence.wide (n - 1) Tryd.prog l #[.int .i64 ((x : {x : Nat // x ∈ els s}).1 : Int)] W fun e W' =>
      (e = .returned (.bool true) ∧ J (pre ++ [x]) W' ∧ KeepsTab W W') ∨ (e = .returned (.bool false) ∧ Jx (pre ++ [x]) W'))
    (W : World) (hT : Tab W) (hG : W.cell? ⟨Bg, 0, none⟩ = some (.pointer (some ⟨B, 0, none⟩))) (hV : W.cell? ⟨Bv, 0, none⟩ = some (.int .i64 (v : Int))) (hN : W.cell? ⟨B, 2 + v, none⟩ = some (.int .i64 (s : Int))) (h0 : J [] W) (hJ : ∀ pre W n, J pre W → J pre (W.drewN n)) :
    CallsIn Fence.wide n Tryd.prog 98 #[.func (.yield l) #[] #[], .pointer (some ⟨Bg, 0, none⟩), .pointer (some ⟨Bv, 0, none⟩)] W fun e W' => (∃ v, e = .returned v) ∧
      ((∃ ys, ys = (els s).attach ∧ J ys W') ∨ (∃ pre, (∃ r, (els s).attach = pre ++ r) ∧ Jx pre W')) := by
  have hv0 : (0 : Int) ≤ (v : Int) := by omega
  have hv1 : ((v : Nat) : Int) < 16 := by omega
  refine callsIn_of_wp Tryd.func98 rfl trivial ?_ rfl
  simp only [Tryd.ntmps98, List.size_toArray, List.length_cons, List.length_nil, Nat.reduceAdd, Nat.reduceSub, Array.replicate_succ, Array.replicate_zero, List.push_toArray, List.append_toArray, List.nil_append, List.cons_append]
  gi_wp2
  gi_quiet (fail)
  gi_wp2
  gi_loopw [4] (fun s4 wr => ∃ (k : Nat) (pre rest : List {x : Nat // x ∈ els s}), Hid ((els s).attach = pre ++ rest ∧ rest.map (·.1) = els k) ∧ Sm k ∧ pre.length + (els k).length ≤ 20 ∧ s4 = .int .i64 ((k : Nat) : Int) ∧ J pre wr ∧ Tab wr)
    (fun s _ => (intOf s).toNat)
  case atStart => exact ⟨s, [], (els s).attach, ⟨rfl, by simp⟩, hs, by have := elsFrom_len s 20 0; unfold els; simpa using this, rfl, hJ _ _ _ h0, hT⟩
  case round =>
    obtain ⟨k, pre, rest, hpre, hks, hlen, rfl, hJs, hTr⟩ := hrel
    have HTR := Lib.hid hTr
    clear hTr hT hG hV hN
    by_cases hk0 : k = 0
    · have hb : (((k : Nat) : Int) != 0) = false := by rw [hk0]; rfl
      have HP : Hid ((els s).attach = pre) := by
        unfold Hid
        have h2 := hpre.out.2
        rw [hk0, els_zero, List.map_eq_nil_iff] at h2
        rw [hpre.out.1, h2, List.append_nil]
      clear hk0
      gi_wp2
      go_end0
      exact ⟨⟨_, rfl⟩, .inl ⟨pre, HP.out.symm, hJs⟩⟩
    · have hb : (((k : Nat) : Int) != 0) = true := by rw [bne_iff_ne]; omega
      have hk64 : k < 18446744073709551616 := Nat.lt_trans hks.lt (by decide)
      have hlo := lo_sm hk0 hks
      have hsp := els_step hk0 hks
      have hlt := ldiff_lo_lt hk0 hks
      have hrest : Sm (ldiff k (pw (lo k))) := sm_ldiff _ hks
      have HTZ := Lib.hid (tz_any k hk64 hk0 wr HTR.out)
      have hand : ((bits BinOp.and IntKind.i64 (k : Int) (IntKind.i64.wrap ((k : Int) - 1)) : Int)) = ((ldiff k (pw (lo k)) : Nat) : Int) := by
        rw [IntWalk.i64_in _ (by have := hks.lt; omega), show ((k : Int) - 1) = ((k - 1 : Nat) : Int) by omega, band k (k - 1) hks (sm_of (by have := hks.lt; omega)), sub_one_and hk0 hk64]
      have hand2 : ((bits BinOp.and IntKind.i64 (k : Int) ((k : Int) - 1) : Int)) = ((ldiff k (pw (lo k)) : Nat) : Int) := by
        rw [← hand, IntWalk.i64_in _ (by have := hks.lt; omega)]
      have hand3 : ((bits BinOp.and IntKind.i64 (k : Int) (wrap64 ((k : Int) - 1)) : Int)) = ((ldiff k (pw (lo k)) : Nat) : Int) := by
        rw [← hand, IntWalk.i64_left]
      have hk1 : 1 ≤ k := by omega
      have hwu : IntKind.u64.wrap (k : Int) = (k : Int) := u64_same k hk64
      rw [show Lib.ctz 64 k = lo k from rfl] at HTZ
      generalize hc : lo k = c at *
      have HC := Lib.hid hc
      clear hc
      have hcs : Sm c := sm_of (by omega)
      obtain ⟨y, rest', hre, hyc, hr2⟩ : ∃ y rest', rest = y :: rest' ∧ y.1 = c ∧ rest'.map (·.1) = els (ldiff k (pw c)) := by
        have h2 := hpre.out.2
        rw [hsp] at h2
        cases rest with
        | nil => cases h2
        | cons y r => exact ⟨y, r, rfl, (List.cons.inj h2).1, (List.cons.inj h2).2⟩
      obtain ⟨fn, tmps, assign, body, hy, hR⟩ := hY pre y wr hJs (by rw [hsp] at hlen; simp at hlen; omega)
      rw [hyc] at hy
      have HPRE : Hid ((els s).attach = (pre ++ [y]) ++ rest' ∧ rest'.map (·.1) = els (ldiff k (pw c))) := ⟨by rw [hpre.out.1, hre]; simp, hr2⟩
      have hlen2 : (pre ++ [y]).length + (els (ldiff k (pw c))).length ≤ 20 := by rw [hsp] at hlen; simp at hlen ⊢; omega
      have HR := Lib.hid hR
      clear hR hsp hk0 hJs hlen hwu hr2 hre hpre
      generalize ldiff k (pw c) = k2 at *
      gi_wp2_with (first
        | (gi_at_call 99; refine (callsIn_wide.2 HTZ.out).mono ?_; rintro e w5 ⟨rfl, hw⟩; subst hw; try dsimp only))
      refine HR.out.mono ?_
      rintro e W3 (⟨rfl, hJ3, hk3⟩ | ⟨rfl, hJx3⟩)
      · have hT3 := Lib.hid (hk3 HTR.out)
        gi_wp2
        exact ⟨⟨k2, pre ++ [y], rest', HPRE, hrest, hlen2, rfl, hJ3, hT3.out⟩, by simp [intOf]; omega⟩
      · gi_wp2
        refine bodyPost_ret (results_none rfl _ _ _) rfl ?_
        exact ⟨⟨_, rfl⟩, .inr ⟨_, ⟨_, HPRE.out.1⟩, hJx3⟩⟩
/-- THE ITERATOR's CONTRACT, each element with the word that it is one. -/
theorem at_stopsA (n : Nat) (hn : 1 ≤ n) (Bg Bv B v s : Nat) (hv : v < 16) (hs : Sm s) (w : World) (hT : Tab w) (hBg : Bg < w.heap.size) (hBv : Bv < w.heap.size) (hB : B < w.heap.size) (hG : w.cell? ⟨Bg, 0, none⟩ = some (.pointer (some ⟨B, 0, none⟩))) (hV : w.cell? ⟨Bv, 0, none⟩ = some (.int .i64 (v : Int))) (hN : w.cell? ⟨B, 2 + v, none⟩ = some (.int .i64 (s : Int))) :
    SeqStopsK Fence.wide n Tryd.prog 98 #[.pointer (some ⟨Bg, 0, none⟩), .pointer (some ⟨Bv, 0, none⟩)] (fun x : {x : Nat // x ∈ els s} => #[Value.int .i64 (x.1 : Int)]) KeepsTab (fun ys => ys = (els s).attach) (fun pre => ∃ r, (els s).attach = pre ++ r) 21 w := fun l J Jx W hW hJ _ hY h0 =>
  at1_at n hn l Bg Bv B v s hv hs J Jx hY W (hT.below hW (Nat.le_refl _)) ((hW.cell (p := ⟨Bg, 0, none⟩) hBg).trans hG) ((hW.cell (p := ⟨Bv, 0, none⟩) hBv).trans hV) ((hW.cell (p := ⟨B, 2 + v, none⟩) hB).trans hN) h0
    (fun pre W n h => hJ pre W (W.drewN n) none h ⟨rfl, rfl, rfl, Nat.le_refl _, fun _ _ _ => rfl⟩ (fun r e => by cases e))
end Go.Proofs.YtpknnjcbcndbbaaDoor
