/- The reference's graph of edges, and the law's tame: walks. -/
import Derived.Test.YtfbobojpocnfeaaTm
import Derived.BigRegion
namespace Go.Proofs.Ytfbobojpocnfeaa
open Go.RowKit Go.Shelf

theorem make_ints (n : Nat) (hn : n ≤ 20) : ∃ vs : Array Value, vs.size = n ∧ (∀ j, j < n → vs[j]? = some (.int .i64 0)) ∧
    ∀ W, Sem.run Try.prog (Instr.makeSlice 26 (.int .i64 (n : Int)) (.int .i64 (n : Int))) W = .ok (.slice (some ⟨W.heap.size, 0, none⟩) n n) (W.alloc (.cells vs 3)) := by
  obtain ⟨i0, hi, hz0, hz1, hz2⟩ := info_parts info3
  refine ⟨madeCells #[.int .i64 0] n, size_madeCells _ _, fun j hj => ?_, fun W => ?_⟩
  · rw [← Array.getElem?_toList, toList_madeCells_one, List.getElem?_replicate, if_pos hj]
  · have := run_make (P := Try.prog) W 26 3 i0 _ Try.underlying26 hi hz0 .i64 .i64 (n : Int) (n : Int) (by omega) (Int.le_refl _) (by rw [hz2]; omega) (by omega)
    rw [hz1, show (Value.int .i64 0).cells = #[.int .i64 0] from rfl] at this
    simpa using this
/-- the cells of a row of sets -/
def RowCells (vs : Array Value) (g : List Nat) : Prop := vs.size = g.length ∧ ∀ j, j < g.length → vs[j]? = some (.int .i64 ((g[j]?.getD 0 : Nat) : Int))
theorem RowCells.add {vs : Array Value} {g : List Nat} (h : RowCells vs g) (x y : Nat) (hxy : x ≠ y) (hx : x < g.length) (hy : y < g.length) :
    RowCells ((vs.setIfInBounds x (.int .i64 (((g[x]?.getD 0) ||| pw y : Nat) : Int))).setIfInBounds y (.int .i64 (((g[y]?.getD 0) ||| pw x : Nat) : Int))) (addE g x y) := by
  obtain ⟨h0, h2⟩ := h
  refine ⟨by simp [h0, addE_length], fun j hj => ?_⟩
  rw [addE_length] at hj
  rw [addE_at g x y j hxy hx hy]
  by_cases e1 : j = x
  · subst e1
    rw [Array.getElem?_setIfInBounds_ne (by omega), Array.getElem?_setIfInBounds_self_of_lt (by omega)]; simp
  · by_cases e2 : j = y
    · subst e2
      rw [Array.getElem?_setIfInBounds_self_of_lt (by simp; omega)]; simp [e1]
    · rw [Array.getElem?_setIfInBounds_ne (by omega), Array.getElem?_setIfInBounds_ne (by omega)]; simp [e1, e2]; exact h2 j hj
theorem Sets.ofBox {W : World} {b : Nat} {t : TypeId} {vs : Array Value} {g : List Nat} (h : BoxN W b t vs) (hc : RowCells vs g) : Sets W (some ⟨b, 0, none⟩) g :=
  ⟨b, 0, rfl, h.lt, fun j hj => by rw [Nat.zero_add, h.cell]; exact hc.2 j hj⟩
theorem RowCells.zero {vs : Array Value} {n : Nat} (h0 : vs.size = n) (h : ∀ j, j < n → vs[j]? = some (.int .i64 0)) : RowCells vs (List.replicate n 0) :=
  ⟨by simp [h0], fun j hj => by simp at hj; rw [h j hj]; simp [hj]⟩
set_option maxHeartbeats 1000000 in
theorem of_any (n : Nat) (a : Option Addr) (cap : Nat) (ps : List (Int × Int)) (w : World) (h : Good n ps a w) :
    Calls Try.prog 11 #[.int .i64 n, .slice a ps.length cap] w fun e w' => ∃ b, e = .returned (.slice (some ⟨b, 0, none⟩) n n) ∧ w.heap.size ≤ b ∧ Sets w' (some ⟨b, 0, none⟩) (ofE n ps) ∧ Below w.heap.size w w' := by
  have hl := h.hl
  have hn1 := h.n1
  have hn2 := h.n2
  have hg := h.hg
  have HOK := Lib.hid h.ok
  clear h
  obtain ⟨v0, hv0, hv1, hmk⟩ := make_ints n (by omega)
  have HV0 := Lib.hid hv0
  have HV1 := Lib.hid hv1
  clear hv0 hv1
  obtain ⟨len, HL⟩ : ∃ len, Hid (ps.length = len) := ⟨_, rfl⟩
  rw [HL.out] at hl ⊢
  go_enter Try.func11, Try.ntmps11
  go_wp2
  clear hmk
  go_loopw [6] (fun i wr => ∃ (k : Nat) (vs : Array Value) (g : List Nat), k ≤ len ∧ i = .int .i64 k ∧ Hid (g = ofE n (ps.take k)) ∧ BoxN wr w.heap.size 3 vs ∧ RowCells vs g ∧ (∀ i : Nat, Sm (g[i]?.getD 0)) ∧ Below w.heap.size w wr) (fun i _ => len - (intOf i).toNat)
  case atStart =>
    refine ⟨0, v0, ofE n (ps.take 0), Nat.zero_le _, rfl, rfl, BoxN.new rfl, RowCells.zero HV0.out HV1.out, fun i => ?_, (Below.refl _ _).alloc (Nat.le_refl _) _⟩
    have : (ofE n (ps.take 0))[i]?.getD 0 = 0 := by simp [ofE, List.getElem?_replicate]; split <;> rfl
    rw [this]; exact sm_of (by decide)
  case round =>
    obtain ⟨k, vs, g, hk, rfl, hgk, hbox, hcc, hgsm, hB⟩ := hrel
    have hglen : g.length = n := by rw [hgk.out, ofE_length]
    by_cases hkl : k < len
    · have hsz := hbox.lt
      obtain ⟨b, off, rfl, hb, hc⟩ := hg (by intro e; rw [e] at HL; have := HL.out; simp at this; omega)
      have hck := hc k (by rw [HL.out]; exact hkl)
      have hc1 : wr.cell? ⟨b, off + k * 2, none⟩ = some (.int .i64 (ps[k]?.getD (0, 0)).1) := (hB.cell (p := ⟨b, off + k * 2, none⟩) hb).trans hck.1
      have hc2 : wr.cell? ⟨b, off + k * 2 + 1, none⟩ = some (.int .i64 (ps[k]?.getD (0, 0)).2) := (hB.cell (p := ⟨b, off + k * 2 + 1, none⟩) hb).trans hck.2
      have hat := edgesB_at HOK.out k (by rw [HL.out]; exact hkl)
      have hnext : ofE n (ps.take (k + 1)) = addE g (ps[k]?.getD (0, 0)).1.toNat (ps[k]?.getD (0, 0)).2.toNat := by
        have hlt : k < ps.length := by rw [HL.out]; exact hkl
        rw [hgk.out, List.take_succ_eq_append_getElem hlt]
        unfold ofE
        rw [List.foldl_append]
        simp [List.getElem?_eq_getElem hlt]
      obtain ⟨x, hx⟩ := Int.eq_ofNat_of_zero_le hat.1
      obtain ⟨y, hy⟩ := Int.eq_ofNat_of_zero_le (show 0 ≤ (ps[k]?.getD (0, 0)).2 by omega)
      rw [hx] at hc1 hat hnext
      rw [hy] at hc2 hat hnext
      have hxy : x < y := by omega
      have hyn : y < n := by omega
      simp only [Int.toNat_natCast] at hnext
      have HNX := Lib.hid hnext
      clear hx hy hat hck hc hg hnext
      have l1 := hbox.cell x
      have l2 := hbox.cell y
      rw [hcc.2 x (by omega)] at l1
      rw [hcc.2 y (by omega)] at l2
      have lf1 := hbox.frozen x
      have lf2 := hbox.frozen y
      have hki : ((k : Nat) : Int) < ((len : Nat) : Int) := by omega
      have hk0 : (0 : Int) ≤ ((k : Nat) : Int) := by omega
      have hx20 : x < 20 := by omega
      have hy20 : y < 20 := by omega
      have hxn : ((x : Nat) : Int) < (n : Int) := by omega
      have hynI : ((y : Nat) : Int) < (n : Int) := by omega
      have hgx := hgsm x
      have hgy := hgsm y
      have HG := Lib.hid hgsm
      have HGL := Lib.hid hglen
      clear hgsm hglen
      have l2' : ∀ v, (wr.setCell ⟨w.heap.size, x, none⟩ v).cell? ⟨w.heap.size, y, none⟩ = some (.int .i64 ((g[y]?.getD 0 : Nat) : Int)) := fun v =>
        (World.cell?_setCell_other _ _ _ _ (fun e => by have := congrArg Addr.off e; simp at this; omega)).trans l2
      have l2'' : ∀ v, ((wr.drew).setCell ⟨w.heap.size, x, none⟩ v).cell? ⟨w.heap.size, y, none⟩ = some (.int .i64 ((g[y]?.getD 0 : Nat) : Int)) := fun v => l2' v
      clear l2
      go_wp2
      go_region
      go_wp2
      go_region
      go_wp2
      go_region
      go_wp2
      refine ⟨⟨k + 1, _, addE g x y, by omega, by go_num, HNX.out.symm, (hbox.set x _).set y _, hcc.add x y (by omega) (by rw [HGL.out]; omega) (by rw [HGL.out]; omega), addE_sm g x y (by omega) (by rw [HGL.out]; omega) (by rw [HGL.out]; omega) (by rw [HGL.out]; omega) HG.out, ?_⟩, by simp [intOf]; omega⟩
      exact (((hB.setCell (p := ⟨w.heap.size, x, none⟩) (Nat.le_refl _) _).setCell (p := ⟨w.heap.size, y, none⟩) (Nat.le_refl _) _).drew.drew.drew)
    · go_wp2
      have : k = len := by omega
      subst this
      go_ret
      refine ⟨w.heap.size, rfl, Nat.le_refl _, Sets.ofBox hbox ?_, hB⟩
      have : ofE n ps = g := by rw [hgk.out, ← HL.out, List.take_length]
      rw [this]
      exact hcc
end Go.Proofs.Ytfbobojpocnfeaa
