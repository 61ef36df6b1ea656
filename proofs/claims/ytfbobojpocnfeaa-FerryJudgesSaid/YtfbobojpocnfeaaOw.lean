/- The law's own: a copy of the first pairs; the reference's check. -/
import Derived.Test.YtfbobojpocnfeaaAw
namespace Go.Proofs.Ytfbobojpocnfeaa
open Go.RowKit Go.Shelf

/-- a slice of pairs as it comes in: it fits its capacity, and is nil only if it has none -/
structure PairsIn (w : World) (a : Option Addr) (cap : Nat) (ps : List (Int × Int)) : Prop where
  g : Pairs w a ps
  fits : ps.length ≤ cap
  capm : cap ≤ maxLen
  nil : a = none → cap = 0
theorem info49 : (Try.prog.info? 49).map (fun i => (i.zero, i.size, i.bytes)) = some (some (.agg #[.int .i64 0, .int .i64 0]), 2, 16) := by kernel_rfl
def pairCells : List (Int × Int) → List Value
  | [] => []
  | p :: ps => .int .i64 p.1 :: .int .i64 p.2 :: pairCells ps
theorem pairCells_length : ∀ ps, (pairCells ps).length = ps.length * 2
  | [] => rfl
  | p :: ps => by simp only [pairCells, List.length_cons, pairCells_length ps]; omega
theorem pairCells_get : ∀ (ps : List (Int × Int)) (j : Nat), j < ps.length → (pairCells ps)[j * 2]? = some (.int .i64 (ps[j]?.getD (0, 0)).1) ∧ (pairCells ps)[j * 2 + 1]? = some (.int .i64 (ps[j]?.getD (0, 0)).2)
  | p :: ps, 0, _ => ⟨rfl, rfl⟩
  | p :: ps, j + 1, h => by
    have ih := pairCells_get ps j (by simpa using h)
    rw [show (j + 1) * 2 = j * 2 + 1 + 1 by omega, show j * 2 + 1 + 1 + 1 = (j * 2 + 1) + 1 + 1 by omega]
    simp only [pairCells, List.getElem?_cons_succ]
    exact ih
theorem pairCells_one (ps : List (Int × Int)) : ∀ u ∈ pairCells ps, u.oneCell' = true := by
  induction ps with
  | nil => intro u hu; cases hu
  | cons p ps ih =>
    intro u hu
    rcases List.mem_cons.1 hu with rfl | hu
    · rfl
    · rcases List.mem_cons.1 hu with rfl | hu
      · rfl
      · exact ih u hu
theorem own_any (a : Option Addr) (cap : Nat) (ps : List (Int × Int)) (w : World) (h : PairsIn w a cap ps) :
    Calls Try.prog 29 #[.slice a ps.length cap] w fun e w' => ∃ a' cap', e = .returned (.slice a' (ps.take 130).length cap') ∧ Pairs w' a' (ps.take 130) ∧ Below w.heap.size w w' := by
  obtain ⟨i0, hi, hz0, hz1, hz2⟩ := info_parts info49
  have hl := Nat.le_trans h.fits h.capm
  unfold maxLen at hl
  have hcap := h.fits
  have hcm := h.capm
  unfold maxLen at hcm
  by_cases hnil : a = none
  · have hc0 := h.nil hnil
    subst hnil
    subst hc0
    have hp : ps = [] := List.eq_nil_of_length_eq_zero (by omega)
    subst hp
    clear h hl hcap
    go_enter Try.func29, Try.ntmps29
    go_wp2
    go_ret
    exact ⟨none, 0, rfl, fun e => absurd rfl e, Below.refl _ _⟩
  · obtain ⟨ad, rfl⟩ := Option.ne_none_iff_exists'.1 hnil
    obtain ⟨k, hk⟩ : ∃ k, Hid (k = (ps.take 130).length) := ⟨_, rfl⟩
    rw [← hk.out]
    have hk1 : k ≤ ps.length := by rw [hk.out, List.length_take]; omega
    have hk2 : k ≤ 130 := by rw [hk.out, List.length_take]; omega
    have hmin : min ((ps.length : Nat) : Int) 130 = (k : Int) := by rw [hk.out, List.length_take]; omega
    have hcells : ∀ j u, (pairCells (ps.take 130))[j]? = some u → w.cell? (ad.add j) = some u := fun j u hu => by
      have hj : j < k * 2 := by rw [hk.out, ← pairCells_length]; exact (List.getElem?_eq_some_iff.1 hu).1
      obtain ⟨b, off, e, hb, hc⟩ := h.g (by rintro rfl; simp at hk1; omega)
      cases e
      rw [Addr.add_lit]
      have hlt : j / 2 < (ps.take 130).length := by rw [← hk.out]; omega
      have hlt2 : j / 2 < ps.length := by omega
      have hp := pairCells_get (ps.take 130) (j / 2) hlt
      have hg : (ps.take 130)[j / 2]?.getD (0, 0) = ps[j / 2]?.getD (0, 0) := by rw [List.getElem?_take, if_pos (by omega)]
      rw [hg] at hp
      have hcj := hc (j / 2) hlt2
      rcases (show j = j / 2 * 2 ∨ j = j / 2 * 2 + 1 by omega) with e | e
      · rw [e] at hu ⊢; rw [hp.1] at hu; rw [hcj.1]; exact hu
      · rw [e] at hu ⊢; rw [hp.2] at hu; rw [← Nat.add_assoc, hcj.2]; exact hu
    have HC := Lib.hid hcells
    have hplen : (pairCells (ps.take 130)).length = k * 2 := by rw [pairCells_length, ← hk.out]
    have HPL := Lib.hid hplen
    clear hnil h hcells hplen
    generalize hlen : ps.length = len at *
    have HL := Lib.hid hlen
    clear hlen
    have hone := Lib.hid (pairCells_one (ps.take 130))
    have hget := Lib.hid (pairCells_get (ps.take 130))
    go_enter Try.func29, Try.ntmps29
    go_wp2_with (at_builtin; go_must (refine wpList_append_q _ rfl (.tmp 4) (.tmp 9) 22 rfl w.heap.size 49 i0 _ 2 16 Try.underlying22 hi hz0 hz1 hz2 rfl (by decide) (.slice none 0 0) 0 [] rfl (QRow.nil _ _ _ _) ad k cap (pairCells (ps.take 130)) rfl HPL.out HC.out hone.out (by unfold maxLen; omega) (by omega) (Nat.le_refl _) ?_); intro v' w' hq hgr hbl)
    obtain ⟨p, c, rfl⟩ := hq.isSlice
    go_ret
    simp only [Nat.zero_add, List.nil_append] at hq
    refine ⟨p, c, by simp, fun hne => ?_, Below.grown (Below.refl _ _) hgr (Nat.le_refl _) (by intro r hr; cases hr)⟩
    have hkp : 0 < k := by rw [hk.out]; exact List.length_pos_iff.2 hne
    obtain ⟨g, o, cap', e, h1, h2, h3, h4, h5, h6⟩ := hq.at hkp
    cases e
    refine ⟨g, o, rfl, h2, fun j hj => ?_⟩
    have hj2 : j < k := by rw [hk.out]; exact hj
    have := hget.out j hj
    exact ⟨(h5 (j * 2) (by omega)).trans this.1, (h5 (j * 2 + 1) (by omega)).trans this.2⟩
end Go.Proofs.Ytfbobojpocnfeaa
