/- Arguments as they come in, opened: lists of triples, lists of lists of triples. -/
import Derived.Test.YtocnhikohfkcaaaRows
import Derived.Test.YtocnhikohfkcaaaG321
import Derived.ProofKit
import Derived.OpenShut
import Derived.ChangeOld
import Derived.Deep.Slices
set_option linter.unusedVariables false
set_option linter.unusedSimpArgs false
namespace Go.Proofs.Ytocnhikohfkcaaa
open Go.ChangeShapes Go.WideShapes Go.ChangeAt Go.RowKit

theorem own_knob : ownKnob Try.prog.godebug = none := by kernel_rfl
theorem laid_out : laidOutB Try.prog = true := by kernel_rfl
theorem cellsT3 : Try.prog.cellsOf 44 = 3 := by kernel_rfl
theorem cellsI : Try.prog.cellsOf 3 = 1 := by kernel_rfl
theorem cellsTs : Try.prog.cellsOf 33 = 1 := by kernel_rfl
set_option maxRecDepth 100000 in
theorem open_tri {H : Type} {enc : TypeId × Value → H} {W : World} {a : Option Addr} {len cap : Nat} {d : DataW H} {p : List MemPlace}
    (h : ∃ fuel, DataW.trod enc Try.prog W 0 (fun _ => true) true fuel 33 (Value.slice a len cap).cells.toList = some (d, p)) : ∃ ps : List Z3, (SrcZ W a ps ∧ ps.length ≤ cap) ∧ len = ps.length := by
  obtain ⟨fuel, hf⟩ := h
  rcases Go.Deep.open_slice Try.underlying33 hf with ⟨hcs, _⟩ | ⟨x, l, c, m, n, D, Pl, hcs, hb, hl, hm, hmm, hx, hel⟩
  · simp [Value.cells] at hcs
    obtain ⟨rfl, rfl, rfl⟩ := hcs
    exact ⟨[], ⟨fun h0 => absurd h0 (by simp), Nat.le_refl _⟩, rfl⟩
  · simp [Value.cells] at hcs
    obtain ⟨rfl, rfl, rfl⟩ := hcs
    have hlm : len ≤ m := by rw [hmm]; simpa using hl
    have each : ∀ i, i < len → ∃ z : Z3, W.cell? (x.add (i * 3)) = some (.int .i64 z.1) ∧ W.cell? (x.add (i * 3 + 1)) = some (.int .i64 z.2.1) ∧ W.cell? (x.add (i * 3 + 2)) = some (.int .i64 z.2.2) := by
      intro i hi
      obtain ⟨cs', h1, h2⟩ := hel i (by omega)
      rw [cellsT3] at h1
      obtain ⟨_, hlen, hcell⟩ := World.cells?_some h1
      obtain ⟨xs, k, hk, hxy, _, hxl, hfx⟩ := DataW.trod_array Try.underlying44 h2
      match xs, hxl, cs', hlen with
      | [y0, y1, y2], _, [v0, v1, v2], _ =>
        have g0 := hfx 0 (by decide)
        have g1 := hfx 1 (by decide)
        have g2 := hfx 2 (by decide)
        simp [cellsI] at g0 g1 g2
        obtain ⟨n0, e0, _⟩ := DataW.trod_int Try.underlying3 g0
        obtain ⟨n1, e1, _⟩ := DataW.trod_int Try.underlying3 g1
        obtain ⟨n2, e2, _⟩ := DataW.trod_int Try.underlying3 g2
        simp at e0 e1 e2
        have q0 := hcell 0 (by omega)
        have q1 := hcell 1 (by omega)
        have q2 := hcell 2 (by omega)
        rw [Go.Deep.add_add] at q0 q1 q2
        exact ⟨(n0, n1, n2), by simpa [e0] using q0, by simpa [e1] using q1, by simpa [e2] using q2⟩
    obtain ⟨z, hz⟩ := Go.Deep.choose_lt each
    refine ⟨(List.range len).map z, ⟨fun hne => ?_, by simpa using hl⟩, by simp⟩
    obtain ⟨b, off, sp⟩ := x
    have h0 : 0 < len := by simpa using hne
    have hsp : sp = none := by
      have := (hz 0 h0).1
      unfold World.cell? at this
      cases sp with
      | none => rfl
      | some s =>
        simp [Addr.add] at this
        split at this <;> simp_all
    subst hsp
    refine ⟨b, off, rfl, ?_, fun j hj => ?_⟩
    · have := (hz 0 h0).1
      obtain ⟨o, ho, _⟩ := cells_of_cell this
      exact (Array.getElem?_eq_some_iff.1 ho).1
    · have hj' : j < len := by simpa using hj
      have := hz j hj'
      simp only [Addr.add_lit] at this
      simp [this.1, Nat.add_assoc, this.2.1, this.2.2]
set_option maxRecDepth 100000 in
theorem open_tris {H : Type} {enc : TypeId × Value → H} {W : World} {a : Option Addr} {len cap : Nat} {d : DataW H} {p : List MemPlace}
    (h : ∃ fuel, DataW.trod enc Try.prog W 0 (fun _ => true) true fuel 36 (Value.slice a len cap).cells.toList = some (d, p)) : ∃ ds : List (List Z3), (SrcD W a ds ∧ ds.length ≤ cap) ∧ len = ds.length := by
  obtain ⟨fuel, hf⟩ := h
  rcases Go.Deep.open_slice1 Try.underlying36 cellsTs hf with ⟨hcs, _⟩ | ⟨x, l, c, m, n, V, D, Pl, hcs, hb, hl, hm, hmm, hx, hel⟩
  · simp [Value.cells] at hcs
    obtain ⟨rfl, rfl, rfl⟩ := hcs
    exact ⟨[], ⟨fun h0 => absurd h0 (by simp), Nat.le_refl _⟩, rfl⟩
  · simp [Value.cells] at hcs
    obtain ⟨rfl, rfl, rfl⟩ := hcs
    have hlm : len ≤ m := by rw [hmm]; simpa using hl
    have each : ∀ i, i < len → ∃ z : List Z3, ∃ p c, W.cell? (x.add i) = some (.slice p z.length c) ∧ z.length ≤ c ∧ SrcZ W p z := by
      intro i hi
      obtain ⟨h1, h2⟩ := hel i (by omega)
      have hsl : ∃ p l c, V i = .slice p l c := by
        rcases Go.Deep.open_slice Try.underlying33 h2 with ⟨hcs, _⟩ | ⟨x, l, c, m, n, D, Pl, hcs, _⟩
        · exact ⟨_, _, _, by simpa using hcs⟩
        · exact ⟨_, _, _, by simpa using hcs⟩
      obtain ⟨p, l, c, e⟩ := hsl
      rw [e] at h1 h2
      obtain ⟨z, hz, rfl⟩ := open_tri ⟨n, h2⟩
      exact ⟨z, p, c, h1, hz.2, hz.1⟩
    obtain ⟨z, hz⟩ := Go.Deep.choose_lt each
    refine ⟨(List.range len).map z, ⟨fun hne => ?_, by simpa using hl⟩, by simp⟩
    obtain ⟨b, off, sp⟩ := x
    have h0 : 0 < len := by simpa using hne
    have hsp : sp = none := by
      obtain ⟨p, c, this, _⟩ := hz 0 h0
      unfold World.cell? at this
      cases sp with
      | none => rfl
      | some s =>
        simp [Addr.add] at this
        split at this <;> simp_all
    subst hsp
    refine ⟨b, off, rfl, ?_, fun j hj => ?_⟩
    · obtain ⟨p, c, this, _⟩ := hz 0 h0
      obtain ⟨o, ho, _⟩ := cells_of_cell this
      exact (Array.getElem?_eq_some_iff.1 ho).1
    · have hj' : j < len := by simpa using hj
      obtain ⟨p, c, h1, h2, h3⟩ := hz j hj'
      simp only [Addr.add_lit] at h1
      refine ⟨p, c, ?_, ?_, ?_⟩
      · simpa using h1
      · simpa using h2
      · simpa using h3
end Go.Proofs.Ytocnhikohfkcaaa
