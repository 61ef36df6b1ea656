/- A list of pairs as it comes in, opened. -/
import Derived.Test.YtbioondlmgolkaaRows
import Derived.ProofKit
import Derived.OpenShut
import Derived.ChangeOld
import Derived.Deep.Slices
import Derived.Test.YtbioondlmgolkaaG505
set_option linter.unusedVariables false
set_option linter.unusedSimpArgs false
namespace Go.Proofs.Ytbioondlmgolkaa
open Go.ChangeShapes Go.WideShapes Go.ChangeAt Go.RowKit

theorem own_knob : ownKnob Try.prog.godebug = none := by kernel_rfl
theorem laid_out : laidOutB Try.prog = true := by kernel_rfl
theorem cells49 : Try.prog.cellsOf 28 = 2 := by kernel_rfl
theorem cells3 : Try.prog.cellsOf 3 = 1 := by kernel_rfl
set_option maxRecDepth 100000 in
theorem open_pairs {H : Type} {enc : TypeId × Value → H} {W : World} {a : Option Addr} {len cap : Nat} {d : DataW H} {p : List MemPlace}
    (h : ∃ fuel, DataW.trod enc Try.prog W 0 (fun _ => true) true fuel 22 (Value.slice a len cap).cells.toList = some (d, p)) : ∃ ps : List (Int × Int), PairsIn W a cap ps ∧ len = ps.length := by
  obtain ⟨fuel, hf⟩ := h
  rcases Go.Deep.open_slice Try.underlying22 hf with ⟨hcs, _⟩ | ⟨x, l, c, m, n, D, Pl, hcs, hb, hl, hm, hmm, hx, hel⟩
  · simp [Value.cells] at hcs
    obtain ⟨rfl, rfl, rfl⟩ := hcs
    exact ⟨[], ⟨fun e => absurd rfl e, Nat.le_refl _, by decide, fun _ => rfl⟩, rfl⟩
  · simp [Value.cells] at hcs
    obtain ⟨rfl, rfl, rfl⟩ := hcs
    have hlm : len ≤ m := by rw [hmm]; simpa using hl
    have each : ∀ i, i < len → ∃ z : Int × Int, W.cell? (x.add (i * 2)) = some (.int .i64 z.1) ∧ W.cell? (x.add (i * 2 + 1)) = some (.int .i64 z.2) := by
      intro i hi
      obtain ⟨cs', h1, h2⟩ := hel i (by omega)
      rw [cells49] at h1
      obtain ⟨_, hlen, hcell⟩ := World.cells?_some h1
      obtain ⟨xs, k, hk, hxy, _, hxl, hfx⟩ := DataW.trod_array Try.underlying28 h2
      match xs, hxl, cs', hlen with
      | [y0, y1], _, [v0, v1], _ =>
        have g0 := hfx 0 (by decide)
        have g1 := hfx 1 (by decide)
        simp [cells3] at g0 g1
        obtain ⟨n0, e0, _⟩ := DataW.trod_int Try.underlying3 g0
        obtain ⟨n1, e1, _⟩ := DataW.trod_int Try.underlying3 g1
        simp at e0 e1
        have q0 := hcell 0 (by omega)
        have q1 := hcell 1 (by omega)
        rw [Go.Deep.add_add] at q0 q1
        exact ⟨(n0, n1), by simpa [e0] using q0, by simpa [e1] using q1⟩
    obtain ⟨z, hz⟩ := Go.Deep.choose_lt each
    refine ⟨(List.range len).map z, ⟨fun hne => ?_, by simpa using hl, hm, fun e => by cases e⟩, by simp⟩
    · obtain ⟨b, off, sp⟩ := x
      have h0 : 0 < len := by have := List.length_pos_iff.2 hne; simpa using this
      have hsp : sp = none := by
        have := (hz 0 h0).1
        unfold World.cell? at this
        cases sp with
        | none => rfl
        | some s =>
          simp [Addr.add] at this
          split at this <;> simp_all
      subst hsp
      refine ⟨b, off, rfl, ?_, fun j hj => ?_⟩
      · have := (hz 0 h0).1
        obtain ⟨o, ho, _⟩ := cells_of_cell this
        exact (Array.getElem?_eq_some_iff.1 ho).1
      · have hj' : j < len := by simpa using hj
        have := hz j hj'
        simp only [Addr.add_lit] at this
        simp [hj', this.1, Nat.add_assoc, this.2]
end Go.Proofs.Ytbioondlmgolkaa
