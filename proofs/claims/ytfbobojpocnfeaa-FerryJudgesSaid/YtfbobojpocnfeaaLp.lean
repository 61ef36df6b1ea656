/- Five numbers, and a list of numbers, as they come in, opened. -/
import Derived.Test.YtfbobojpocnfeaaLo
import Derived.Test.YtfbobojpocnfeaaIp
namespace Go.Proofs.Ytfbobojpocnfeaa
open Go.ChangeShapes Go.WideShapes Go.ChangeAt Go.RowKit

theorem cells40 : Try.prog.cellsOf 40 = 5 := by kernel_rfl
theorem open_five {H : Type} {enc : TypeId × Value → H} {W : World} {v : Value} {d : DataW H} {p : List MemPlace} {r : Reach} {base : Nat} (hv : Value.okWide Try.prog W r base 40 v)
    (h : ∃ fuel, DataW.trod enc Try.prog W 0 (fun _ => true) true fuel 40 v.cells.toList = some (d, p)) : ∃ x0 x1 x2 x3 x4 : Int, v = .agg #[.int .i64 x0, .int .i64 x1, .int .i64 x2, .int .i64 x3, .int .i64 x4] := by
  simp only [Value.okWide, Try.underlying40] at hv
  obtain ⟨cs, rfl, hsz, _⟩ := hv
  rw [cells40] at hsz
  obtain ⟨fuel, hf⟩ := h
  obtain ⟨xs, k, hk, hxy, _, hxl, hfx⟩ := DataW.trod_array Try.underlying40 hf
  obtain ⟨l, rfl⟩ : ∃ l : List Value, cs = l.toArray := ⟨cs.toList, by simp⟩
  match xs, hxl, l, hsz with
  | [y0, y1, y2, y3, y4], _, [v0, v1, v2, v3, v4], _ =>
    have g0 := hfx 0 (by decide)
    have g1 := hfx 1 (by decide)
    have g2 := hfx 2 (by decide)
    have g3 := hfx 3 (by decide)
    have g4 := hfx 4 (by decide)
    simp [cells3, Value.cells] at g0 g1 g2 g3 g4
    obtain ⟨n0, e0, _⟩ := DataW.trod_int Try.underlying3 g0
    obtain ⟨n1, e1, _⟩ := DataW.trod_int Try.underlying3 g1
    obtain ⟨n2, e2, _⟩ := DataW.trod_int Try.underlying3 g2
    obtain ⟨n3, e3, _⟩ := DataW.trod_int Try.underlying3 g3
    obtain ⟨n4, e4, _⟩ := DataW.trod_int Try.underlying3 g4
    simp at e0 e1 e2 e3 e4
    exact ⟨n0, n1, n2, n3, n4, by rw [e0, e1, e2, e3, e4]⟩
/-- a list of numbers as it comes in -/
structure IntsIn (w : World) (a : Option Addr) (cap : Nat) (xs : List Int) : Prop where
  g : Ints w a xs
  fits : xs.length ≤ cap
  capm : cap ≤ maxLen
  nil : a = none → cap = 0
  lo : ∀ x ∈ xs, -9223372036854775808 ≤ x ∧ x ≤ 9223372036854775807
theorem open_ints_in {H : Type} {enc : TypeId × Value → H} {W : World} {a : Option Addr} {len cap : Nat} {d : DataW H} {p : List MemPlace}
    (h : ∃ fuel, DataW.trod enc Try.prog W 0 (fun _ => true) true fuel 25 (Value.slice a len cap).cells.toList = some (d, p)) : ∃ xs : List Int, IntsIn W a cap xs ∧ len = xs.length := by
  obtain ⟨fuel, hf⟩ := h
  rcases Go.ChangeShapes.open_ints Try.underlying25 Try.underlying3 cells3 hf with ⟨hcs, _⟩ | ⟨x, l, c, zs, hcs, _, hl, hm, hz, _, hcell, hwz⟩
  · simp [Value.cells] at hcs
    obtain ⟨rfl, rfl, rfl⟩ := hcs
    exact ⟨[], ⟨fun e => absurd rfl e, Nat.le_refl _, by decide, fun _ => rfl, fun x hx => by cases hx⟩, rfl⟩
  · simp [Value.cells] at hcs
    obtain ⟨rfl, rfl, rfl⟩ := hcs
    have hzl : zs.length = cap := by simpa using hz
    have hlen : (zs.take len).length = len := by rw [List.length_take]; omega
    refine ⟨zs.take len, ⟨fun hne => ?_, by rw [hlen]; exact hl, hm, fun e => (by cases e), fun y hy => ?_⟩, hlen.symm⟩
    · have h0 : 0 < len := by have := List.length_pos_iff.2 hne; omega
      obtain ⟨b, off, sp⟩ := x
      have hc0 := hcell 0 (by omega)
      have hsp : sp = none := by
        unfold World.cell? at hc0
        cases sp with
        | none => rfl
        | some s =>
          simp [Addr.add] at hc0
          split at hc0 <;> simp_all
      subst hsp
      refine ⟨b, off, rfl, ?_, fun j hj => ?_⟩
      · obtain ⟨o, ho, _⟩ := cells_of_cell hc0
        exact (Array.getElem?_eq_some_iff.1 ho).1
      · rw [hlen] at hj
        have := hcell j (by omega)
        rw [Addr.add_lit] at this
        rw [this, List.getElem?_take, if_pos hj, List.getD_eq_getElem?_getD]
    · have := hwz y (List.mem_of_mem_take hy)
      simp [Lit.wf, IntKind.min, IntKind.max, IntKind.signed, IntKind.bits] at this
      omega
end Go.Proofs.Ytfbobojpocnfeaa
