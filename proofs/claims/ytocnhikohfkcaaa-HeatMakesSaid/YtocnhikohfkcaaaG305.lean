/- Walks of the functions that look at edges. The law's own: a copy of the first pairs; the reference's check. append onto a row of the call's own, the source another row, nil or not. -/
import Derived.Deep.QuietTactic
import Derived.BigQuiet
import Derived.Test.YtocnhikohfkcaaaG304
import Derived.Test.YtocnhikohfkcaaaQr
import Derived.Test.YtocnhikohfkcaaaG302
set_option linter.unusedVariables false
set_option linter.unusedSimpArgs false
namespace Go.Proofs.Ytocnhikohfkcaaa
open Go.RowKit

/-- a row of pairs of integers in memory, where there is one -/
def Pairs (w : World) (a : Option Addr) (ps : List (Int × Int)) : Prop :=
  ps ≠ [] → ∃ b off, a = some ⟨b, off, none⟩ ∧ b < w.heap.size ∧ ∀ j, j < ps.length → w.cell? ⟨b, off + j * 2, none⟩ = some (.int .i64 (ps[j]?.getD (0, 0)).1) ∧ w.cell? ⟨b, off + j * 2 + 1, none⟩ = some (.int .i64 (ps[j]?.getD (0, 0)).2)
theorem Pairs.below {n : Nat} {w W : World} {a : Option Addr} {ps : List (Int × Int)} (h : Pairs w a ps) (hb : Below n w W) (hn : w.heap.size ≤ n) : Pairs W a ps := fun hne => by
  obtain ⟨b, off, e, hlt, hc⟩ := h hne
  exact ⟨b, off, e, Nat.lt_of_lt_of_le hlt hb.size, fun j hj => ⟨(hb.cell (p := ⟨b, off + j * 2, none⟩) (Nat.lt_of_lt_of_le hlt hn)).trans (hc j hj).1, (hb.cell (p := ⟨b, off + j * 2 + 1, none⟩) (Nat.lt_of_lt_of_le hlt hn)).trans (hc j hj).2⟩⟩
end Go.Proofs.Ytocnhikohfkcaaa
namespace Go.Proofs.Ytocnhikohfkcaaa
open Go.RowKit Go.Shelf

/-- a slice of pairs as it comes in: it fits its capacity, and is nil only if it has none -/
structure PairsIn (w : World) (a : Option Addr) (cap : Nat) (ps : List (Int × Int)) : Prop where
  g : Pairs w a ps
  fits : ps.length ≤ cap
  capm : cap ≤ maxLen
  nil : a = none → cap = 0
theorem info49 : (Try.prog.info? 58).map (fun i => (i.zero, i.size, i.bytes)) = some (some (.agg #[.int .i64 0, .int .i64 0]), 2, 16) := by kernel_rfl
def pairCells : List (Int × Int) → List Value
  | [] => []
  | p :: ps => .int .i64 p.1 :: .int .i64 p.2 :: pairCells ps
theorem pairCells_length : ∀ ps, (pairCells ps).length = ps.length * 2
  | [] => rfl
  | p :: ps => by simp only [pairCells, List.length_cons, pairCells_length ps]; omega
theorem pairCells_get : ∀ (ps : List (Int × Int)) (j : Nat), j < ps.length → (pairCells ps)[j * 2]? = some (.int .i64 (ps[j]?.getD (0, 0)).1) ∧ (pairCells ps)[j * 2 + 1]? = some (.int .i64 (ps[j]?.getD (0, 0)).2)
  | p :: ps, 0, _ => ⟨rfl, rfl⟩
  | p :: ps, j + 1, h => by
    have ih := pairCells_get ps j (by simpa using h)
    rw [show (j + 1) * 2 = j * 2 + 1 + 1 by omega, show j * 2 + 1 + 1 + 1 = (j * 2 + 1) + 1 + 1 by omega]
    simp only [pairCells, List.getElem?_cons_succ]
    exact ih
theorem pairCells_one (ps : List (Int × Int)) : ∀ u ∈ pairCells ps, u.oneCell' = true := by
  induction ps with
  | nil => intro u hu; cases hu
  | cons p ps ih =>
    intro u hu
    rcases List.mem_cons.1 hu with rfl | hu
    · rfl
    · rcases List.mem_cons.1 hu with rfl | hu
      · rfl
      · exact ih u hu
theorem info3 : (Try.prog.info? 3).map (fun i => (i.zero, i.size, i.bytes)) = some (some (.int .i64 0), 1, 8) := by kernel_rfl
theorem cells_new1 (W : World) (t : TypeId) (u : Value) : ∀ (j : Nat) (x : Value), [u][j]? = some x → (W.alloc (.cells #[u] t)).cell? ((⟨W.heap.size, 0, none⟩ : Addr).add j) = some x := fun j x h => by
  rw [Addr.add_lit, Nat.zero_add, (BoxN.new (W := W) (t := t) (vs := #[u]) rfl).cell]
  simpa using h
end Go.Proofs.Ytocnhikohfkcaaa
namespace Go.Proofs.Ytocnhikohfkcaaa
open Go.RowKit
variable {P : Program}

/-- a source of values, nil where there are none -/
def Src (w : World) (p : Option Addr) (m size : Nat) (ys : List Value) : Prop := ys.length = m * size ∧ (m ≠ 0 → ∃ ad, p = some ad ∧ ∀ j u, ys[j]? = some u → w.cell? (ad.add j) = some u)
theorem QRow.src {w : World} {base : Nat} {e : TypeId} {size : Nat} {p : Option Addr} {m c : Nat} {ys : List Value} (h : QRow w base e size (.slice p m c) m ys) : Src w p m size ys := by
  refine ⟨h.1, fun hm => ?_⟩
  obtain ⟨g, o, cap, e1, _, _, _, _, h2, _⟩ := h.at (by omega)
  cases e1
  refine ⟨_, rfl, fun j u hu => ?_⟩
  have hj := (List.getElem?_eq_some_iff.1 hu).1
  rw [h.1] at hj
  rw [Addr.add_lit, h2 j hj]; exact hu
theorem run_append_q_nil (w : World) (base : Nat) (t ty e : TypeId) (i : TypeInfo) (size : Nat) (ht : P.underlying t = some (.slice e)) (hi : P.info? e = some i)
    (v : Value) (n : Nat) (xs : List Value) (hown : QRow w base e size v n xs) (c : Nat) : (Builtin.append_ #[t, t] ty #[v, .slice none 0 c]).run P w = .ok v w := by
  rcases hown.2 with ⟨rfl, rfl⟩ | ⟨g, o, cap, cur, rfl, _, _, hnc, _⟩
  · simp [Builtin.append_, run_underlying ht, sizeOf, typeInfo, hi, Builtin.lenOf, Builtin.firstCells]
  · simp [Builtin.append_, run_underlying ht, sizeOf, typeInfo, hi, Builtin.lenOf, Builtin.firstCells, hnc, storeCells]
theorem run_append_qq (w : World) (base : Nat) (t ty e : TypeId) (i : TypeInfo) (z : Value) (size bytes : Nat) (ht : P.underlying t = some (.slice e)) (hi : P.info? e = some i) (hz : i.zero = some z)
    (hsize : i.size = size) (hby : i.bytes = bytes) (hzs : z.cells.size = size) (hsz : 0 < size)
    (v : Value) (n : Nat) (xs : List Value) (hown : QRow w base e size v n xs)
    (p : Option Addr) (m c : Nat) (ys : List Value) (hs : Src w p m size ys) (h1 : ∀ u ∈ ys, u.oneCell' = true)
    (h63 : n + m ≤ maxLen) (hbytes : (n + m) * bytes ≤ 140737488355328) (hbase : base ≤ w.heap.size) :
    ∃ v' w', (Builtin.append_ #[t, t] ty #[v, .slice p m c]).run P w = .ok v' w' ∧ QRow w' base e size v' (n + m) (xs ++ ys) ∧ w.grownBy w' v.ownBlock ∧ ∀ k, v'.ownBlock = some k → v.ownBlock = some k ∨ w.heap.size ≤ k := by
  by_cases hm : m = 0
  · subst hm
    have hn : ys = [] := List.eq_nil_of_length_eq_zero (by simpa using hs.1)
    subst hn
    cases p with
    | none => exact ⟨v, w, run_append_q_nil w base t ty e i size ht hi v n xs hown c, by simpa using hown, World.grownBy.refl w _, fun k hk => .inl hk⟩
    | some ad => exact run_append_q w base t ty e i z size bytes ht hi hz hsize hby hzs hsz v n xs hown ad 0 c [] (by simp) (fun j u hu => by simp at hu) h1 h63 hbytes hbase
  · obtain ⟨ad, rfl, hc⟩ := hs.2 hm
    exact run_append_q w base t ty e i z size bytes ht hi hz hsize hby hzs hsz v n xs hown ad m c ys hs.1 hc h1 h63 hbytes hbase
theorem wpList_append_qq (w : World) {ops : Array Oper} {rest : List Oper} {o : Oper} {a : Act} {Q : Exit → Act → World → Prop}
    (hgd : o.guard = none) (s x : Operand) (t : TypeId) (ho : o.op = Op.call { callee := Callee.builtin Builtin.append, args := #[s, x], argTypes := #[t, t] })
    (base : Nat) (e : TypeId) (i : TypeInfo) (z : Value) (size bytes : Nat) (h1 : P.underlying t = some (.slice e)) (h2 : P.info? e = some i) (h3 : i.zero = some z) (h4 : i.size = size) (h5 : i.bytes = bytes) (h6 : z.cells.size = size) (h7 : 0 < size)
    (v : Value) (k : Nat) (xs : List Value) (hs : a.eval s = v) (hown : QRow w base e size v k xs) (p : Option Addr) (m c : Nat) (ys : List Value) (hx : a.eval x = .slice p m c) (hn : Src w p m size ys)
    (h1c : ∀ u ∈ ys, u.oneCell' = true) (b1 : k + m ≤ maxLen) (b2 : (k + m) * bytes ≤ 140737488355328) (b3 : base ≤ w.heap.size)
    (hK : ∀ v' w', QRow w' base e size v' (k + m) (xs ++ ys) → w.grownBy w' v.ownBlock → (∀ k, v'.ownBlock = some k → v.ownBlock = some k ∨ w.heap.size ≤ k) → wpList P ops Q rest (a.put o.dst v') w') :
    wpList P ops Q (o :: rest) a w := by
  refine wpList_plain hgd fun K hK' => ?_
  obtain ⟨v', w', hr, r1, r2, r3⟩ := run_append_qq (P := P) w base t o.type e i z size bytes h1 h2 h3 h4 h5 h6 h7 v k xs hown p m c ys hn h1c b1 b2 b3
  unfold Oper.wp execOp
  simp only [ho, resolve, invoke, builtin, Sem.run_bind, Sem.run_pure, Result.andThen_ok, List.map_toArray, List.map_cons, List.map_nil, hs, hx, hr]
  exact hK' _ _ (hK v' w' r1 r2 r3)
end Go.Proofs.Ytocnhikohfkcaaa
