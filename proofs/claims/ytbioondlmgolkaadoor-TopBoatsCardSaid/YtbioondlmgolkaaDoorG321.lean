/- The program's crowd is made out of edges. A slice that the call itself has made, wherever in its row it begins: append, cut off the first, store, read. What a stretch of a walk leaves as it was: all blocks but some. And the law of a loop over the sets within a set whose body writes a map. Walks of the exported functions: IsQuiet, Cover, Plan, Least. The law's own: a copy of the first pairs; the reference's check. The reference's list of a graph's edges, and the law's tame: walks. What they make is a graph that the chapter takes. The reference's graph of edges, and the law's tame: walks. The program's graph is made out of edges. -/
import Derived.BigRegion
import Derived.Test.YtbioondlmgolkaaDoorG320
import Derived.WalkKit
import Derived.OwnWalkIn
import Derived.Test.YtbioondlmgolkaaDoorHuQr
import Derived.Test.YtbioondlmgolkaaDoorHuIu
import Derived.Deep.DeepMust
import Derived.Deep.QuietTactic
import Derived.BigQuiet
set_option linter.unusedVariables false
set_option linter.unusedSimpArgs false
namespace Go.Proofs.YtbioondlmgolkaaDoor.Hu
open Go.RowKit

/-- an edge more -/
def addE (g : List Nat) (x y : Nat) : List Nat := (g.set x ((g[x]?.getD 0) ||| pw y)).set y ((g[y]?.getD 0) ||| pw x)
/-- the neighbours of each, of edges whose ends are below n -/
def ofE (n : Nat) (ps : List (Int × Int)) : List Nat := ps.foldl (fun g e => addE g e.1.toNat e.2.toNat) (List.replicate n 0)
theorem addE_length (g : List Nat) (x y : Nat) : (addE g x y).length = g.length := by simp [addE]
theorem foldE_length : ∀ (ps : List (Int × Int)) (g : List Nat), (ps.foldl (fun g e => addE g e.1.toNat e.2.toNat) g).length = g.length
  | [], _ => rfl
  | e :: ps, g => by rw [List.foldl_cons, foldE_length ps, addE_length]
theorem ofE_length (n : Nat) (ps : List (Int × Int)) : (ofE n ps).length = n := by unfold ofE; rw [foldE_length]; simp
theorem addE_at (g : List Nat) (x y j : Nat) (hxy : x ≠ y) (hx : x < g.length) (hy : y < g.length) :
    (addE g x y)[j]?.getD 0 = if j = x then (g[x]?.getD 0) ||| pw y else if j = y then (g[y]?.getD 0) ||| pw x else g[j]?.getD 0 := by
  unfold addE
  by_cases e1 : j = x
  · subst e1; rw [List.getElem?_set_ne (Ne.symm hxy), List.getElem?_set_self hx]; simp
  · by_cases e2 : j = y
    · subst e2; rw [List.getElem?_set_self (by simpa using hy)]; simp [e1]
    · rw [List.getElem?_set_ne (Ne.symm e2), List.getElem?_set_ne (Ne.symm e1)]; simp [e1, e2]
theorem addE_sm (g : List Nat) (x y : Nat) (hxy : x ≠ y) (hx : x < g.length) (hy : y < g.length) (hl : g.length < 20) (h : ∀ i : Nat, Sm (g[i]?.getD 0)) (i : Nat) : Sm ((addE g x y)[i]?.getD 0) := by
  rw [addE_at g x y i hxy hx hy]
  split
  · exact sm_or (h x) (sm_pw (by omega))
  · split
    · exact sm_or (h y) (sm_pw (by omega))
    · exact h i
/-- what the check of edges says of each -/
theorem edgesB_at {n : Int} {ps : List (Int × Int)} (h : edgesB n ps = true) (k : Nat) (hk : k < ps.length) : 0 ≤ (ps[k]?.getD (0, 0)).1 ∧ (ps[k]?.getD (0, 0)).1 < (ps[k]?.getD (0, 0)).2 ∧ (ps[k]?.getD (0, 0)).2 < n := by
  unfold edgesB at h
  rw [List.all_eq_true] at h
  have := h k (List.mem_range.2 hk)
  unfold badAt at this
  simp at this
  omega
end Go.Proofs.YtbioondlmgolkaaDoor.Hu
namespace Go.Proofs.YtbioondlmgolkaaDoor.Hu
open Go.RowKit
variable {F : Fence} {N : Nat} {P : Program}

def QRow (w : World) (base : Nat) (e : TypeId) (size : Nat) (v : Value) (n : Nat) (xs : List Value) : Prop :=
  xs.length = n * size ∧
  ((v = .slice none 0 0 ∧ n = 0) ∨
   ∃ g o cap cur, v = .slice (some ⟨g, o, none⟩) n cap ∧ base ≤ g ∧ w.heap[g]? = some (.cells cur e (0, 0)) ∧ n ≤ cap ∧ cap ≤ maxLen ∧ o + cap * size ≤ cur.size ∧ ∀ j, j < n * size → cur[o + j]? = xs[j]?)
theorem QRow.nil (w : World) (base : Nat) (e : TypeId) (size : Nat) : QRow w base e size (.slice none 0 0) 0 [] := ⟨by simp, .inl ⟨rfl, rfl⟩⟩
theorem QRow.of_own {w : World} {base : Nat} {e : TypeId} {size : Nat} {v : Value} {n : Nat} {xs : List Value} (h : w.ownsRow base e size v n xs) : QRow w base e size v n xs := by
  refine ⟨h.1, h.2.imp id ?_⟩
  rintro ⟨g, cap, cur, e1, e2, e3, e4, e5, e6, e7⟩
  refine ⟨g, 0, cap, cur, e1, e2, e3, e4, e5, by omega, fun j hj => ?_⟩
  rw [← e7, List.getElem?_take, if_pos hj]; simp
theorem QRow.lt {w : World} {base : Nat} {e : TypeId} {size : Nat} {v : Value} {n : Nat} {xs : List Value} (h : QRow w base e size v n xs) : ∀ k, v.ownBlock = some k → base ≤ k ∧ k < w.heap.size := by
  intro k hk
  rcases h.2 with ⟨rfl, _⟩ | ⟨g, o, cap, cur, rfl, hb, hg, _⟩
  · cases hk
  · cases hk; exact ⟨hb, (Array.getElem?_eq_some_iff.1 hg).1⟩
theorem QRow.kept {w w' : World} {base : Nat} {e : TypeId} {size : Nat} {v : Value} {n : Nat} {xs : List Value} {row : Option Nat} (h : QRow w base e size v n xs) (hg : w.grownBy w' row) (hne : v.ownBlock = none ∨ v.ownBlock ≠ row) : QRow w' base e size v n xs := by
  refine ⟨h.1, h.2.imp id ?_⟩
  rintro ⟨g, o, cap, cur, rfl, e2, e3, e4⟩
  refine ⟨g, o, cap, cur, rfl, e2, ?_, e4⟩
  rcases hne with hne | hne
  · cases hne
  · exact (hg.block g (Array.getElem?_eq_some_iff.1 e3).1 hne).trans e3
theorem QRow.alloc {w : World} {base : Nat} {e : TypeId} {size : Nat} {v : Value} {n : Nat} {xs : List Value} (h : QRow w base e size v n xs) (ob : Obj) : QRow (w.alloc ob) base e size v n xs :=
  h.kept (row := none) (World.grownBy_alloc w ob none) (by cases e : v.ownBlock <;> simp)
theorem QRow.other {w : World} {base : Nat} {e : TypeId} {size : Nat} {v : Value} {n : Nat} {xs : List Value} (h : QRow w base e size v n xs) {a : Addr} (hne : ∀ k, v.ownBlock = some k → k ≠ a.block) (x : Value) : QRow (w.setCell a x) base e size v n xs := by
  refine ⟨h.1, h.2.imp id ?_⟩
  rintro ⟨g, o, cap, cur, rfl, e2, e3, e4⟩
  refine ⟨g, o, cap, cur, rfl, e2, ?_, e4⟩
  rw [← e3]
  show (w.heap.modify a.block _)[g]? = _
  rw [Array.getElem?_modify]
  simp [Ne.symm (hne g rfl)]
theorem QRow.below {n₀ : Nat} {w W : World} {base : Nat} {e : TypeId} {size : Nat} {v : Value} {n : Nat} {xs : List Value} (h : QRow w base e size v n xs) (hb : Below n₀ w W) (hn : ∀ k, v.ownBlock = some k → k < n₀) : QRow W base e size v n xs := by
  refine ⟨h.1, h.2.imp id ?_⟩
  rintro ⟨g, o, cap, cur, rfl, e2, e3, e4⟩
  exact ⟨g, o, cap, cur, rfl, e2, (hb.block g (hn g rfl)).trans e3, e4⟩
theorem QRow.mono {w : World} {base base' : Nat} {e : TypeId} {size : Nat} {v : Value} {n : Nat} {xs : List Value} (h : QRow w base e size v n xs) (hb : base' ≤ base) : QRow w base' e size v n xs :=
  ⟨h.1, h.2.imp id fun ⟨g, o, cap, cur, e1, e2, e3⟩ => ⟨g, o, cap, cur, e1, Nat.le_trans hb e2, e3⟩⟩
/-- its cells, where it is not empty -/
theorem QRow.at {w : World} {base : Nat} {e : TypeId} {size : Nat} {v : Value} {n : Nat} {xs : List Value} (h : QRow w base e size v n xs) (hn : 0 < n) :
    ∃ g o cap, v = .slice (some ⟨g, o, none⟩) n cap ∧ base ≤ g ∧ g < w.heap.size ∧ n ≤ cap ∧ cap ≤ maxLen ∧ (∀ j, j < n * size → w.cell? ⟨g, o + j, none⟩ = xs[j]?) ∧ ∀ j, w.frozen? ⟨g, j, none⟩ = false := by
  rcases h.2 with ⟨_, e0⟩ | ⟨g, o, cap, cur, rfl, hb, hg, h1, h2, h3, h4⟩
  · omega
  · refine ⟨g, o, cap, rfl, hb, (Array.getElem?_eq_some_iff.1 hg).1, h1, h2, fun j hj => ?_, fun j => ?_⟩
    · simp [World.cell?, hg, h4 j hj]
    · simp [World.frozen?, hg]
/-- a store into it -/
theorem QRow.set {w : World} {base : Nat} {e : TypeId} {size : Nat} {g o cap n : Nat} {xs : List Value} (h : QRow w base e size (.slice (some ⟨g, o, none⟩) n cap) n xs) (j : Nat) (hj : j < n * size) (x : Value) :
    QRow (w.setCell ⟨g, o + j, none⟩ x) base e size (.slice (some ⟨g, o, none⟩) n cap) n (xs.set j x) := by
  refine ⟨by simp [h.1], .inr ?_⟩
  rcases h.2 with ⟨e0, _⟩ | ⟨g', o', cap', cur, e1, hb, hg, h1, h2, h3, h4⟩
  · cases e0
  · cases e1
    refine ⟨g, o, cap, cur.setIfInBounds (o + j) x, rfl, hb, ?_, h1, h2, by simpa using h3, fun i hi => ?_⟩
    · exact BoxN.set (vs := cur) hg (o + j) x
    · by_cases e : i = j
      · subst e
        have : n * size ≤ cap * size := Nat.mul_le_mul_right _ h1
        rw [Array.getElem?_setIfInBounds_self_of_lt (by omega), List.getElem?_set_self (by rw [h.1]; exact hi)]
      · rw [Array.getElem?_setIfInBounds_ne (by omega), List.getElem?_set_ne (Ne.symm e)]; exact h4 i hi

theorem run_append_q (w : World) (base : Nat) (t ty e : TypeId) (i : TypeInfo) (z : Value) (size bytes : Nat) (ht : P.underlying t = some (.slice e)) (hi : P.info? e = some i) (hz : i.zero = some z)
    (hsize : i.size = size) (hby : i.bytes = bytes) (hzs : z.cells.size = size) (hsz : 0 < size)
    (v : Value) (n : Nat) (xs : List Value) (hown : QRow w base e size v n xs)
    (a : Addr) (m c : Nat) (news : List Value) (hl : news.length = m * size) (hnews : ∀ j u, news[j]? = some u → w.cell? (a.add j) = some u) (h1 : ∀ u ∈ news, u.oneCell' = true)
    (h63 : n + m ≤ maxLen) (hbytes : (n + m) * bytes ≤ 140737488355328) (hbase : base ≤ w.heap.size) :
    ∃ v' w', (Builtin.append_ #[t, t] ty #[v, .slice (some a) m c]).run P w = .ok v' w' ∧ QRow w' base e size v' (n + m) (xs ++ news) ∧ w.grownBy w' v.ownBlock ∧ ∀ k, v'.ownBlock = some k → v.ownBlock = some k ∨ w.heap.size ≤ k := by
  rcases hown.2 with ⟨rfl, rfl⟩ | ⟨g, o, cap, cur, rfl, hbg, hg, hnc, hcm, hcs, htake⟩
  · have hx : xs = [] := List.eq_nil_of_length_eq_zero (by simpa using hown.1)
    subst hx
    obtain ⟨v', w', r, r1, r2, _⟩ := run_append_own (P := P) w w.heap.size t ty e i z size bytes ht hi hz hsize hby hzs hsz (.slice none 0 0) 0 [] (World.ownsRow_nil w w.heap.size e size) a m c news hl hnews h1 h63 hbytes (Nat.le_refl _)
    exact ⟨v', w', r, (QRow.of_own r1).mono hbase, r2, fun k hk => .inr ((QRow.of_own r1).lt k hk).1⟩
  · subst hsize
    subst hby
    have hlen : (xs ++ news).length = (n + m) * i.size := by rw [List.length_append, hown.1, hl, Nat.add_mul]
    by_cases hroom : n + m ≤ cap
    · have hmul : (n + m) * i.size ≤ cap * i.size := Nat.mul_le_mul_right _ hroom
      have hfit : o + n * i.size + 0 + news.length ≤ cur.size := by rw [hl]; rw [Nat.add_mul] at hmul; omega
      have hf := run_firstCells_some (P := P) w i.size m a m c news hl hnews
      have hst := run_storeCells_at P g (o + n * i.size) e news 0 cur w hg hfit h1
      simp only [Nat.add_zero] at hst hfit
      refine ⟨.slice (some ⟨g, o, none⟩) (n + m) cap, w.setRow g (cur.toList.take (o + n * i.size) ++ news ++ cur.toList.drop (o + n * i.size + news.length)).toArray, ?_, ⟨hlen, .inr ⟨g, o, cap, _, rfl, hbg, setRow_heap w g cur (cur.toList.take (o + n * i.size) ++ news ++ cur.toList.drop (o + n * i.size + news.length)).toArray e _ hg, hroom, hcm, ?_, ?_⟩⟩, ⟨rfl, rfl, rfl, by simp, fun k _ hk => setRow_other w g k _ (fun e => hk (by simp [Value.ownBlock, e]))⟩, fun k hk => .inl hk⟩
      · simp [Builtin.append_, run_underlying ht, sizeOf, typeInfo, hi, Builtin.lenOf, hroom, hf, Addr.add_lit, hst]
      · simp only [List.size_toArray, List.length_append, List.length_take, List.length_drop, Array.length_toList]
        omega
      · intro j hj
        simp only [List.getElem?_toArray]
        have ht1 : (cur.toList.take (o + n * i.size)).length = o + n * i.size := by simp; omega
        by_cases hjn : j < n * i.size
        · rw [List.append_assoc, List.getElem?_append_left (by omega), List.getElem?_take, if_pos (by omega)]
          rw [List.getElem?_append_left (by rw [hown.1]; exact hjn)]
          simpa using htake j hjn
        · rw [List.append_assoc, List.getElem?_append_right (by omega), ht1, List.getElem?_append_left (by rw [hl]; rw [Nat.add_mul] at hj; omega)]
          rw [List.getElem?_append_right (by rw [hown.1]; omega), hown.1]
          congr 1; omega
    · have holds : ∀ j u, xs[j]? = some u → w.cell? ((⟨g, o, none⟩ : Addr).add j) = some u := fun j u hu => by
        have hj : j < n * i.size := by rw [← hown.1]; exact (List.getElem?_eq_some_iff.1 hu).1
        rw [Addr.add_lit]
        simp [World.cell?, hg, htake j hj, hu]
      have hr := run_append_grow (P := P) (ty := ty) w t e i z ht hi hz ⟨g, o, none⟩ n cap xs hown.1 holds a m c news hl hnews (by omega) (by simp only [maxLen] at h63; omega) (growslice_fits (by omega) hbytes)
      have hge := grownCap_ge w (n + m) cap e
      have hcm' : grownCap w (n + m) cap e ≤ maxLen := grownCap_le_maxLen w (n + m) cap e h63
      refine ⟨_, _, hr, ⟨hlen, .inr ⟨w.heap.size, 0, _, _, rfl, hbase, World.alloc_heap_new w.drew _, hge, hcm', ?_, ?_⟩⟩, ⟨rfl, rfl, rfl, by simp, fun k hk _ => Below.heap_alloc w.drew _ k hk⟩, fun k hk => .inr (by cases hk; exact Nat.le_refl _)⟩
      · simp only [Array.size_append, List.size_toArray, size_zeroCells, hzs, hown.1, hl, ← Nat.add_mul, Nat.zero_add]
        apply Nat.le_of_eq
        congr 1
        omega
      · intro j hj
        rw [Nat.zero_add, Array.append_assoc, Array.getElem?_append]
        by_cases hjx : j < xs.length
        · rw [if_pos (by simpa using hjx), List.getElem?_append_left hjx]; simp
        · rw [if_neg (by simpa using hjx), List.getElem?_append_right (by omega), Array.getElem?_append, if_pos (by have := hown.1; rw [Nat.add_mul] at hj; simp; omega)]
          simp
theorem wpList_append_q (w : World) {ops : Array Oper} {rest : List Oper} {o : Oper} {a : Act} {Q : Exit → Act → World → Prop}
    (hgd : o.guard = none) (s x : Operand) (t : TypeId) (ho : o.op = Op.call { callee := Callee.builtin Builtin.append, args := #[s, x], argTypes := #[t, t] })
    (base : Nat) (e : TypeId) (i : TypeInfo) (z : Value) (size bytes : Nat) (h1 : P.underlying t = some (.slice e)) (h2 : P.info? e = some i) (h3 : i.zero = some z) (h4 : i.size = size) (h5 : i.bytes = bytes) (h6 : z.cells.size = size) (h7 : 0 < size)
    (v : Value) (k : Nat) (xs : List Value) (hs : a.eval s = v) (hown : QRow w base e size v k xs) (ad : Addr) (m c : Nat) (news : List Value) (hx : a.eval x = .slice (some ad) m c) (hn : news.length = m * size)
    (hc : ∀ j u, news[j]? = some u → w.cell? (ad.add j) = some u) (h1c : ∀ u ∈ news, u.oneCell' = true) (b1 : k + m ≤ maxLen) (b2 : (k + m) * bytes ≤ 140737488355328) (b3 : base ≤ w.heap.size)
    (hK : ∀ v' w', QRow w' base e size v' (k + m) (xs ++ news) → w.grownBy w' v.ownBlock → (∀ k, v'.ownBlock = some k → v.ownBlock = some k ∨ w.heap.size ≤ k) → wpList P ops Q rest (a.put o.dst v') w') :
    wpList P ops Q (o :: rest) a w := by
  refine wpList_plain hgd fun K hK' => ?_
  obtain ⟨v', w', hr, r1, r2, r3⟩ := run_append_q (P := P) w base t o.type e i z size bytes h1 h2 h3 h4 h5 h6 h7 v k xs hown ad m c news hn hc h1c b1 b2 b3
  unfold Oper.wp execOp
  simp only [ho, resolve, invoke, builtin, Sem.run_bind, Sem.run_pure, Result.andThen_ok, List.map_toArray, List.map_cons, List.map_nil, hs, hx, hr]
  exact hK' _ _ (hK v' w' r1 r2 r3)
theorem QRow.isSlice {w : World} {base : Nat} {e : TypeId} {size : Nat} {v : Value} {n : Nat} {xs : List Value} (h : QRow w base e size v n xs) : ∃ p c, v = .slice p n c := by
  rcases h.2 with ⟨rfl, rfl⟩ | ⟨g, o, cap, cur, rfl, _⟩
  · exact ⟨none, 0, rfl⟩
  · exact ⟨_, _, rfl⟩
/-- what is left behind the first -/
theorem QRow.tail {w : World} {base : Nat} {e : TypeId} {size : Nat} {g o cap n : Nat} {xs : List Value} (h : QRow w base e size (.slice (some ⟨g, o, none⟩) (n + 1) cap) (n + 1) xs) :
    QRow w base e size (.slice (some (if cap = 1 then ⟨g, o, none⟩ else ⟨g, o + size, none⟩)) n (cap - 1)) n (xs.drop size) := by
  refine ⟨by rw [List.length_drop, h.1, Nat.add_mul, Nat.one_mul, Nat.add_sub_cancel], .inr ?_⟩
  rcases h.2 with ⟨e0, _⟩ | ⟨g', o', cap', cur, e1, hb, hg, h1, h2, h3, h4⟩
  · cases e0
  · cases e1
    by_cases hc : cap = 1
    · subst hc
      have hn : n = 0 := by omega
      subst hn
      exact ⟨g, o, 0, cur, rfl, hb, hg, by omega, by omega, by omega, fun j hj => by omega⟩
    · have hcs : (cap - 1) * size + size = cap * size := by rw [Nat.sub_mul, Nat.one_mul, Nat.sub_add_cancel]; exact Nat.le_mul_of_pos_left _ (by omega)
      refine ⟨g, o + size, cap - 1, cur, by rw [if_neg hc], hb, hg, by omega, by omega, by omega, fun j hj => ?_⟩
      rw [List.getElem?_drop, ← h4 (size + j) (by rw [Nat.add_mul, Nat.one_mul]; omega), Nat.add_assoc]
end Go.Proofs.YtbioondlmgolkaaDoor.Hu
namespace Go.Proofs.YtbioondlmgolkaaDoor.Hu
open Go.RowKit
attribute [local go_sem] Oper.semAt_some
structure Ag (ex : Nat → Prop) (W W' : World) : Prop where
  os : W'.os = W.os
  tape : W'.tape = W.tape
  output : W'.output = W.output
  size : W.heap.size ≤ W'.heap.size
  block : ∀ k, k < W.heap.size → ¬ ex k → W'.heap[k]? = W.heap[k]?
theorem Ag.refl (ex : Nat → Prop) (W : World) : Ag ex W W := ⟨rfl, rfl, rfl, Nat.le_refl _, fun _ _ _ => rfl⟩
theorem Ag.trans {ex : Nat → Prop} {A B C : World} (h : Ag ex A B) (k : Ag ex B C) : Ag ex A C :=
  ⟨k.os.trans h.os, k.tape.trans h.tape, k.output.trans h.output, Nat.le_trans h.size k.size, fun i hi hn => (k.block i (Nat.lt_of_lt_of_le hi h.size) hn).trans (h.block i hi hn)⟩
theorem Ag.mono {ex ex' : Nat → Prop} {A B : World} (h : Ag ex A B) (he : ∀ k, ex k → ex' k) : Ag ex' A B := ⟨h.os, h.tape, h.output, h.size, fun k hk hn => h.block k hk (fun e => hn (he k e))⟩
theorem Ag.of_grown {ex : Nat → Prop} {A B : World} {row : Option Nat} (h : A.grownBy B row) (he : ∀ k, row = some k → ex k) : Ag ex A B :=
  ⟨h.os, h.tape, h.output, h.size, fun k hk hn => h.block k hk (fun e => hn (he k e.symm))⟩
theorem Ag.alloc {ex : Nat → Prop} {A B : World} (h : Ag ex A B) (o : Obj) : Ag ex A (B.alloc o) := h.trans (Ag.of_grown (World.grownBy_alloc B o none) (fun _ e => by cases e))
theorem Ag.drewN {ex : Nat → Prop} {A B : World} (h : Ag ex A B) (n : Nat) : Ag ex A (B.drewN n) := ⟨h.os, h.tape, h.output, h.size, h.block⟩
theorem Ag.set {ex : Nat → Prop} {A B : World} (h : Ag ex A B) (a : Addr) (v : Value) (he : A.heap.size ≤ a.block ∨ ex a.block) : Ag ex A (B.setCell a v) := by
  refine ⟨h.os, h.tape, h.output, by simpa using h.size, fun k hk hn => ?_⟩
  rw [← h.block k hk hn]
  show (B.heap.modify a.block _)[k]? = _
  rw [Array.getElem?_modify]
  have : a.block ≠ k := fun e => by
    rcases he with he | he
    · omega
    · exact hn (e ▸ he)
  simp [this]
theorem Ag.grown {ex : Nat → Prop} {A B C : World} {row : Option Nat} (h : Ag ex A B) (hg : B.grownBy C row) (he : ∀ k, row = some k → A.heap.size ≤ k ∨ ex k) : Ag ex A C :=
  ⟨hg.os.trans h.os, hg.tape.trans h.tape, hg.output.trans h.output, Nat.le_trans h.size hg.size, fun k hk hn => (hg.block k (Nat.lt_of_lt_of_le hk h.size) (fun e => by
    rcases he k e.symm with he | he
    · omega
    · exact hn he)).trans (h.block k hk hn)⟩
theorem Ag.below {ex : Nat → Prop} {n : Nat} {w A B : World} (h : Ag ex A B) (hb : Below n w A) (hn : n ≤ A.heap.size) (he : ∀ k, k < n → ¬ ex k) : Below n w B :=
  ⟨h.os.trans hb.os, h.tape.trans hb.tape, h.output.trans hb.output, Nat.le_trans hb.size h.size, fun k hk => (h.block k (by omega) (he k hk)).trans (hb.block k hk)⟩
theorem Ag.boxed {ex : Nat → Prop} {A B : World} (h : Ag ex A B) {b : Nat} {t : TypeId} {v : Value} (hb : Boxed A b t v) (he : ¬ ex b) : Boxed B b t v := (h.block b hb.lt he).trans hb
end Go.Proofs.YtbioondlmgolkaaDoor.Hu
namespace Go.Proofs.YtbioondlmgolkaaDoor.Hu
open Go.RowKit Go.Shelf

theorem foldE_sm : ∀ (ps : List (Int × Int)) (g : List Nat), (∀ e ∈ ps, 0 ≤ e.1 ∧ e.1 < e.2 ∧ e.2 < (g.length : Int)) → g.length < 20 → (∀ i : Nat, Sm (g[i]?.getD 0)) → ∀ i : Nat, Sm ((ps.foldl (fun g e => addE g e.1.toNat e.2.toNat) g)[i]?.getD 0)
  | [], _, _, _, h => h
  | e :: ps, g, hp, hl, h => by
    have he := hp e List.mem_cons_self
    refine foldE_sm ps (addE g e.1.toNat e.2.toNat) (fun e' he' => by rw [addE_length]; exact hp e' (List.mem_cons_of_mem _ he')) (by rw [addE_length]; exact hl) (addE_sm g _ _ (by omega) (by omega) (by omega) hl h)
theorem edgesB_mem {n : Int} {ps : List (Int × Int)} (h : edgesB n ps = true) : ∀ e ∈ ps, 0 ≤ e.1 ∧ e.1 < e.2 ∧ e.2 < n := fun e he => by
  obtain ⟨k, hk⟩ := List.getElem?_of_mem he
  have := edgesB_at h k (List.getElem?_eq_some_iff.1 hk).1
  rw [hk] at this
  exact this
theorem ofE_sm {n : Nat} {ps : List (Int × Int)} (hn : n ≤ 16) (h : edgesB n ps = true) : ∀ i : Nat, Sm ((ofE n ps)[i]?.getD 0) :=
  foldE_sm ps _ (fun e he => by simpa using edgesB_mem h e he) (by simp; omega) (fun i => by
    rw [List.getElem?_replicate]
    split
    · exact (by unfold Sm; decide : Sm 0)
    · exact (by unfold Sm; decide : Sm 0))
/-- a graph that the chapter takes -/
structure Good (n : Nat) (ps : List (Int × Int)) (a : Option Addr) (w : World) : Prop where
  hl : ps.length ≤ 1099511627776
  hg : Pairs w a ps
  n1 : 1 ≤ n
  n2 : n ≤ 16
  ok : edgesB n ps = true
end Go.Proofs.YtbioondlmgolkaaDoor.Hu
namespace Go.Proofs.YtbioondlmgolkaaDoor.Hu
open Go.RowKit Go.Shelf

theorem info49 : (Tryd.prog.info? 24).map (fun i => (i.zero, i.size, i.bytes)) = some (some (.agg #[.int .i64 0, .int .i64 0]), 2, 16) := by kernel_rfl
def pairCells : List (Int × Int) → List Value
  | [] => []
  | p :: ps => .int .i64 p.1 :: .int .i64 p.2 :: pairCells ps
theorem pairCells_get : ∀ (ps : List (Int × Int)) (j : Nat), j < ps.length → (pairCells ps)[j * 2]? = some (.int .i64 (ps[j]?.getD (0, 0)).1) ∧ (pairCells ps)[j * 2 + 1]? = some (.int .i64 (ps[j]?.getD (0, 0)).2)
  | p :: ps, 0, _ => ⟨rfl, rfl⟩
  | p :: ps, j + 1, h => by
    have ih := pairCells_get ps j (by simpa using h)
    rw [show (j + 1) * 2 = j * 2 + 1 + 1 by omega, show j * 2 + 1 + 1 + 1 = (j * 2 + 1) + 1 + 1 by omega]
    simp only [pairCells, List.getElem?_cons_succ]
    exact ih
theorem info3 : (Tryd.prog.info? 3).map (fun i => (i.zero, i.size, i.bytes)) = some (some (.int .i64 0), 1, 8) := by kernel_rfl
theorem cells_new1 (W : World) (t : TypeId) (u : Value) : ∀ (j : Nat) (x : Value), [u][j]? = some x → (W.alloc (.cells #[u] t)).cell? ((⟨W.heap.size, 0, none⟩ : Addr).add j) = some x := fun j x h => by
  rw [Addr.add_lit, Nat.zero_add, (BoxN.new (W := W) (t := t) (vs := #[u]) rfl).cell]
  simpa using h
end Go.Proofs.YtbioondlmgolkaaDoor.Hu
namespace Go.Proofs.YtbioondlmgolkaaDoor.Hu
open Go.RowKit Go.Shelf

/-- the last pair lies before (i, j) -/
def LastLt (ps : List (Int × Int)) (i j : Nat) : Prop := ∀ p, ps.getLast? = some p → p.1 < (i : Int) ∨ (p.1 = (i : Int) ∧ p.2 < (j : Int))
theorem LastLt.nil (i j : Nat) : LastLt [] i j := fun p h => by simp at h
theorem LastLt.snoc (ps : List (Int × Int)) (i j : Nat) : LastLt (ps ++ [((i : Int), (j : Int))]) i (j + 1) := fun p h => by
  simp at h; subst h; exact .inr ⟨rfl, by simp; omega⟩
theorem LastLt.next {ps : List (Int × Int)} {i j : Nat} (h : LastLt ps i j) : LastLt ps i (j + 1) := fun p hp => by
  rcases h p hp with h | h
  · exact .inl h
  · exact .inr ⟨h.1, by omega⟩
theorem LastLt.row {ps : List (Int × Int)} {i j : Nat} (h : LastLt ps i j) (k : Nat) : LastLt ps (i + 1) k := fun p hp => by
  rcases h p hp with h | h
  · exact .inl (by omega)
  · exact .inl (by omega)
theorem LastLt.start {ps : List (Int × Int)} {i : Nat} (h : LastLt ps i 0) (k : Nat) : LastLt ps i k := fun p hp => by
  rcases h p hp with h | h
  · exact .inl h
  · exact .inr ⟨h.1, by omega⟩
theorem badAt_append {n : Int} {ps : List (Int × Int)} (x : Int × Int) {k : Nat} (hk : k < ps.length) : badAt n (ps ++ [x]) k = badAt n ps k := by
  unfold badAt
  rw [List.getElem?_append_left hk, List.getElem?_append_left (by omega)]
theorem edgesB_snoc {n : Nat} {ps : List (Int × Int)} {i j : Nat} (h : edgesB n ps = true) (hl : LastLt ps i j) (hij : i < j) (hj : j < n) : edgesB n (ps ++ [((i : Int), (j : Int))]) = true := by
  unfold edgesB at *
  rw [List.all_eq_true] at *
  intro k hk
  rw [List.mem_range, List.length_append, List.length_singleton] at hk
  by_cases e : k < ps.length
  · rw [badAt_append _ e]; exact h k (List.mem_range.2 e)
  · have e : k = ps.length := by omega
    subst e
    unfold badAt
    have g1 : (ps ++ [((i : Int), (j : Int))])[ps.length]? = some ((i : Int), (j : Int)) := by simp
    rw [g1]
    by_cases h0 : ps.length = 0
    · simp [h0]; omega
    · have hne : ps ≠ [] := by intro e; rw [e] at h0; exact h0 rfl
      have g2 : (ps ++ [((i : Int), (j : Int))])[ps.length - 1]? = some (ps.getLast hne) := by
        rw [List.getElem?_append_left (by omega), ← List.getLast?_eq_getElem?, List.getLast?_eq_some_getLast hne]
      rw [g2]
      have := hl _ (List.getLast?_eq_some_getLast hne)
      simp
      omega
theorem pairCells_snoc : ∀ (ps : List (Int × Int)) (x : Int × Int), pairCells (ps ++ [x]) = pairCells ps ++ [.int .i64 x.1, .int .i64 x.2]
  | [], _ => rfl
  | p :: ps, x => by simp only [List.cons_append, pairCells, pairCells_snoc ps x]
theorem cells_newB (W : World) (t : TypeId) (u u' : Value) : ∀ (j : Nat) (x : Value), [u, u'][j]? = some x → (W.alloc (.cells #[u, u'] t)).cell? ((⟨W.heap.size, 0, none⟩ : Addr).add j) = some x := fun j x h => by
  rw [Addr.add_lit, Nat.zero_add, (BoxN.new (W := W) (t := t) (vs := #[u, u']) rfl).cell]
  simpa using h
end Go.Proofs.YtbioondlmgolkaaDoor.Hu
namespace Go.Proofs.YtbioondlmgolkaaDoor.Hu
open Go.RowKit Go.Shelf

/-- the cells of a row of sets -/
def RowCells (vs : Array Value) (g : List Nat) : Prop := vs.size = g.length ∧ ∀ j, j < g.length → vs[j]? = some (.int .i64 ((g[j]?.getD 0 : Nat) : Int))
theorem RowCells.add {vs : Array Value} {g : List Nat} (h : RowCells vs g) (x y : Nat) (hxy : x ≠ y) (hx : x < g.length) (hy : y < g.length) :
    RowCells ((vs.setIfInBounds x (.int .i64 (((g[x]?.getD 0) ||| pw y : Nat) : Int))).setIfInBounds y (.int .i64 (((g[y]?.getD 0) ||| pw x : Nat) : Int))) (addE g x y) := by
  obtain ⟨h0, h2⟩ := h
  refine ⟨by simp [h0, addE_length], fun j hj => ?_⟩
  rw [addE_length] at hj
  rw [addE_at g x y j hxy hx hy]
  by_cases e1 : j = x
  · subst e1
    rw [Array.getElem?_setIfInBounds_ne (by omega), Array.getElem?_setIfInBounds_self_of_lt (by omega)]; simp
  · by_cases e2 : j = y
    · subst e2
      rw [Array.getElem?_setIfInBounds_self_of_lt (by simp; omega)]; simp [e1]
    · rw [Array.getElem?_setIfInBounds_ne (by omega), Array.getElem?_setIfInBounds_ne (by omega)]; simp [e1, e2]; exact h2 j hj
theorem Sets.ofBox {W : World} {b : Nat} {t : TypeId} {vs : Array Value} {g : List Nat} (h : BoxN W b t vs) (hc : RowCells vs g) : Sets W (some ⟨b, 0, none⟩) g :=
  ⟨b, 0, rfl, h.lt, fun j hj => by rw [Nat.zero_add, h.cell]; exact hc.2 j hj⟩
theorem RowCells.zero {vs : Array Value} {n : Nat} (h0 : vs.size = n) (h : ∀ j, j < n → vs[j]? = some (.int .i64 0)) : RowCells vs (List.replicate n 0) :=
  ⟨by simp [h0], fun j hj => by simp at hj; rw [h j hj]; simp [hj]⟩
end Go.Proofs.YtbioondlmgolkaaDoor.Hu
namespace Go.Proofs.YtbioondlmgolkaaDoor.Hu
open Go.RowKit

/-- the cells of a graph -/
def GraphCells (vs : Array Value) (n : Nat) (e : Value) (g : List Nat) : Prop := vs.size = 18 ∧ vs[0]? = some (.int .i64 (n : Int)) ∧ vs[1]? = some e ∧ ∀ j, j < 16 → vs[2 + j]? = some (.int .i64 ((g[j]?.getD 0 : Nat) : Int))
/-- a graph in memory -/
structure GraphAt (w : World) (B n : Nat) (a : Option Addr) (cap len : Nat) (g : List Nat) : Prop where
  lt : B < w.heap.size
  n : w.cell? ⟨B, 0, none⟩ = some (.int .i64 (n : Int))
  e : w.cell? ⟨B, 1, none⟩ = some (.slice a len cap)
  next : ∀ j, j < 16 → w.cell? ⟨B, 2 + j, none⟩ = some (.int .i64 ((g[j]?.getD 0 : Nat) : Int))
theorem GraphAt.ofBox {W : World} {B n : Nat} {t : TypeId} {vs : Array Value} {a : Option Addr} {cap len : Nat} {g : List Nat} (h : BoxN W B t vs) (hc : GraphCells vs n (.slice a len cap) g) : GraphAt W B n a cap len g :=
  ⟨h.lt, by rw [h.cell]; exact hc.2.1, by rw [h.cell]; exact hc.2.2.1, fun j hj => by rw [h.cell]; exact hc.2.2.2 j hj⟩
theorem GraphAt.below {w W : World} {B n : Nat} {a : Option Addr} {cap len : Nat} {g : List Nat} (h : GraphAt w B n a cap len g) {k : Nat} (hB : Below k w W) (hk : w.heap.size ≤ k) : GraphAt W B n a cap len g :=
  ⟨Nat.lt_of_lt_of_le h.lt hB.size, (hB.cell (p := ⟨B, 0, none⟩) (Nat.lt_of_lt_of_le h.lt hk)).trans h.n, (hB.cell (p := ⟨B, 1, none⟩) (Nat.lt_of_lt_of_le h.lt hk)).trans h.e, fun j hj => (hB.cell (p := ⟨B, 2 + j, none⟩) (Nat.lt_of_lt_of_le h.lt hk)).trans (h.next j hj)⟩
theorem GraphCells.add {vs : Array Value} {n : Nat} {e : Value} {g : List Nat} (h : GraphCells vs n e g) (x y : Nat) (hxy : x ≠ y) (hx : x < g.length) (hy : y < g.length) (hl : g.length ≤ 16) :
    GraphCells ((vs.setIfInBounds (2 + x) (.int .i64 (((g[x]?.getD 0) ||| pw y : Nat) : Int))).setIfInBounds (2 + y) (.int .i64 (((g[y]?.getD 0) ||| pw x : Nat) : Int))) n e (addE g x y) := by
  obtain ⟨h0, h1, h1', h2⟩ := h
  refine ⟨by simp [h0], ?_, ?_, fun j hj => ?_⟩
  · rw [Array.getElem?_setIfInBounds_ne (by omega), Array.getElem?_setIfInBounds_ne (by omega)]; exact h1
  · rw [Array.getElem?_setIfInBounds_ne (by omega), Array.getElem?_setIfInBounds_ne (by omega)]; exact h1'
  · rw [addE_at g x y j hxy hx hy]
    by_cases e1 : j = x
    · subst e1
      rw [Array.getElem?_setIfInBounds_ne (by omega), Array.getElem?_setIfInBounds_self_of_lt (by omega)]; simp
    · by_cases e2 : j = y
      · subst e2
        rw [Array.getElem?_setIfInBounds_self_of_lt (by simp; omega)]; simp [e1]
      · rw [Array.getElem?_setIfInBounds_ne (by omega), Array.getElem?_setIfInBounds_ne (by omega)]; simp [e1, e2]; exact h2 j hj

set_option maxHeartbeats 1000000 in
set_option maxRecDepth 100000 in
theorem gopen_ok (n : Nat) (a : Option Addr) (cap : Nat) (ps : List (Int × Int)) (w : World) (hl : ps.length ≤ 1099511627776) (hg : Pairs w a ps) (hn1 : 1 ≤ n) (hn2 : n ≤ 16) (hok : edgesB n ps = true) :
    Calls Tryd.prog 17 #[.int .i64 n, .slice a ps.length cap] w fun e w' => ∃ B, e = .returned (.tuple #[.pointer (some ⟨B, 0, none⟩), .int .i64 0]) ∧ w.heap.size ≤ B ∧ GraphAt w' B n a cap ps.length (ofE n ps) ∧ Below w.heap.size w w' := by
  have hchk := pcheck_any n a cap ps w hl hg
  have e0 : checkP n ps = 0 := by unfold checkP; rw [if_neg (by omega), if_pos hok]
  rw [e0] at hchk
  have HCK := Lib.hid hchk
  clear hchk e0
  have HOK := Lib.hid hok
  clear hok
  obtain ⟨len, HL⟩ : ∃ len, Hid (ps.length = len) := ⟨_, rfl⟩
  have HCK2 := HCK.out
  rw [HL.out] at hl HCK2 ⊢
  clear HCK
  have HCK := Lib.hid HCK2
  clear HCK2
  go_enter Tryd.func17, Tryd.ntmps17
  go_wp2_with (first | (go_at_call 28; refine (HCK.out).mono ?_; rintro e w1 ⟨rfl, hB1⟩))
  have hsz1 := hB1.size
  go_loopw [22] (fun i wr => ∃ (k : Nat) (vs : Array Value) (g : List Nat), k ≤ len ∧ i = .int .i64 k ∧ Hid (g = ofE n (ps.take k)) ∧ BoxN wr w1.heap.size 76 vs ∧ GraphCells vs n (.slice a len cap) g ∧ (∀ i : Nat, Sm (g[i]?.getD 0)) ∧ Below w.heap.size w wr) (fun i _ => len - (intOf i).toNat)
  case atStart =>
    refine ⟨0, _, ofE n (ps.take 0), Nat.zero_le _, rfl, rfl, BoxN.new rfl, ⟨rfl, rfl, rfl, fun j hj => ?_⟩, fun i => ?_, hB1.alloc hsz1 _⟩
    · have : (ofE n (ps.take 0))[j]?.getD 0 = 0 := by simp [ofE, List.getElem?_replicate]; split <;> rfl
      rw [this]
      rcases (show j = 0 ∨ j = 1 ∨ j = 2 ∨ j = 3 ∨ j = 4 ∨ j = 5 ∨ j = 6 ∨ j = 7 ∨ j = 8 ∨ j = 9 ∨ j = 10 ∨ j = 11 ∨ j = 12 ∨ j = 13 ∨ j = 14 ∨ j = 15 by omega) with rfl | rfl | rfl | rfl | rfl | rfl | rfl | rfl | rfl | rfl | rfl | rfl | rfl | rfl | rfl | rfl <;> rfl
    · have : (ofE n (ps.take 0))[i]?.getD 0 = 0 := by simp [ofE, List.getElem?_replicate]; split <;> rfl
      rw [this]; exact sm_of (by decide)
  case round =>
    obtain ⟨k, vs, g, hk, rfl, hgk, hbox, hcc, hgsm, hB⟩ := hrel
    have hglen : g.length = n := by rw [hgk.out, ofE_length]
    by_cases hkl : k < len
    · have hsz := hbox.lt
      obtain ⟨b, off, rfl, hb, hc⟩ := hg (by intro e; rw [e] at HL; have := HL.out; simp at this; omega)
      have hck := hc k (by rw [HL.out]; exact hkl)
      have hc1 : wr.cell? ⟨b, off + k * 2, none⟩ = some (.int .i64 (ps[k]?.getD (0, 0)).1) := (hB.cell (p := ⟨b, off + k * 2, none⟩) hb).trans hck.1
      have hc2 : wr.cell? ⟨b, off + k * 2 + 1, none⟩ = some (.int .i64 (ps[k]?.getD (0, 0)).2) := (hB.cell (p := ⟨b, off + k * 2 + 1, none⟩) hb).trans hck.2
      have hat := edgesB_at HOK.out k (by rw [HL.out]; exact hkl)
      have hnext : ofE n (ps.take (k + 1)) = addE g (ps[k]?.getD (0, 0)).1.toNat (ps[k]?.getD (0, 0)).2.toNat := by
        have hlt : k < ps.length := by rw [HL.out]; exact hkl
        rw [hgk.out, List.take_succ_eq_append_getElem hlt]
        unfold ofE
        rw [List.foldl_append]
        simp [List.getElem?_eq_getElem hlt]
      obtain ⟨x, hx⟩ := Int.eq_ofNat_of_zero_le hat.1
      obtain ⟨y, hy⟩ := Int.eq_ofNat_of_zero_le (show 0 ≤ (ps[k]?.getD (0, 0)).2 by omega)
      rw [hx] at hc1 hat hnext
      rw [hy] at hc2 hat hnext
      have hxy : x < y := by omega
      have hyn : y < n := by omega
      simp only [Int.toNat_natCast] at hnext
      have HNX := Lib.hid hnext
      clear hx hy hat hck hc hg hnext
      have l1 := hbox.cell (2 + x)
      have l2 := hbox.cell (2 + y)
      rw [hcc.2.2.2 x (by omega)] at l1
      rw [hcc.2.2.2 y (by omega)] at l2
      have lf1 := hbox.frozen (2 + x)
      have lf2 := hbox.frozen (2 + y)
      have hki : ((k : Nat) : Int) < ((len : Nat) : Int) := by omega
      have hx20 : x < 20 := by omega
      have hy20 : y < 20 := by omega
      have hx10 : ((x : Nat) : Int) < 16 := by omega
      have hy10 : ((y : Nat) : Int) < 16 := by omega
      have hgx := hgsm x
      have hgy := hgsm y
      have HG := Lib.hid hgsm
      have HGL := Lib.hid hglen
      clear hgsm hglen
      have l2' : ∀ v, (wr.setCell ⟨w1.heap.size, 2 + x, none⟩ v).cell? ⟨w1.heap.size, 2 + y, none⟩ = some (.int .i64 ((g[y]?.getD 0 : Nat) : Int)) := fun v =>
        (World.cell?_setCell_other _ _ _ _ (fun e => by have := congrArg Addr.off e; simp at this; omega)).trans l2
      clear l2
      go_wp2
      go_region
      go_wp2
      go_region
      go_wp2
      go_roundw
      case rel =>
        refine ⟨k + 1, _, addE g x y, by omega, by go_num, HNX.out.symm, ((hbox.set (2 + x) _).set (2 + y) _).alloc _, hcc.add x y (by omega) (by rw [HGL.out]; omega) (by rw [HGL.out]; omega) (by rw [HGL.out]; omega), addE_sm g x y (by omega) (by rw [HGL.out]; omega) (by rw [HGL.out]; omega) (by rw [HGL.out]; omega) HG.out, ?_⟩
        exact ((hB.setCell (p := ⟨w1.heap.size, 2 + x, none⟩) hsz1 _).setCell (p := ⟨w1.heap.size, 2 + y, none⟩) hsz1 _).alloc (by simp; omega) _ |>.drew |>.drew
      case measure => simp [intOf]; omega
    · go_wp2
      have : k = len := by omega
      subst this
      go_ret2
      refine ⟨w1.heap.size, rfl, hsz1, GraphAt.ofBox hbox ?_, hB⟩
      have : ofE n ps = g := by rw [hgk.out, ← HL.out, List.take_length]
      rw [this]
      exact hcc
end Go.Proofs.YtbioondlmgolkaaDoor.Hu
