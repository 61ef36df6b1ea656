/- A slice that the call itself has made, wherever in its row it begins: append, cut off the first, store, read. -/
import Derived.Test.YtfbobojpocnfeaaQr
import Derived.WalkKit
import Derived.OwnWalkIn
namespace Go.Proofs.Ytfbobojpocnfeaa
open Go.RowKit
variable {F : Fence} {N : Nat} {P : Program}

def QRow (w : World) (base : Nat) (e : TypeId) (size : Nat) (v : Value) (n : Nat) (xs : List Value) : Prop :=
  xs.length = n * size ∧
  ((v = .slice none 0 0 ∧ n = 0) ∨
   ∃ g o cap cur, v = .slice (some ⟨g, o, none⟩) n cap ∧ base ≤ g ∧ w.heap[g]? = some (.cells cur e (0, 0)) ∧ n ≤ cap ∧ cap ≤ maxLen ∧ o + cap * size ≤ cur.size ∧ ∀ j, j < n * size → cur[o + j]? = xs[j]?)
theorem QRow.nil (w : World) (base : Nat) (e : TypeId) (size : Nat) : QRow w base e size (.slice none 0 0) 0 [] := ⟨by simp, .inl ⟨rfl, rfl⟩⟩
theorem QRow.of_own {w : World} {base : Nat} {e : TypeId} {size : Nat} {v : Value} {n : Nat} {xs : List Value} (h : w.ownsRow base e size v n xs) : QRow w base e size v n xs := by
  refine ⟨h.1, h.2.imp id ?_⟩
  rintro ⟨g, cap, cur, e1, e2, e3, e4, e5, e6, e7⟩
  refine ⟨g, 0, cap, cur, e1, e2, e3, e4, e5, by omega, fun j hj => ?_⟩
  rw [← e7, List.getElem?_take, if_pos hj]; simp
theorem QRow.lt {w : World} {base : Nat} {e : TypeId} {size : Nat} {v : Value} {n : Nat} {xs : List Value} (h : QRow w base e size v n xs) : ∀ k, v.ownBlock = some k → base ≤ k ∧ k < w.heap.size := by
  intro k hk
  rcases h.2 with ⟨rfl, _⟩ | ⟨g, o, cap, cur, rfl, hb, hg, _⟩
  · cases hk
  · cases hk; exact ⟨hb, (Array.getElem?_eq_some_iff.1 hg).1⟩
theorem QRow.kept {w w' : World} {base : Nat} {e : TypeId} {size : Nat} {v : Value} {n : Nat} {xs : List Value} {row : Option Nat} (h : QRow w base e size v n xs) (hg : w.grownBy w' row) (hne : v.ownBlock = none ∨ v.ownBlock ≠ row) : QRow w' base e size v n xs := by
  refine ⟨h.1, h.2.imp id ?_⟩
  rintro ⟨g, o, cap, cur, rfl, e2, e3, e4⟩
  refine ⟨g, o, cap, cur, rfl, e2, ?_, e4⟩
  rcases hne with hne | hne
  · cases hne
  · exact (hg.block g (Array.getElem?_eq_some_iff.1 e3).1 hne).trans e3
theorem QRow.alloc {w : World} {base : Nat} {e : TypeId} {size : Nat} {v : Value} {n : Nat} {xs : List Value} (h : QRow w base e size v n xs) (ob : Obj) : QRow (w.alloc ob) base e size v n xs :=
  h.kept (row := none) (World.grownBy_alloc w ob none) (by cases e : v.ownBlock <;> simp)
theorem QRow.other {w : World} {base : Nat} {e : TypeId} {size : Nat} {v : Value} {n : Nat} {xs : List Value} (h : QRow w base e size v n xs) {a : Addr} (hne : ∀ k, v.ownBlock = some k → k ≠ a.block) (x : Value) : QRow (w.setCell a x) base e size v n xs := by
  refine ⟨h.1, h.2.imp id ?_⟩
  rintro ⟨g, o, cap, cur, rfl, e2, e3, e4⟩
  refine ⟨g, o, cap, cur, rfl, e2, ?_, e4⟩
  rw [← e3]
  show (w.heap.modify a.block _)[g]? = _
  rw [Array.getElem?_modify]
  simp [Ne.symm (hne g rfl)]
theorem QRow.below {n₀ : Nat} {w W : World} {base : Nat} {e : TypeId} {size : Nat} {v : Value} {n : Nat} {xs : List Value} (h : QRow w base e size v n xs) (hb : Below n₀ w W) (hn : ∀ k, v.ownBlock = some k → k < n₀) : QRow W base e size v n xs := by
  refine ⟨h.1, h.2.imp id ?_⟩
  rintro ⟨g, o, cap, cur, rfl, e2, e3, e4⟩
  exact ⟨g, o, cap, cur, rfl, e2, (hb.block g (hn g rfl)).trans e3, e4⟩
theorem QRow.mono {w : World} {base base' : Nat} {e : TypeId} {size : Nat} {v : Value} {n : Nat} {xs : List Value} (h : QRow w base e size v n xs) (hb : base' ≤ base) : QRow w base' e size v n xs :=
  ⟨h.1, h.2.imp id fun ⟨g, o, cap, cur, e1, e2, e3⟩ => ⟨g, o, cap, cur, e1, Nat.le_trans hb e2, e3⟩⟩
/-- its cells, where it is not empty -/
theorem QRow.at {w : World} {base : Nat} {e : TypeId} {size : Nat} {v : Value} {n : Nat} {xs : List Value} (h : QRow w base e size v n xs) (hn : 0 < n) :
    ∃ g o cap, v = .slice (some ⟨g, o, none⟩) n cap ∧ base ≤ g ∧ g < w.heap.size ∧ n ≤ cap ∧ cap ≤ maxLen ∧ (∀ j, j < n * size → w.cell? ⟨g, o + j, none⟩ = xs[j]?) ∧ ∀ j, w.frozen? ⟨g, j, none⟩ = false := by
  rcases h.2 with ⟨_, e0⟩ | ⟨g, o, cap, cur, rfl, hb, hg, h1, h2, h3, h4⟩
  · omega
  · refine ⟨g, o, cap, rfl, hb, (Array.getElem?_eq_some_iff.1 hg).1, h1, h2, fun j hj => ?_, fun j => ?_⟩
    · simp [World.cell?, hg, h4 j hj]
    · simp [World.frozen?, hg]
/-- a store into it -/
theorem QRow.set {w : World} {base : Nat} {e : TypeId} {size : Nat} {g o cap n : Nat} {xs : List Value} (h : QRow w base e size (.slice (some ⟨g, o, none⟩) n cap) n xs) (j : Nat) (hj : j < n * size) (x : Value) :
    QRow (w.setCell ⟨g, o + j, none⟩ x) base e size (.slice (some ⟨g, o, none⟩) n cap) n (xs.set j x) := by
  refine ⟨by simp [h.1], .inr ?_⟩
  rcases h.2 with ⟨e0, _⟩ | ⟨g', o', cap', cur, e1, hb, hg, h1, h2, h3, h4⟩
  · cases e0
  · cases e1
    refine ⟨g, o, cap, cur.setIfInBounds (o + j) x, rfl, hb, ?_, h1, h2, by simpa using h3, fun i hi => ?_⟩
    · exact BoxN.set (vs := cur) hg (o + j) x
    · by_cases e : i = j
      · subst e
        have : n * size ≤ cap * size := Nat.mul_le_mul_right _ h1
        rw [Array.getElem?_setIfInBounds_self_of_lt (by omega), List.getElem?_set_self (by rw [h.1]; exact hi)]
      · rw [Array.getElem?_setIfInBounds_ne (by omega), List.getElem?_set_ne (Ne.symm e)]; exact h4 i hi

theorem run_append_q (w : World) (base : Nat) (t ty e : TypeId) (i : TypeInfo) (z : Value) (size bytes : Nat) (ht : P.underlying t = some (.slice e)) (hi : P.info? e = some i) (hz : i.zero = some z)
    (hsize : i.size = size) (hby : i.bytes = bytes) (hzs : z.cells.size = size) (hsz : 0 < size)
    (v : Value) (n : Nat) (xs : List Value) (hown : QRow w base e size v n xs)
    (a : Addr) (m c : Nat) (news : List Value) (hl : news.length = m * size) (hnews : ∀ j u, news[j]? = some u → w.cell? (a.add j) = some u) (h1 : ∀ u ∈ news, u.oneCell' = true)
    (h63 : n + m ≤ maxLen) (hbytes : (n + m) * bytes ≤ 140737488355328) (hbase : base ≤ w.heap.size) :
    ∃ v' w', (Builtin.append_ #[t, t] ty #[v, .slice (some a) m c]).run P w = .ok v' w' ∧ QRow w' base e size v' (n + m) (xs ++ news) ∧ w.grownBy w' v.ownBlock ∧ ∀ k, v'.ownBlock = some k → v.ownBlock = some k ∨ w.heap.size ≤ k := by
  rcases hown.2 with ⟨rfl, rfl⟩ | ⟨g, o, cap, cur, rfl, hbg, hg, hnc, hcm, hcs, htake⟩
  · have hx : xs = [] := List.eq_nil_of_length_eq_zero (by simpa using hown.1)
    subst hx
    obtain ⟨v', w', r, r1, r2, _⟩ := run_append_own (P := P) w w.heap.size t ty e i z size bytes ht hi hz hsize hby hzs hsz (.slice none 0 0) 0 [] (World.ownsRow_nil w w.heap.size e size) a m c news hl hnews h1 h63 hbytes (Nat.le_refl _)
    exact ⟨v', w', r, (QRow.of_own r1).mono hbase, r2, fun k hk => .inr ((QRow.of_own r1).lt k hk).1⟩
  · subst hsize
    subst hby
    have hlen : (xs ++ news).length = (n + m) * i.size := by rw [List.length_append, hown.1, hl, Nat.add_mul]
    by_cases hroom : n + m ≤ cap
    · have hmul : (n + m) * i.size ≤ cap * i.size := Nat.mul_le_mul_right _ hroom
      have hfit : o + n * i.size + 0 + news.length ≤ cur.size := by rw [hl]; rw [Nat.add_mul] at hmul; omega
      have hf := run_firstCells_some (P := P) w i.size m a m c news hl hnews
      have hst := run_storeCells_at P g (o + n * i.size) e news 0 cur w hg hfit h1
      simp only [Nat.add_zero] at hst hfit
      refine ⟨.slice (some ⟨g, o, none⟩) (n + m) cap, w.setRow g (cur.toList.take (o + n * i.size) ++ news ++ cur.toList.drop (o + n * i.size + news.length)).toArray, ?_, ⟨hlen, .inr ⟨g, o, cap, _, rfl, hbg, setRow_heap w g cur (cur.toList.take (o + n * i.size) ++ news ++ cur.toList.drop (o + n * i.size + news.length)).toArray e _ hg, hroom, hcm, ?_, ?_⟩⟩, ⟨rfl, rfl, rfl, by simp, fun k _ hk => setRow_other w g k _ (fun e => hk (by simp [Value.ownBlock, e]))⟩, fun k hk => .inl hk⟩
      · simp [Builtin.append_, run_underlying ht, sizeOf, typeInfo, hi, Builtin.lenOf, hroom, hf, Addr.add_lit, hst]
      · simp only [List.size_toArray, List.length_append, List.length_take, List.length_drop, Array.length_toList]
        omega
      · intro j hj
        simp only [List.getElem?_toArray]
        have ht1 : (cur.toList.take (o + n * i.size)).length = o + n * i.size := by simp; omega
        by_cases hjn : j < n * i.size
        · rw [List.append_assoc, List.getElem?_append_left (by omega), List.getElem?_take, if_pos (by omega)]
          rw [List.getElem?_append_left (by rw [hown.1]; exact hjn)]
          simpa using htake j hjn
        · rw [List.append_assoc, List.getElem?_append_right (by omega), ht1, List.getElem?_append_left (by rw [hl]; rw [Nat.add_mul] at hj; omega)]
          rw [List.getElem?_append_right (by rw [hown.1]; omega), hown.1]
          congr 1; omega
    · have holds : ∀ j u, xs[j]? = some u → w.cell? ((⟨g, o, none⟩ : Addr).add j) = some u := fun j u hu => by
        have hj : j < n * i.size := by rw [← hown.1]; exact (List.getElem?_eq_some_iff.1 hu).1
        rw [Addr.add_lit]
        simp [World.cell?, hg, htake j hj, hu]
      have hr := run_append_grow (P := P) (ty := ty) w t e i z ht hi hz ⟨g, o, none⟩ n cap xs hown.1 holds a m c news hl hnews (by omega) (by simp only [maxLen] at h63; omega) (growslice_fits (by omega) hbytes)
      have hge := grownCap_ge w (n + m) cap e
      have hcm' : grownCap w (n + m) cap e ≤ maxLen := grownCap_le_maxLen w (n + m) cap e h63
      refine ⟨_, _, hr, ⟨hlen, .inr ⟨w.heap.size, 0, _, _, rfl, hbase, World.alloc_heap_new w.drew _, hge, hcm', ?_, ?_⟩⟩, ⟨rfl, rfl, rfl, by simp, fun k hk _ => Below.heap_alloc w.drew _ k hk⟩, fun k hk => .inr (by cases hk; exact Nat.le_refl _)⟩
      · simp only [Array.size_append, List.size_toArray, size_zeroCells, hzs, hown.1, hl, ← Nat.add_mul, Nat.zero_add]
        apply Nat.le_of_eq
        congr 1
        omega
      · intro j hj
        rw [Nat.zero_add, Array.append_assoc, Array.getElem?_append]
        by_cases hjx : j < xs.length
        · rw [if_pos (by simpa using hjx), List.getElem?_append_left hjx]; simp
        · rw [if_neg (by simpa using hjx), List.getElem?_append_right (by omega), Array.getElem?_append, if_pos (by have := hown.1; rw [Nat.add_mul] at hj; simp; omega)]
          simp
theorem wpList_append_q (w : World) {ops : Array Oper} {rest : List Oper} {o : Oper} {a : Act} {Q : Exit → Act → World → Prop}
    (hgd : o.guard = none) (s x : Operand) (t : TypeId) (ho : o.op = Op.call { callee := Callee.builtin Builtin.append, args := #[s, x], argTypes := #[t, t] })
    (base : Nat) (e : TypeId) (i : TypeInfo) (z : Value) (size bytes : Nat) (h1 : P.underlying t = some (.slice e)) (h2 : P.info? e = some i) (h3 : i.zero = some z) (h4 : i.size = size) (h5 : i.bytes = bytes) (h6 : z.cells.size = size) (h7 : 0 < size)
    (v : Value) (k : Nat) (xs : List Value) (hs : a.eval s = v) (hown : QRow w base e size v k xs) (ad : Addr) (m c : Nat) (news : List Value) (hx : a.eval x = .slice (some ad) m c) (hn : news.length = m * size)
    (hc : ∀ j u, news[j]? = some u → w.cell? (ad.add j) = some u) (h1c : ∀ u ∈ news, u.oneCell' = true) (b1 : k + m ≤ maxLen) (b2 : (k + m) * bytes ≤ 140737488355328) (b3 : base ≤ w.heap.size)
    (hK : ∀ v' w', QRow w' base e size v' (k + m) (xs ++ news) → w.grownBy w' v.ownBlock → (∀ k, v'.ownBlock = some k → v.ownBlock = some k ∨ w.heap.size ≤ k) → wpList P ops Q rest (a.put o.dst v') w') :
    wpList P ops Q (o :: rest) a w := by
  refine wpList_plain hgd fun K hK' => ?_
  obtain ⟨v', w', hr, r1, r2, r3⟩ := run_append_q (P := P) w base t o.type e i z size bytes h1 h2 h3 h4 h5 h6 h7 v k xs hown ad m c news hn hc h1c b1 b2 b3
  unfold Oper.wp execOp
  simp only [ho, resolve, invoke, builtin, Sem.run_bind, Sem.run_pure, Result.andThen_ok, List.map_toArray, List.map_cons, List.map_nil, hs, hx, hr]
  exact hK' _ _ (hK v' w' r1 r2 r3)
theorem wpListIn_append_q (w : World) {ops : Array Oper} {rest : List Oper} {o : Oper} {a : Act} {Q : Exit → Act → World → Prop}
    (hg : o.guard = none) (s x : Operand) (t : TypeId) (hop : o.op = Op.call { callee := Callee.builtin Builtin.append, args := #[s, x], argTypes := #[t, t] })
    (base : Nat) (e : TypeId) (i : TypeInfo) (z : Value) (size bytes : Nat) (h1 : P.underlying t = some (.slice e)) (h2 : P.info? e = some i) (h3 : i.zero = some z) (h4 : i.size = size) (h5 : i.bytes = bytes) (h6 : z.cells.size = size) (h7 : 0 < size)
    (v : Value) (k : Nat) (xs : List Value) (hs : a.eval s = v) (hown : QRow w base e size v k xs) (ad : Addr) (m c : Nat) (news : List Value) (hx : a.eval x = .slice (some ad) m c) (hn : news.length = m * size)
    (hc : ∀ j u, news[j]? = some u → w.cell? (ad.add j) = some u) (h1c : ∀ u ∈ news, u.oneCell' = true) (b1 : k + m ≤ maxLen) (b2 : (k + m) * bytes ≤ 140737488355328) (b3 : base ≤ w.heap.size)
    (hK : ∀ v' w', QRow w' base e size v' (k + m) (xs ++ news) → w.grownBy w' v.ownBlock → (∀ k, v'.ownBlock = some k → v.ownBlock = some k ∨ w.heap.size ≤ k) → wpListIn F N P ops Q rest (a.put o.dst v') w') :
    wpListIn F N P ops Q (o :: rest) a w := by
  refine wpListIn_plain hg fun K hK' => ?_
  obtain ⟨v', w', hrun, r1, r2, r3⟩ := run_append_q (P := P) w base t o.type e i z size bytes h1 h2 h3 h4 h5 h6 h7 v k xs hown ad m c news hn hc h1c b1 b2 b3
  unfold Oper.wpIn
  refine ⟨?_, ?_⟩
  · simp [Oper.about, hop, resolve, Target.leads, Sem.run_pure]
  · rw [Oper.semAt_eq _ _ _ (by rw [hop]; intro c hc'; cases hc')]
    simp [execOp, hop, resolve, invoke, builtin, hs, hx, hrun, Result.andThen]
    exact hK' _ _ (hK v' w' r1 r2 r3)
theorem QRow.isSlice {w : World} {base : Nat} {e : TypeId} {size : Nat} {v : Value} {n : Nat} {xs : List Value} (h : QRow w base e size v n xs) : ∃ p c, v = .slice p n c := by
  rcases h.2 with ⟨rfl, rfl⟩ | ⟨g, o, cap, cur, rfl, _⟩
  · exact ⟨none, 0, rfl⟩
  · exact ⟨_, _, rfl⟩
/-- what is left behind the first -/
theorem QRow.tail {w : World} {base : Nat} {e : TypeId} {size : Nat} {g o cap n : Nat} {xs : List Value} (h : QRow w base e size (.slice (some ⟨g, o, none⟩) (n + 1) cap) (n + 1) xs) :
    QRow w base e size (.slice (some (if cap = 1 then ⟨g, o, none⟩ else ⟨g, o + size, none⟩)) n (cap - 1)) n (xs.drop size) := by
  refine ⟨by rw [List.length_drop, h.1, Nat.add_mul, Nat.one_mul, Nat.add_sub_cancel], .inr ?_⟩
  rcases h.2 with ⟨e0, _⟩ | ⟨g', o', cap', cur, e1, hb, hg, h1, h2, h3, h4⟩
  · cases e0
  · cases e1
    by_cases hc : cap = 1
    · subst hc
      have hn : n = 0 := by omega
      subst hn
      exact ⟨g, o, 0, cur, rfl, hb, hg, by omega, by omega, by omega, fun j hj => by omega⟩
    · have hcs : (cap - 1) * size + size = cap * size := by rw [Nat.sub_mul, Nat.one_mul, Nat.sub_add_cancel]; exact Nat.le_mul_of_pos_left _ (by omega)
      refine ⟨g, o + size, cap - 1, cur, by rw [if_neg hc], hb, hg, by omega, by omega, by omega, fun j hj => ?_⟩
      rw [List.getElem?_drop, ← h4 (size + j) (by rw [Nat.add_mul, Nat.one_mul]; omega), Nat.add_assoc]
end Go.Proofs.Ytfbobojpocnfeaa
