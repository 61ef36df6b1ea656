/- A slice that the call itself has made, wherever in its row it begins: append, cut off the first, store, read. Words on sets as bits, and rules that write Go's bit operations on int64 over small natural numbers as those words. -/
import Derived.WalkKit
import Derived.OwnWalkIn
import Derived.Test.YtocnhikohfkcaaaQr
set_option linter.unusedVariables false
set_option linter.unusedSimpArgs false
namespace Go.Proofs.Ytocnhikohfkcaaa
open Go.RowKit
variable {F : Fence} {N : Nat} {P : Program}

def QRow (w : World) (base : Nat) (e : TypeId) (size : Nat) (v : Value) (n : Nat) (xs : List Value) : Prop :=
  xs.length = n * size ∧
  ((v = .slice none 0 0 ∧ n = 0) ∨
   ∃ g o cap cur, v = .slice (some ⟨g, o, none⟩) n cap ∧ base ≤ g ∧ w.heap[g]? = some (.cells cur e (0, 0)) ∧ n ≤ cap ∧ cap ≤ maxLen ∧ o + cap * size ≤ cur.size ∧ ∀ j, j < n * size → cur[o + j]? = xs[j]?)
theorem QRow.nil (w : World) (base : Nat) (e : TypeId) (size : Nat) : QRow w base e size (.slice none 0 0) 0 [] := ⟨by simp, .inl ⟨rfl, rfl⟩⟩
theorem QRow.of_own {w : World} {base : Nat} {e : TypeId} {size : Nat} {v : Value} {n : Nat} {xs : List Value} (h : w.ownsRow base e size v n xs) : QRow w base e size v n xs := by
  refine ⟨h.1, h.2.imp id ?_⟩
  rintro ⟨g, cap, cur, e1, e2, e3, e4, e5, e6, e7⟩
  refine ⟨g, 0, cap, cur, e1, e2, e3, e4, e5, by omega, fun j hj => ?_⟩
  rw [← e7, List.getElem?_take, if_pos hj]; simp
theorem QRow.lt {w : World} {base : Nat} {e : TypeId} {size : Nat} {v : Value} {n : Nat} {xs : List Value} (h : QRow w base e size v n xs) : ∀ k, v.ownBlock = some k → base ≤ k ∧ k < w.heap.size := by
  intro k hk
  rcases h.2 with ⟨rfl, _⟩ | ⟨g, o, cap, cur, rfl, hb, hg, _⟩
  · cases hk
  · cases hk; exact ⟨hb, (Array.getElem?_eq_some_iff.1 hg).1⟩
theorem QRow.kept {w w' : World} {base : Nat} {e : TypeId} {size : Nat} {v : Value} {n : Nat} {xs : List Value} {row : Option Nat} (h : QRow w base e size v n xs) (hg : w.grownBy w' row) (hne : v.ownBlock = none ∨ v.ownBlock ≠ row) : QRow w' base e size v n xs := by
  refine ⟨h.1, h.2.imp id ?_⟩
  rintro ⟨g, o, cap, cur, rfl, e2, e3, e4⟩
  refine ⟨g, o, cap, cur, rfl, e2, ?_, e4⟩
  rcases hne with hne | hne
  · cases hne
  · exact (hg.block g (Array.getElem?_eq_some_iff.1 e3).1 hne).trans e3
theorem QRow.alloc {w : World} {base : Nat} {e : TypeId} {size : Nat} {v : Value} {n : Nat} {xs : List Value} (h : QRow w base e size v n xs) (ob : Obj) : QRow (w.alloc ob) base e size v n xs :=
  h.kept (row := none) (World.grownBy_alloc w ob none) (by cases e : v.ownBlock <;> simp)
theorem QRow.other {w : World} {base : Nat} {e : TypeId} {size : Nat} {v : Value} {n : Nat} {xs : List Value} (h : QRow w base e size v n xs) {a : Addr} (hne : ∀ k, v.ownBlock = some k → k ≠ a.block) (x : Value) : QRow (w.setCell a x) base e size v n xs := by
  refine ⟨h.1, h.2.imp id ?_⟩
  rintro ⟨g, o, cap, cur, rfl, e2, e3, e4⟩
  refine ⟨g, o, cap, cur, rfl, e2, ?_, e4⟩
  rw [← e3]
  show (w.heap.modify a.block _)[g]? = _
  rw [Array.getElem?_modify]
  simp [Ne.symm (hne g rfl)]
theorem QRow.below {n₀ : Nat} {w W : World} {base : Nat} {e : TypeId} {size : Nat} {v : Value} {n : Nat} {xs : List Value} (h : QRow w base e size v n xs) (hb : Below n₀ w W) (hn : ∀ k, v.ownBlock = some k → k < n₀) : QRow W base e size v n xs := by
  refine ⟨h.1, h.2.imp id ?_⟩
  rintro ⟨g, o, cap, cur, rfl, e2, e3, e4⟩
  exact ⟨g, o, cap, cur, rfl, e2, (hb.block g (hn g rfl)).trans e3, e4⟩
theorem QRow.mono {w : World} {base base' : Nat} {e : TypeId} {size : Nat} {v : Value} {n : Nat} {xs : List Value} (h : QRow w base e size v n xs) (hb : base' ≤ base) : QRow w base' e size v n xs :=
  ⟨h.1, h.2.imp id fun ⟨g, o, cap, cur, e1, e2, e3⟩ => ⟨g, o, cap, cur, e1, Nat.le_trans hb e2, e3⟩⟩
/-- its cells, where it is not empty -/
theorem QRow.at {w : World} {base : Nat} {e : TypeId} {size : Nat} {v : Value} {n : Nat} {xs : List Value} (h : QRow w base e size v n xs) (hn : 0 < n) :
    ∃ g o cap, v = .slice (some ⟨g, o, none⟩) n cap ∧ base ≤ g ∧ g < w.heap.size ∧ n ≤ cap ∧ cap ≤ maxLen ∧ (∀ j, j < n * size → w.cell? ⟨g, o + j, none⟩ = xs[j]?) ∧ ∀ j, w.frozen? ⟨g, j, none⟩ = false := by
  rcases h.2 with ⟨_, e0⟩ | ⟨g, o, cap, cur, rfl, hb, hg, h1, h2, h3, h4⟩
  · omega
  · refine ⟨g, o, cap, rfl, hb, (Array.getElem?_eq_some_iff.1 hg).1, h1, h2, fun j hj => ?_, fun j => ?_⟩
    · simp [World.cell?, hg, h4 j hj]
    · simp [World.frozen?, hg]
/-- a store into it -/
theorem QRow.set {w : World} {base : Nat} {e : TypeId} {size : Nat} {g o cap n : Nat} {xs : List Value} (h : QRow w base e size (.slice (some ⟨g, o, none⟩) n cap) n xs) (j : Nat) (hj : j < n * size) (x : Value) :
    QRow (w.setCell ⟨g, o + j, none⟩ x) base e size (.slice (some ⟨g, o, none⟩) n cap) n (xs.set j x) := by
  refine ⟨by simp [h.1], .inr ?_⟩
  rcases h.2 with ⟨e0, _⟩ | ⟨g', o', cap', cur, e1, hb, hg, h1, h2, h3, h4⟩
  · cases e0
  · cases e1
    refine ⟨g, o, cap, cur.setIfInBounds (o + j) x, rfl, hb, ?_, h1, h2, by simpa using h3, fun i hi => ?_⟩
    · exact BoxN.set (vs := cur) hg (o + j) x
    · by_cases e : i = j
      · subst e
        have : n * size ≤ cap * size := Nat.mul_le_mul_right _ h1
        rw [Array.getElem?_setIfInBounds_self_of_lt (by omega), List.getElem?_set_self (by rw [h.1]; exact hi)]
      · rw [Array.getElem?_setIfInBounds_ne (by omega), List.getElem?_set_ne (Ne.symm e)]; exact h4 i hi

theorem run_append_q (w : World) (base : Nat) (t ty e : TypeId) (i : TypeInfo) (z : Value) (size bytes : Nat) (ht : P.underlying t = some (.slice e)) (hi : P.info? e = some i) (hz : i.zero = some z)
    (hsize : i.size = size) (hby : i.bytes = bytes) (hzs : z.cells.size = size) (hsz : 0 < size)
    (v : Value) (n : Nat) (xs : List Value) (hown : QRow w base e size v n xs)
    (a : Addr) (m c : Nat) (news : List Value) (hl : news.length = m * size) (hnews : ∀ j u, news[j]? = some u → w.cell? (a.add j) = some u) (h1 : ∀ u ∈ news, u.oneCell' = true)
    (h63 : n + m ≤ maxLen) (hbytes : (n + m) * bytes ≤ 140737488355328) (hbase : base ≤ w.heap.size) :
    ∃ v' w', (Builtin.append_ #[t, t] ty #[v, .slice (some a) m c]).run P w = .ok v' w' ∧ QRow w' base e size v' (n + m) (xs ++ news) ∧ w.grownBy w' v.ownBlock ∧ ∀ k, v'.ownBlock = some k → v.ownBlock = some k ∨ w.heap.size ≤ k := by
  rcases hown.2 with ⟨rfl, rfl⟩ | ⟨g, o, cap, cur, rfl, hbg, hg, hnc, hcm, hcs, htake⟩
  · have hx : xs = [] := List.eq_nil_of_length_eq_zero (by simpa using hown.1)
    subst hx
    obtain ⟨v', w', r, r1, r2, _⟩ := run_append_own (P := P) w w.heap.size t ty e i z size bytes ht hi hz hsize hby hzs hsz (.slice none 0 0) 0 [] (World.ownsRow_nil w w.heap.size e size) a m c news hl hnews h1 h63 hbytes (Nat.le_refl _)
    exact ⟨v', w', r, (QRow.of_own r1).mono hbase, r2, fun k hk => .inr ((QRow.of_own r1).lt k hk).1⟩
  · subst hsize
    subst hby
    have hlen : (xs ++ news).length = (n + m) * i.size := by rw [List.length_append, hown.1, hl, Nat.add_mul]
    by_cases hroom : n + m ≤ cap
    · have hmul : (n + m) * i.size ≤ cap * i.size := Nat.mul_le_mul_right _ hroom
      have hfit : o + n * i.size + 0 + news.length ≤ cur.size := by rw [hl]; rw [Nat.add_mul] at hmul; omega
      have hf := run_firstCells_some (P := P) w i.size m a m c news hl hnews
      have hst := run_storeCells_at P g (o + n * i.size) e news 0 cur w hg hfit h1
      simp only [Nat.add_zero] at hst hfit
      refine ⟨.slice (some ⟨g, o, none⟩) (n + m) cap, w.setRow g (cur.toList.take (o + n * i.size) ++ news ++ cur.toList.drop (o + n * i.size + news.length)).toArray, ?_, ⟨hlen, .inr ⟨g, o, cap, _, rfl, hbg, setRow_heap w g cur (cur.toList.take (o + n * i.size) ++ news ++ cur.toList.drop (o + n * i.size + news.length)).toArray e _ hg, hroom, hcm, ?_, ?_⟩⟩, ⟨rfl, rfl, rfl, by simp, fun k _ hk => setRow_other w g k _ (fun e => hk (by simp [Value.ownBlock, e]))⟩, fun k hk => .inl hk⟩
      · simp [Builtin.append_, run_underlying ht, sizeOf, typeInfo, hi, Builtin.lenOf, hroom, hf, Addr.add_lit, hst]
      · simp only [List.size_toArray, List.length_append, List.length_take, List.length_drop, Array.length_toList]
        omega
      · intro j hj
        simp only [List.getElem?_toArray]
        have ht1 : (cur.toList.take (o + n * i.size)).length = o + n * i.size := by simp; omega
        by_cases hjn : j < n * i.size
        · rw [List.append_assoc, List.getElem?_append_left (by omega), List.getElem?_take, if_pos (by omega)]
          rw [List.getElem?_append_left (by rw [hown.1]; exact hjn)]
          simpa using htake j hjn
        · rw [List.append_assoc, List.getElem?_append_right (by omega), ht1, List.getElem?_append_left (by rw [hl]; rw [Nat.add_mul] at hj; omega)]
          rw [List.getElem?_append_right (by rw [hown.1]; omega), hown.1]
          congr 1; omega
    · have holds : ∀ j u, xs[j]? = some u → w.cell? ((⟨g, o, none⟩ : Addr).add j) = some u := fun j u hu => by
        have hj : j < n * i.size := by rw [← hown.1]; exact (List.getElem?_eq_some_iff.1 hu).1
        rw [Addr.add_lit]
        simp [World.cell?, hg, htake j hj, hu]
      have hr := run_append_grow (P := P) (ty := ty) w t e i z ht hi hz ⟨g, o, none⟩ n cap xs hown.1 holds a m c news hl hnews (by omega) (by simp only [maxLen] at h63; omega) (growslice_fits (by omega) hbytes)
      have hge := grownCap_ge w (n + m) cap e
      have hcm' : grownCap w (n + m) cap e ≤ maxLen := grownCap_le_maxLen w (n + m) cap e h63
      refine ⟨_, _, hr, ⟨hlen, .inr ⟨w.heap.size, 0, _, _, rfl, hbase, World.alloc_heap_new w.drew _, hge, hcm', ?_, ?_⟩⟩, ⟨rfl, rfl, rfl, by simp, fun k hk _ => Below.heap_alloc w.drew _ k hk⟩, fun k hk => .inr (by cases hk; exact Nat.le_refl _)⟩
      · simp only [Array.size_append, List.size_toArray, size_zeroCells, hzs, hown.1, hl, ← Nat.add_mul, Nat.zero_add]
        apply Nat.le_of_eq
        congr 1
        omega
      · intro j hj
        rw [Nat.zero_add, Array.append_assoc, Array.getElem?_append]
        by_cases hjx : j < xs.length
        · rw [if_pos (by simpa using hjx), List.getElem?_append_left hjx]; simp
        · rw [if_neg (by simpa using hjx), List.getElem?_append_right (by omega), Array.getElem?_append, if_pos (by have := hown.1; rw [Nat.add_mul] at hj; simp; omega)]
          simp
theorem wpList_append_q (w : World) {ops : Array Oper} {rest : List Oper} {o : Oper} {a : Act} {Q : Exit → Act → World → Prop}
    (hgd : o.guard = none) (s x : Operand) (t : TypeId) (ho : o.op = Op.call { callee := Callee.builtin Builtin.append, args := #[s, x], argTypes := #[t, t] })
    (base : Nat) (e : TypeId) (i : TypeInfo) (z : Value) (size bytes : Nat) (h1 : P.underlying t = some (.slice e)) (h2 : P.info? e = some i) (h3 : i.zero = some z) (h4 : i.size = size) (h5 : i.bytes = bytes) (h6 : z.cells.size = size) (h7 : 0 < size)
    (v : Value) (k : Nat) (xs : List Value) (hs : a.eval s = v) (hown : QRow w base e size v k xs) (ad : Addr) (m c : Nat) (news : List Value) (hx : a.eval x = .slice (some ad) m c) (hn : news.length = m * size)
    (hc : ∀ j u, news[j]? = some u → w.cell? (ad.add j) = some u) (h1c : ∀ u ∈ news, u.oneCell' = true) (b1 : k + m ≤ maxLen) (b2 : (k + m) * bytes ≤ 140737488355328) (b3 : base ≤ w.heap.size)
    (hK : ∀ v' w', QRow w' base e size v' (k + m) (xs ++ news) → w.grownBy w' v.ownBlock → (∀ k, v'.ownBlock = some k → v.ownBlock = some k ∨ w.heap.size ≤ k) → wpList P ops Q rest (a.put o.dst v') w') :
    wpList P ops Q (o :: rest) a w := by
  refine wpList_plain hgd fun K hK' => ?_
  obtain ⟨v', w', hr, r1, r2, r3⟩ := run_append_q (P := P) w base t o.type e i z size bytes h1 h2 h3 h4 h5 h6 h7 v k xs hown ad m c news hn hc h1c b1 b2 b3
  unfold Oper.wp execOp
  simp only [ho, resolve, invoke, builtin, Sem.run_bind, Sem.run_pure, Result.andThen_ok, List.map_toArray, List.map_cons, List.map_nil, hs, hx, hr]
  exact hK' _ _ (hK v' w' r1 r2 r3)
theorem wpListIn_append_q (w : World) {ops : Array Oper} {rest : List Oper} {o : Oper} {a : Act} {Q : Exit → Act → World → Prop}
    (hg : o.guard = none) (s x : Operand) (t : TypeId) (hop : o.op = Op.call { callee := Callee.builtin Builtin.append, args := #[s, x], argTypes := #[t, t] })
    (base : Nat) (e : TypeId) (i : TypeInfo) (z : Value) (size bytes : Nat) (h1 : P.underlying t = some (.slice e)) (h2 : P.info? e = some i) (h3 : i.zero = some z) (h4 : i.size = size) (h5 : i.bytes = bytes) (h6 : z.cells.size = size) (h7 : 0 < size)
    (v : Value) (k : Nat) (xs : List Value) (hs : a.eval s = v) (hown : QRow w base e size v k xs) (ad : Addr) (m c : Nat) (news : List Value) (hx : a.eval x = .slice (some ad) m c) (hn : news.length = m * size)
    (hc : ∀ j u, news[j]? = some u → w.cell? (ad.add j) = some u) (h1c : ∀ u ∈ news, u.oneCell' = true) (b1 : k + m ≤ maxLen) (b2 : (k + m) * bytes ≤ 140737488355328) (b3 : base ≤ w.heap.size)
    (hK : ∀ v' w', QRow w' base e size v' (k + m) (xs ++ news) → w.grownBy w' v.ownBlock → (∀ k, v'.ownBlock = some k → v.ownBlock = some k ∨ w.heap.size ≤ k) → wpListIn F N P ops Q rest (a.put o.dst v') w') :
    wpListIn F N P ops Q (o :: rest) a w := by
  refine wpListIn_plain hg fun K hK' => ?_
  obtain ⟨v', w', hrun, r1, r2, r3⟩ := run_append_q (P := P) w base t o.type e i z size bytes h1 h2 h3 h4 h5 h6 h7 v k xs hown ad m c news hn hc h1c b1 b2 b3
  unfold Oper.wpIn
  refine ⟨?_, ?_⟩
  · simp [Oper.about, hop, resolve, Target.leads, Sem.run_pure]
  · rw [Oper.semAt_eq _ _ _ (by rw [hop]; intro c hc'; cases hc')]
    simp [execOp, hop, resolve, invoke, builtin, hs, hx, hrun, Result.andThen]
    exact hK' _ _ (hK v' w' r1 r2 r3)
theorem QRow.isSlice {w : World} {base : Nat} {e : TypeId} {size : Nat} {v : Value} {n : Nat} {xs : List Value} (h : QRow w base e size v n xs) : ∃ p c, v = .slice p n c := by
  rcases h.2 with ⟨rfl, rfl⟩ | ⟨g, o, cap, cur, rfl, _⟩
  · exact ⟨none, 0, rfl⟩
  · exact ⟨_, _, rfl⟩
/-- what is left behind the first -/
theorem QRow.tail {w : World} {base : Nat} {e : TypeId} {size : Nat} {g o cap n : Nat} {xs : List Value} (h : QRow w base e size (.slice (some ⟨g, o, none⟩) (n + 1) cap) (n + 1) xs) :
    QRow w base e size (.slice (some (if cap = 1 then ⟨g, o, none⟩ else ⟨g, o + size, none⟩)) n (cap - 1)) n (xs.drop size) := by
  refine ⟨by rw [List.length_drop, h.1, Nat.add_mul, Nat.one_mul, Nat.add_sub_cancel], .inr ?_⟩
  rcases h.2 with ⟨e0, _⟩ | ⟨g', o', cap', cur, e1, hb, hg, h1, h2, h3, h4⟩
  · cases e0
  · cases e1
    by_cases hc : cap = 1
    · subst hc
      have hn : n = 0 := by omega
      subst hn
      exact ⟨g, o, 0, cur, rfl, hb, hg, by omega, by omega, by omega, fun j hj => by omega⟩
    · have hcs : (cap - 1) * size + size = cap * size := by rw [Nat.sub_mul, Nat.one_mul, Nat.sub_add_cancel]; exact Nat.le_mul_of_pos_left _ (by omega)
      refine ⟨g, o + size, cap - 1, cur, by rw [if_neg hc], hb, hg, by omega, by omega, by omega, fun j hj => ?_⟩
      rw [List.getElem?_drop, ← h4 (size + j) (by rw [Nat.add_mul, Nat.one_mul]; omega), Nat.add_assoc]
end Go.Proofs.Ytocnhikohfkcaaa
namespace Go.Proofs.Ytocnhikohfkcaaa
open Go.RowKit

/-- a without b -/
def ldiff (a b : Nat) : Nat := a ^^^ (a &&& b)
def shr (a k : Nat) : Nat := a / 2 ^ k
def pw (k : Nat) : Nat := 2 ^ k
def tb (a k : Nat) : Nat := (a.testBit k).toNat
/-- small: fewer than 20 bits -/
def Sm (a : Nat) : Prop := a < 1048576

theorem Sm.lt {a : Nat} (h : Sm a) : a < 1048576 := h
theorem sm_of {a : Nat} (h : a < 1048576) : Sm a := h
theorem testBit_ldiff (a b i : Nat) : (ldiff a b).testBit i = (a.testBit i && !b.testBit i) := by
  unfold ldiff; rw [Nat.testBit_xor, Nat.testBit_and]; cases a.testBit i <;> cases b.testBit i <;> rfl
theorem ldiff_le (a b : Nat) : ldiff a b ≤ a := by
  apply Nat.le_of_testBit
  intro i h
  rw [testBit_ldiff] at h
  simp at h; exact h.1
theorem tb_lt (a k : Nat) : tb a k < 2 := by unfold tb; cases a.testBit k <;> decide
theorem tb_eq (a k : Nat) : tb a k = a / 2 ^ k % 2 := by
  unfold tb
  have h := Nat.testBit_eq_decide_div_mod_eq (x := a) (i := k)
  rw [h]
  have : a / 2 ^ k % 2 < 2 := Nat.mod_lt _ (by decide)
  by_cases e : a / 2 ^ k % 2 = 1
  · simp [e]
  · have : a / 2 ^ k % 2 = 0 := by omega
    simp [this]

theorem sm_and_l {a : Nat} (b : Nat) (h : Sm a) : Sm (a &&& b) := Nat.lt_of_le_of_lt Nat.and_le_left h
theorem sm_and_r {a : Nat} (b : Nat) (h : Sm a) : Sm (b &&& a) := Nat.lt_of_le_of_lt Nat.and_le_right h
theorem sm_ldiff {a : Nat} (b : Nat) (h : Sm a) : Sm (ldiff a b) := Nat.lt_of_le_of_lt (ldiff_le a b) h
theorem sm_or {a b : Nat} (h : Sm a) (h' : Sm b) : Sm (a ||| b) := Nat.or_lt_two_pow (n := 20) h h'
theorem sm_xor {a b : Nat} (h : Sm a) (h' : Sm b) : Sm (a ^^^ b) := Nat.xor_lt_two_pow (n := 20) h h'
theorem sm_shr {a : Nat} (k : Nat) (h : Sm a) : Sm (shr a k) := Nat.lt_of_le_of_lt (Nat.div_le_self _ _) h
theorem sm_tb (a k : Nat) : Sm (tb a k) := sm_of (Nat.lt_trans (tb_lt a k) (by decide))
theorem sm_pw {k : Nat} (h : k < 20) : Sm (pw k) := Nat.pow_lt_pow_right (by decide) h

theorem wrap_small (n : Nat) (h : n < 1048576) : IntKind.i64.wrap (n : Int) = n := by rw [IntKind.wrap_i64]; omega
theorem ofInt_small (a : Nat) (h : a < 1048576) : (BitVec.ofInt 64 (a : Int)).toNat = a := by
  rw [BitVec.ofInt_natCast, BitVec.toNat_ofNat, Nat.mod_eq_of_lt (by omega)]
theorem wrap_back (n : Nat) (x : BitVec 64) (h : x.toNat = n) (hn : n < 1048576) : IntKind.i64.wrap ((x.toNat : Nat) : Int) = (n : Int) := by
  rw [h]; exact wrap_small n hn
theorem band (a b : Nat) (ha : Sm a) (hb : Sm b) : bits .and .i64 (a : Int) (b : Int) = ((a &&& b : Nat) : Int) :=
  wrap_back _ (BitVec.ofInt 64 (a : Int) &&& BitVec.ofInt 64 (b : Int)) (by rw [BitVec.toNat_and, ofInt_small a ha, ofInt_small b hb]) (sm_and_l b ha).lt
theorem bor (a b : Nat) (ha : Sm a) (hb : Sm b) : bits .or .i64 (a : Int) (b : Int) = ((a ||| b : Nat) : Int) :=
  wrap_back _ (BitVec.ofInt 64 (a : Int) ||| BitVec.ofInt 64 (b : Int)) (by rw [BitVec.toNat_or, ofInt_small a ha, ofInt_small b hb]) (sm_or ha hb).lt
theorem bxor (a b : Nat) (ha : Sm a) (hb : Sm b) : bits .xor .i64 (a : Int) (b : Int) = ((a ^^^ b : Nat) : Int) :=
  wrap_back _ (BitVec.ofInt 64 (a : Int) ^^^ BitVec.ofInt 64 (b : Int)) (by rw [BitVec.toNat_xor, ofInt_small a ha, ofInt_small b hb]) (sm_xor ha hb).lt
theorem bandNot (a b : Nat) (ha : Sm a) (hb : Sm b) : bits .andNot .i64 (a : Int) (b : Int) = ((ldiff a b : Nat) : Int) :=
  wrap_back _ (BitVec.ofInt 64 (a : Int) &&& ~~~BitVec.ofInt 64 (b : Int)) (by
    apply Nat.eq_of_testBit_eq
    intro i
    have h1 := ofInt_small a ha
    have h2 := ofInt_small b hb
    rw [testBit_ldiff, BitVec.toNat_and, Nat.testBit_and, h1]
    by_cases hi : i < 64
    · have : (~~~BitVec.ofInt 64 (b : Int)).toNat.testBit i = !(BitVec.ofInt 64 (b : Int)).toNat.testBit i := by
        rw [← BitVec.getLsbD, ← BitVec.getLsbD, BitVec.getLsbD_not]; simp [hi]
      rw [this, h2]
    · have : a.testBit i = false := Nat.testBit_lt_two_pow (Nat.lt_of_lt_of_le ha (Nat.le_trans (show 1048576 ≤ 2 ^ 64 by decide) (Nat.pow_le_pow_right (by decide) (by omega))))
      simp [this]) (sm_ldiff b ha).lt
theorem shr_cast (a k : Nat) : (a : Int) / 2 ^ k = ((shr a k : Nat) : Int) := by unfold shr; simp
theorem shr_tmod (a k : Nat) : ((shr a k : Nat) : Int).tmod 2 = ((tb a k : Nat) : Int) := by
  rw [tb_eq]; unfold shr; rw [Int.tmod_eq_emod_of_nonneg (Int.natCast_nonneg _)]; simp
theorem shr_emod (a k : Nat) : ((shr a k : Nat) : Int) % 2 = ((tb a k : Nat) : Int) := by
  rw [tb_eq]; unfold shr; simp
theorem shr_and1 (a k : Nat) (ha : Sm a) : bits .and .i64 ((shr a k : Nat) : Int) 1 = ((tb a k : Nat) : Int) := by
  rw [tb_eq]
  have := band (shr a k) 1 (sm_shr k ha) (sm_of (by decide))
  rw [Nat.and_one_is_mod] at this
  exact this
theorem tb_eq_one (a k : Nat) : (((tb a k : Nat) : Int) = 1) = (a.testBit k = true) := by unfold tb; cases a.testBit k <;> simp
theorem tb_eq_zero (a k : Nat) : (((tb a k : Nat) : Int) = 0) = (a.testBit k = false) := by unfold tb; cases a.testBit k <;> simp
theorem tb_beq_one (a k : Nat) : (((tb a k : Nat) : Int) == 1) = a.testBit k := by unfold tb; cases a.testBit k <;> rfl
theorem tb_beq_zero (a k : Nat) : (((tb a k : Nat) : Int) == 0) = !a.testBit k := by unfold tb; cases a.testBit k <;> rfl
theorem pw_cast (k : Nat) (h : k < 20) : wrap64 (2 ^ k) = ((pw k : Nat) : Int) := by
  have : (2 : Int) ^ k = ((2 ^ k : Nat) : Int) := by simp
  rw [this, ← IntWalk.i64_left]; exact wrap_small _ (sm_pw h)
theorem pw_pos (k : Nat) : 1 ≤ pw k := Nat.one_le_two_pow

/-- how many of the first k bits are set -/
def szTo (s : Nat) : Nat → Nat
  | 0 => 0
  | k + 1 => szTo s k + tb s k
def size (s : Nat) : Nat := szTo s 64
def full (n : Nat) : Nat := 2 ^ n - 1

theorem szTo_le (s k : Nat) : szTo s k ≤ k := by
  induction k with
  | zero => exact Nat.le_refl _
  | succ k ih => have := tb_lt s k; simp only [szTo]; omega
theorem shr_pos_lt {s k : Nat} (hs : Sm s) (h : 0 < shr s k) : k < 20 := by
  apply Classical.byContradiction
  intro hk
  have h1 : s < 2 ^ k := Nat.lt_of_lt_of_le hs (Nat.le_trans (show 1048576 ≤ 2 ^ 20 by decide) (Nat.pow_le_pow_right (by decide) (by omega)))
  have : shr s k = 0 := Nat.div_eq_of_lt h1
  omega
theorem tb_zero_of_shr {s k j : Nat} (h : shr s k = 0) (hj : k ≤ j) : tb s j = 0 := by
  rw [tb_eq]
  have h1 : s < 2 ^ k := by
    unfold shr at h
    rcases (Nat.div_eq_zero_iff).1 h with h | h
    · exact absurd h (Nat.ne_of_gt (Nat.two_pow_pos k))
    · exact h
  rw [Nat.div_eq_of_lt (Nat.lt_of_lt_of_le h1 (Nat.pow_le_pow_right (by decide) hj))]
theorem szTo_stop {s k : Nat} (h : shr s k = 0) : ∀ j, szTo s (k + j) = szTo s k
  | 0 => rfl
  | j + 1 => by
    have : szTo s (k + (j + 1)) = szTo s (k + j) + tb s (k + j) := rfl
    rw [this, szTo_stop h j, tb_zero_of_shr h (by omega)]; rfl
theorem size_of_stop {s k : Nat} (hk : k ≤ 20) (h : shr s k = 0) : szTo s k = size s := by
  have := szTo_stop h (64 - k)
  rw [show k + (64 - k) = 64 by omega] at this
  exact this.symm
theorem size_le (s : Nat) : size s ≤ 64 := szTo_le s 64

theorem testBit_full (n i : Nat) : (full n).testBit i = decide (i < n) := by
  unfold full; rw [Nat.testBit_two_pow_sub_one]
theorem full_lt_pw (n : Nat) : full n < 2 ^ n := by unfold full; have := Nat.two_pow_pos n; omega
theorem sm_full {n : Nat} (h : n < 20) : Sm (full n) := Nat.lt_of_lt_of_le (full_lt_pw n) (show 2 ^ n ≤ 2 ^ 20 from Nat.pow_le_pow_right (by decide) (by omega))
theorem full_cast (n : Nat) : ((pw n : Nat) : Int) - 1 = ((full n : Nat) : Int) := by
  have := pw_pos n; unfold full pw at *; omega


/- the count of bits as Go's library takes it: bytes side by side -/
def val : List Nat → Nat
  | [] => 0
  | b :: l => b + 256 * val l
def bytesOf (x : Nat) : Nat → List Nat
  | 0 => []
  | k + 1 => x % 256 :: bytesOf (x / 256) k
theorem val_bytesOf : ∀ (k x : Nat), x < 256 ^ k → val (bytesOf x k) = x
  | 0, x, h => by simp at h; simp [bytesOf, val, h]
  | k + 1, x, h => by
    have h' : x / 256 < 256 ^ k := by rw [Nat.pow_succ] at h; exact Nat.div_lt_of_lt_mul (by omega)
    simp only [bytesOf, val, val_bytesOf k _ h']; omega
theorem bytesOf_lt : ∀ (k x : Nat), ∀ b ∈ bytesOf x k, b < 256
  | 0, _, b, h => by simp [bytesOf] at h
  | k + 1, x, b, h => by
    simp only [bytesOf, List.mem_cons] at h
    rcases h with rfl | h
    · exact Nat.mod_lt _ (by decide)
    · exact bytesOf_lt k _ b h
theorem length_bytesOf : ∀ (k x : Nat), (bytesOf x k).length = k
  | 0, _ => rfl
  | k + 1, x => by simp [bytesOf, length_bytesOf k]
theorem and_split (a b m M : Nat) (ha : a < 256) (hm : m < 256) : (a + 256 * b) &&& (m + 256 * M) = (a &&& m) + 256 * (b &&& M) := by
  apply Nat.eq_of_testBit_eq
  intro i
  rw [Nat.testBit_and]
  have e : ∀ (x y : Nat), x < 256 → (x + 256 * y).testBit i = if i < 8 then x.testBit i else y.testBit (i - 8) := fun x y hx => by
    rw [Nat.add_comm]; exact Nat.testBit_two_pow_mul_add (i := 8) y hx i
  rw [e a b ha, e m M hm, e _ _ (Nat.lt_of_le_of_lt Nat.and_le_left ha)]
  split <;> rw [Nat.testBit_and]
def c1 (b : Nat) : Nat := (b / 2 &&& 85) + (b &&& 85)
def c2 (b : Nat) : Nat := (c1 b / 4 &&& 51) + (c1 b &&& 51)
theorem byte1 : ∀ b < 256, ∀ r < 2, ((b / 2 + 128 * r) &&& 85) = (b / 2 &&& 85) ∧ c1 b < 256 ∧ (b / 2 &&& 85) < 256 := by decide +kernel
theorem byte2 : ∀ b < 256, ∀ r < 4, ((c1 b / 4 + 64 * r) &&& 51) = (c1 b / 4 &&& 51) ∧ c2 b < 256 ∧ c2 b % 16 ≤ 4 := by decide +kernel
theorem byte3 : ∀ b < 256, ∀ r < 5, c2 b / 16 + 16 * r + c2 b < 256 ∧ ((c2 b / 16 + 16 * r + c2 b) &&& 15) = szTo b 8 := by decide +kernel
def m0 (l : List Nat) : Nat := val (l.map fun _ => 85)
def m1 (l : List Nat) : Nat := val (l.map fun _ => 51)
def m2 (l : List Nat) : Nat := val (l.map fun _ => 15)
theorem pop1 : ∀ l : List Nat, (∀ b ∈ l, b < 256) → (val l / 2 &&& m0 l) + (val l &&& m0 l) = val (l.map c1)
  | [], _ => rfl
  | b :: l, h => by
    have ih := pop1 l (fun x hx => h x (List.mem_cons_of_mem _ hx))
    have hb : b < 256 := h b List.mem_cons_self
    have e : val (b :: l) / 2 = (b / 2 + 128 * (val l % 2)) + 256 * (val l / 2) := by simp only [val]; omega
    have hr := byte1 b hb (val l % 2) (Nat.mod_lt _ (by decide))
    rw [e]
    simp only [m0, val, List.map_cons] at *
    rw [and_split _ _ _ _ (by omega) (by decide), and_split _ _ _ _ hb (by decide), hr.1]
    have : c1 b = (b / 2 &&& 85) + (b &&& 85) := rfl
    omega
theorem pop2 : ∀ l : List Nat, (∀ b ∈ l, b < 256) → (val (l.map c1) / 4 &&& m1 l) + (val (l.map c1) &&& m1 l) = val (l.map c2)
  | [], _ => rfl
  | b :: l, h => by
    have ih := pop2 l (fun x hx => h x (List.mem_cons_of_mem _ hx))
    have hb : b < 256 := h b List.mem_cons_self
    have hc : c1 b < 256 := (byte1 b hb 0 (by decide)).2.1
    have e : val ((b :: l).map c1) / 4 = (c1 b / 4 + 64 * (val (l.map c1) % 4)) + 256 * (val (l.map c1) / 4) := by simp only [val, List.map_cons]; omega
    have hr := byte2 b hb (val (l.map c1) % 4) (Nat.mod_lt _ (by decide))
    rw [e]
    simp only [m1, val, List.map_cons] at *
    rw [and_split _ _ _ _ (by omega) (by decide), and_split _ _ _ _ hc (by decide), hr.1]
    have : c2 b = (c1 b / 4 &&& 51) + (c1 b &&& 51) := rfl
    omega
theorem pop3_mod : ∀ l : List Nat, (∀ b ∈ l, b < 256) → val (l.map c2) % 16 ≤ 4
  | [], _ => by decide
  | b :: l, h => by
    have hb : b < 256 := h b List.mem_cons_self
    have := (byte2 b hb 0 (by decide)).2.2
    simp only [val, List.map_cons]; omega
theorem pop3 : ∀ l : List Nat, (∀ b ∈ l, b < 256) → ((val (l.map c2) / 16 + val (l.map c2)) &&& m2 l) = val (l.map (szTo · 8))
  | [], _ => rfl
  | b :: l, h => by
    have hl := fun x hx => h x (List.mem_cons_of_mem _ hx)
    have ih := pop3 l hl
    have hb : b < 256 := h b List.mem_cons_self
    have hm := pop3_mod l hl
    have e : val ((b :: l).map c2) / 16 + val ((b :: l).map c2) = (c2 b / 16 + 16 * (val (l.map c2) % 16) + c2 b) + 256 * (val (l.map c2) / 16 + val (l.map c2)) := by simp only [val, List.map_cons]; omega
    have hr := byte3 b hb (val (l.map c2) % 16) (by omega)
    rw [e]
    simp only [m2, val, List.map_cons] at *
    rw [and_split _ _ _ _ hr.1 (by decide), hr.2, ih]
theorem tb_split (b v i : Nat) (hb : b < 256) : tb (b + 256 * v) i = if i < 8 then tb b i else tb v (i - 8) := by
  unfold tb
  have := Nat.testBit_two_pow_mul_add (i := 8) v hb i
  rw [Nat.add_comm, this]; split <;> rfl
theorem szTo_split (b v : Nat) (hb : b < 256) : ∀ k, szTo (b + 256 * v) (8 + k) = szTo b 8 + szTo v k
  | 0 => by
    simp only [Nat.add_zero, szTo, tb_split b v _ hb]; simp
  | k + 1 => by
    have : szTo (b + 256 * v) (8 + (k + 1)) = szTo (b + 256 * v) (8 + k) + tb (b + 256 * v) (8 + k) := rfl
    rw [this, szTo_split b v hb k, tb_split b v _ hb, if_neg (by omega)]
    simp only [szTo, Nat.add_sub_cancel_left]; omega
theorem sum_bytes : ∀ l : List Nat, (∀ b ∈ l, b < 256) → szTo (val l) (8 * l.length) = (l.map (szTo · 8)).foldr (· + ·) 0
  | [], _ => rfl
  | b :: l, h => by
    have ih := sum_bytes l (fun x hx => h x (List.mem_cons_of_mem _ hx))
    have hb : b < 256 := h b List.mem_cons_self
    simp only [val, List.length_cons, List.map_cons, List.foldr_cons]
    rw [show 8 * (l.length + 1) = 8 + 8 * l.length by omega, szTo_split b _ hb, ih]
def st1 (s : Nat) : Nat := (s / 2 &&& 6148914691236517205) + (s &&& 6148914691236517205)
def st2 (s : Nat) : Nat := (s / 4 &&& 3689348814741910323) + (s &&& 3689348814741910323)
def st3 (s : Nat) : Nat := (s / 16 + s) &&& 1085102592571150095
def st4 (s : Nat) : Nat := s + s / 256
def st5 (s : Nat) : Nat := s + s / 65536
def st6 (s : Nat) : Nat := s + s / 4294967296
theorem fold_sum (s0 s1 s2 s3 s4 s5 s6 s7 t0 t1 t2 t3 t4 t5 t6 : Nat) (h0 : s0 ≤ 8) (h1 : s1 ≤ 8) (h2 : s2 ≤ 8) (h3 : s3 ≤ 8) (h4 : s4 ≤ 8) (h5 : s5 ≤ 8) (h6 : s6 ≤ 8) (h7 : s7 ≤ 8)
    (e6 : t6 = s6 + 256 * s7) (e5 : t5 = s5 + 256 * t6) (e4 : t4 = s4 + 256 * t5) (e3 : t3 = s3 + 256 * t4) (e2 : t2 = s2 + 256 * t3) (e1 : t1 = s1 + 256 * t2) (e0 : t0 = s0 + 256 * t1) :
    st4 t0 < 18446744073709551616 ∧ st5 (st4 t0) < 18446744073709551616 ∧ st6 (st5 (st4 t0)) < 18446744073709551616 ∧ st6 (st5 (st4 t0)) % 128 = s0 + s1 + s2 + s3 + s4 + s5 + s6 + s7 := by
  have f4 : st4 t0 = t0 + t1 := by unfold st4; have : t0 / 256 = t1 := by omega
                                   rw [this]
  have g0 : t0 = s0 + 256 * s1 + 65536 * t2 := by omega
  have g1 : t1 = s1 + 256 * s2 + 65536 * t3 := by omega
  have f5 : st5 (st4 t0) = t0 + t1 + (t2 + t3) := by
    rw [f4]; unfold st5
    have : (t0 + t1) / 65536 = t2 + t3 := by omega
    rw [this]
  have k0 : t0 = s0 + 256 * s1 + 65536 * s2 + 16777216 * s3 + 4294967296 * t4 := by omega
  have k1 : t1 = s1 + 256 * s2 + 65536 * s3 + 16777216 * s4 + 4294967296 * t5 := by omega
  have k2 : t2 = s2 + 256 * s3 + 65536 * s4 + 16777216 * s5 + 4294967296 * t6 := by omega
  have k3 : t3 = s3 + 256 * s4 + 65536 * s5 + 16777216 * s6 + 4294967296 * s7 := by omega
  have f6 : st6 (st5 (st4 t0)) = t0 + t1 + (t2 + t3) + (t4 + t5 + t6 + s7) := by
    rw [f5]; unfold st6
    have : (t0 + t1 + (t2 + t3)) / 4294967296 = t4 + t5 + t6 + s7 := by clear g0 g1 f4 f5 e0 e1 e2 e3 e4 e5 e6; omega
    rw [this]
  have l6 : t6 ≤ 2056 := by omega
  have l5 : t5 ≤ 526344 := by omega
  have l4 : t4 ≤ 134744072 := by omega
  have l0 : t0 ≤ 578721382704613384 := by clear f4 f5 f6 g0 g1 k1 k2 k3 e0 e1 e2 e3 e4 e5 e6; omega
  have l1 : t1 ≤ t0 := by omega
  have l2 : t2 ≤ t1 := by omega
  have l3 : t3 ≤ t2 := by omega
  rw [f6, f5, f4]
  refine ⟨by clear f4 f5 f6 g0 g1 k0 k1 k2 k3 e0 e1 e2 e3 e4 e5 e6; omega, by clear f4 f5 f6 g0 g1 k0 k1 k2 k3 e0 e1 e2 e3 e4 e5 e6; omega, by clear f4 f5 f6 g0 g1 k0 k1 k2 k3 e0 e1 e2 e3 e4 e5 e6; omega, ?_⟩
  clear f4 f5 f6 g0 g1 k0 k1 k2 k3 l0 l1 l2 l3 l4 l5 l6
  have : t0 + t1 + (t2 + t3) + (t4 + t5 + t6 + s7) = (s0 + s1 + s2 + s3 + s4 + s5 + s6 + s7) + 128 * (2 * (t1 + t2 + t3 + t4 + t5 + t6 + s7)) := by omega
  rw [this]; omega
theorem third (y : Nat) (h : y ≤ 9838263505978427528) : y / 16 + y < 18446744073709551616 := by omega
/-- what Go's library makes of 64 bits: their count; no sum on the way passes 64 bits -/
theorem pop64 (x : Nat) (hx : x < 18446744073709551616) :
    st1 x < 18446744073709551616 ∧ st2 (st1 x) < 18446744073709551616 ∧ st2 (st1 x) / 16 + st2 (st1 x) < 18446744073709551616 ∧
    st4 (st3 (st2 (st1 x))) < 18446744073709551616 ∧ st5 (st4 (st3 (st2 (st1 x)))) < 18446744073709551616 ∧ st6 (st5 (st4 (st3 (st2 (st1 x))))) < 18446744073709551616 ∧
    st6 (st5 (st4 (st3 (st2 (st1 x))))) &&& 127 = size x := by
  have hv := val_bytesOf 8 x hx
  have hl := bytesOf_lt 8 x
  have hk := length_bytesOf 8 x
  generalize bytesOf x 8 = l at hv hl hk
  have n0 : m0 l = 6148914691236517205 := by
    match l, hk with
    | [b0, b1, b2, b3, b4, b5, b6, b7], _ => simp [m0, val]
  have n1 : m1 l = 3689348814741910323 := by
    match l, hk with
    | [b0, b1, b2, b3, b4, b5, b6, b7], _ => simp [m1, val]
  have n2 : m2 l = 1085102592571150095 := by
    match l, hk with
    | [b0, b1, b2, b3, b4, b5, b6, b7], _ => simp [m2, val]
  have e1 : st1 x = val (l.map c1) := by unfold st1; rw [← n0, ← hv]; exact pop1 _ hl
  have e2 : st2 (st1 x) = val (l.map c2) := by rw [e1]; unfold st2; rw [← n1]; exact pop2 _ hl
  have e3 : st3 (st2 (st1 x)) = val (l.map (szTo · 8)) := by rw [e2]; unfold st3; rw [← n2]; exact pop3 _ hl
  have es := sum_bytes _ hl
  rw [hv, hk] at es
  have hs : size x = szTo x 64 := rfl
  have m127 : ∀ y, y &&& 127 = y % 128 := fun y => Nat.and_two_pow_sub_one_eq_mod y 7
  have c1l : ∀ b < 256, c1 b ≤ 255 := fun b hb => Nat.le_of_lt_succ (byte1 b hb 0 (by decide)).2.1
  have c2l : ∀ b < 256, c2 b ≤ 136 := by decide +kernel
  rw [e3, e2, e1, hs, m127, es]
  clear e1 e2 e3 n0 n1 n2 es m127 hs hv hx
  match l, hk with
  | [b0, b1, b2, b3, b4, b5, b6, b7], _ =>
    have a0 := c1l _ (hl b0 (by simp)); have a1 := c1l _ (hl b1 (by simp)); have a2 := c1l _ (hl b2 (by simp)); have a3 := c1l _ (hl b3 (by simp))
    have a4 := c1l _ (hl b4 (by simp)); have a5 := c1l _ (hl b5 (by simp)); have a6 := c1l _ (hl b6 (by simp)); have a7 := c1l _ (hl b7 (by simp))
    have d0 := c2l _ (hl b0 (by simp)); have d1 := c2l _ (hl b1 (by simp)); have d2 := c2l _ (hl b2 (by simp)); have d3 := c2l _ (hl b3 (by simp))
    have d4 := c2l _ (hl b4 (by simp)); have d5 := c2l _ (hl b5 (by simp)); have d6 := c2l _ (hl b6 (by simp)); have d7 := c2l _ (hl b7 (by simp))
    have F := fold_sum (szTo b0 8) (szTo b1 8) (szTo b2 8) (szTo b3 8) (szTo b4 8) (szTo b5 8) (szTo b6 8) (szTo b7 8) _ _ _ _ _ _ _ (szTo_le _ _) (szTo_le _ _) (szTo_le _ _) (szTo_le _ _) (szTo_le _ _) (szTo_le _ _) (szTo_le _ _) (szTo_le _ _) rfl rfl rfl rfl rfl rfl rfl
    simp only [List.map_cons, List.map_nil, val, List.foldr_cons, List.foldr_nil, Nat.mul_zero, Nat.add_zero]
    refine ⟨?_, ?_, ?_, F.1, F.2.1, F.2.2.1, by rw [F.2.2.2]; omega⟩
    · clear d0 d1 d2 d3 d4 d5 d6 d7 F; omega
    · clear a0 a1 a2 a3 a4 a5 a6 a7 F; omega
    · clear a0 a1 a2 a3 a4 a5 a6 a7 F
      exact third _ (by omega)
theorem lt_up {a b : Nat} (h : a < b) : (a < b + 1) = True := eq_true (by omega)
attribute [go_sem] band bor bxor bandNot shr_cast shr_tmod shr_emod shr_and1 tb_eq_one tb_eq_zero tb_beq_one tb_beq_zero pw_cast sm_and_l sm_and_r sm_ldiff sm_or sm_xor sm_shr sm_tb sm_pw lt_up
end Go.Proofs.Ytocnhikohfkcaaa
