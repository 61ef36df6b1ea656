/- Hues from lists as the document reads them, in plain text; and the same as the program's. append onto a row of the call's own, the source another row, nil or not. The document's search for hues from lists: walks. The document's search for hues from lists: the search itself. Too many edges within a set, counted by edges: plain text. The document's lists of the same numbers: a walk. The document's Fewest: a walk. HueVizing: the walk of the law. -/
import Derived.Test.YtpknnjcbcndbbaaDoorE01
import Derived.Test.YtpknnjcbcndbbaaDoorA10
import Derived.Test.YtpknnjcbcndbbaaDoorA06
import Derived.Test.YtpknnjcbcndbbaaDoorA14
import Derived.Test.YtpknnjcbcndbbaaDoorA15
import Derived.Test.YtpknnjcbcndbbaaDoorA17
set_option linter.unusedVariables false
set_option linter.unusedSimpArgs false
namespace Go.Proofs.YtpknnjcbcndbbaaDoor
open Go.RowKit

theorem meetB_comm (a b : Int × Int) : meetB a b = meetB b a := by
  unfold meetB
  rw [Bool.eq_iff_iff]
  simp only [Bool.or_eq_true, beq_iff_eq]
  omega
/-- a hue of each edge, of its list, and no two edges that meet have the same -/
def FamF (ps : List (Int × Int)) (ls : Nat → List Nat) (f : Nat → Nat) : Prop := (∀ i, i < ps.length → f i ∈ ls i) ∧ ∀ i k, i < ps.length → k < ps.length → i ≠ k → meetB (qa ps i) (qa ps k) = true → f i ≠ f k
def ExtF (ps : List (Int × Int)) (ls : Nat → List Nat) (h : Nat → Int) : Prop := ∃ f, FamF ps ls f ∧ ∀ i, i < ps.length → 0 ≤ h i → h i = (f i : Int)
structure PreF (ps : List (Int × Int)) (ls : Nat → List Nat) (h : Nat → Int) : Prop where
  own : ∀ i, i < ps.length → h i = -1 ∨ ∃ x, x ∈ ls i ∧ h i = (x : Int)
  prop : ∀ i k, i < ps.length → k < ps.length → i ≠ k → meetB (qa ps i) (qa ps k) = true → 0 ≤ h i → h i ≠ h k
def FreeF (ps : List (Int × Int)) (h : Nat → Int) (i : Nat) (x : Int) : Prop := ∀ k, k < ps.length → k ≠ i → ¬ (h k = x ∧ meetB (qa ps k) (qa ps i) = true)
def setI (h : Nat → Int) (i : Nat) (x : Int) (j : Nat) : Int := if j = i then x else h j
section
variable {ps : List (Int × Int)} {ls : Nat → List Nat} {h : Nat → Int}
theorem PreF.done (P : PreF ps ls h) (hall : ∀ i, i < ps.length → 0 ≤ h i) : ExtF ps ls h := by
  refine ⟨fun i => (h i).toNat, ⟨fun i hi => ?_, fun i k hi hk hne hm => ?_⟩, fun i hi h0 => by show h i = (((h i).toNat : Nat) : Int); omega⟩
  · show (h i).toNat ∈ ls i
    rcases P.own i hi with e | ⟨x, hx, e⟩
    · have := hall i hi; omega
    · rw [e]; simpa using hx
  · have h1 := P.prop i k hi hk hne hm (hall i hi)
    have h2 := hall i hi
    have h3 := hall k hk
    show (h i).toNat ≠ (h k).toNat
    omega
theorem PreF.start (ps : List (Int × Int)) (ls : Nat → List Nat) : PreF ps ls (fun _ => -1) := ⟨fun _ _ => .inl rfl, fun _ _ _ _ _ _ h => absurd h (by decide)⟩
theorem ExtF.start : ExtF ps ls (fun _ => -1) ↔ ∃ f, FamF ps ls f := ⟨fun ⟨f, h1, _⟩ => ⟨f, h1⟩, fun ⟨f, h1⟩ => ⟨f, h1, fun i _ h => absurd (show (0 : Int) ≤ -1 from h) (by decide)⟩⟩
theorem PreF.step (P : PreF ps ls h) {i x : Nat} (hi : i < ps.length) (hx : x ∈ ls i) (hf : FreeF ps h i (x : Int)) : PreF ps ls (setI h i (x : Int)) := by
  refine ⟨fun j hj => ?_, fun j k hj hk hne hm h0 => ?_⟩
  · unfold setI
    by_cases e : j = i
    · rw [if_pos e, e]; exact .inr ⟨x, hx, rfl⟩
    · rw [if_neg e]; exact P.own j hj
  · unfold setI at h0 ⊢
    by_cases e : j = i
    · subst e
      rw [if_pos rfl, if_neg (fun h => hne h.symm)]
      exact fun e => hf k hk (fun h => hne h.symm) ⟨e.symm, by rw [meetB_comm]; exact hm⟩
    · rw [if_neg e] at h0 ⊢
      by_cases e2 : k = i
      · subst e2
        rw [if_pos rfl]
        exact fun e3 => hf j hj e ⟨e3, hm⟩
      · rw [if_neg e2]; exact P.prop j k hj hk hne hm h0
theorem ExtF.step (E : ExtF ps ls h) {i : Nat} (hi : i < ps.length) (hn : h i < 0) : ∃ x, x ∈ ls i ∧ FreeF ps h i (x : Int) ∧ ExtF ps ls (setI h i (x : Int)) := by
  obtain ⟨f, ⟨h1, h2⟩, h3⟩ := E
  refine ⟨f i, h1 i hi, fun k hk hne hc => ?_, f, ⟨h1, h2⟩, fun j hj h0 => ?_⟩
  · have := h3 k hk (by omega)
    exact h2 k i hk hi hne hc.2 (by omega)
  · unfold setI at h0 ⊢
    by_cases e : j = i
    · rw [if_pos e, e]
    · rw [if_neg e] at h0 ⊢; exact h3 j hj h0
theorem ExtF.back {i x : Nat} (E : ExtF ps ls (setI h i (x : Int))) (hn : h i < 0) : ExtF ps ls h := by
  obtain ⟨f, h1, h3⟩ := E
  refine ⟨f, h1, fun j hj h0 => ?_⟩
  have := h3 j hj
  unfold setI at this
  by_cases e : j = i
  · subst e; omega
  · rw [if_neg e] at this; exact this h0
def unh (m : Nat) (h : Nat → Int) : Nat := (List.range m).countP fun i => decide (h i < 0)
theorem unh_set {m i : Nat} (hi : i < m) (hn : h i < 0) (x : Nat) : unh m (setI h i (x : Int)) < unh m h := by
  unfold unh
  obtain ⟨l1, l2, e⟩ := List.append_of_mem (List.mem_range.2 hi)
  have key : ∀ l : List Nat, l.countP (fun j => decide (setI h i (x : Int) j < 0)) ≤ l.countP (fun j => decide (h j < 0)) := fun l => by
    refine List.countP_mono_left fun j _ hj => ?_
    simp only [decide_eq_true_eq] at hj ⊢
    unfold setI at hj
    by_cases e : j = i
    · rw [if_pos e] at hj; omega
    · rw [if_neg e] at hj; exact hj
  rw [e, List.countP_append, List.countP_append, List.countP_cons, List.countP_cons]
  have k1 := key l1
  have k2 := key l2
  have e1 : decide (setI h i (x : Int) i < 0) = false := by unfold setI; rw [if_pos rfl]; exact decide_eq_false (by omega)
  have e2 : decide (h i < 0) = true := decide_eq_true hn
  rw [e1, e2]
  simp only [Bool.false_eq_true, if_false, if_true]
  omega
end
/-- the document's hues and the program's are the same -/
def colOf (ps : List (Int × Int)) (f : Nat → Nat) (e : Nat × Nat) : Option Nat := ((List.range ps.length).find? fun i => decide (pr (qa ps i) = e)).map f
def usOf (ps : List (Int × Int)) (f : Nat → Nat) (v : Nat) : Nat := (List.range ps.length).foldl (fun s i => if (pr (qa ps i)).1 = v ∨ (pr (qa ps i)).2 = v then s ||| 2 ^ f i else s) 0
theorem usOf_bit (ps : List (Int × Int)) (f : Nat → Nat) (v h : Nat) : (usOf ps f v).testBit h = true ↔ ∃ i, i < ps.length ∧ ((pr (qa ps i)).1 = v ∨ (pr (qa ps i)).2 = v) ∧ f i = h := by
  have key : ∀ (l : List Nat) (s : Nat), (l.foldl (fun s i => if (pr (qa ps i)).1 = v ∨ (pr (qa ps i)).2 = v then s ||| 2 ^ f i else s) s).testBit h = true ↔ s.testBit h = true ∨ ∃ i, i ∈ l ∧ ((pr (qa ps i)).1 = v ∨ (pr (qa ps i)).2 = v) ∧ f i = h := by
    intro l
    induction l with
    | nil => intro s; simp
    | cons a l ih =>
      intro s
      rw [List.foldl_cons, ih]
      by_cases hc : (pr (qa ps a)).1 = v ∨ (pr (qa ps a)).2 = v
      · rw [if_pos hc, bit_or_pow, Bool.or_eq_true, decide_eq_true_iff]
        constructor
        · rintro ((h1 | h1) | ⟨i, h1, h2⟩)
          · exact .inl h1
          · exact .inr ⟨a, List.mem_cons_self, hc, h1⟩
          · exact .inr ⟨i, List.mem_cons_of_mem _ h1, h2⟩
        · rintro (h1 | ⟨i, h1, h2, h3⟩)
          · exact .inl (.inl h1)
          · rcases List.mem_cons.1 h1 with rfl | h1
            · exact .inl (.inr h3)
            · exact .inr ⟨i, h1, h2, h3⟩
      · rw [if_neg hc]
        constructor
        · rintro (h1 | ⟨i, h1, h2⟩)
          · exact .inl h1
          · exact .inr ⟨i, List.mem_cons_of_mem _ h1, h2⟩
        · rintro (h1 | ⟨i, h1, h2, h3⟩)
          · exact .inl h1
          · rcases List.mem_cons.1 h1 with rfl | h1
            · exact absurd h2 hc
            · exact .inr ⟨i, h1, h2, h3⟩
  have := key (List.range ps.length) 0
  unfold usOf
  rw [this]
  simp
section
variable {g : List Nat} {ps : List (Int × Int)} {L : Nat → Nat} {ls : Nat → List Nat} {f : Nat → Nat}
theorem colOf_at (E : EdgesOK g ps) {i : Nat} (hi : i < ps.length) : colOf ps f (pr (qa ps i)) = some (f i) := by
  unfold colOf
  cases hf : (List.range ps.length).find? fun j => decide (pr (qa ps j) = pr (qa ps i)) with
  | none =>
    have := List.find?_eq_none.1 hf i (List.mem_range.2 hi)
    simp at this
  | some j =>
    have h1 := List.find?_some hf
    have h2 := List.mem_range.1 (List.mem_of_find?_eq_some hf)
    have : j = i := Classical.byContradiction fun hne => E.pr_ne h2 hi hne (by simpa using h1)
    rw [this]; rfl
theorem colOf_some {e : Nat × Nat} {x : Nat} (h : colOf ps f e = some x) : ∃ i, i < ps.length ∧ pr (qa ps i) = e ∧ f i = x := by
  unfold colOf at h
  obtain ⟨j, hj, rfl⟩ := Option.map_eq_some_iff.1 h
  have h1 := List.find?_some hj
  exact ⟨j, List.mem_range.1 (List.mem_of_find?_eq_some hj), by simpa using h1, rfl⟩
theorem meet_of {v x y : Nat} {i k : Nat} (E : EdgesOK g ps) (hi : i < ps.length) (hk : k < ps.length) (h1 : pr (qa ps i) = ed v x) (h2 : pr (qa ps k) = ed v y) : meetB (qa ps i) (qa ps k) = true := by
  obtain ⟨a, b, e1, p1, -⟩ := E.at hi
  obtain ⟨c, d, e2, p2, -⟩ := E.at hk
  rw [p1] at h1
  rw [p2] at h2
  rw [e1, e2]
  unfold meetB
  simp only [Bool.or_eq_true, beq_iff_eq]
  rcases ed_eq h1 with ⟨rfl, rfl⟩ | ⟨rfl, rfl⟩ <;> rcases ed_eq h2 with ⟨h3, h4⟩ | ⟨h3, h4⟩ <;> omega
theorem hueOK_of (E : EdgesOK g ps) (hL : ∀ i, i < ps.length → ∀ x, x ∈ ls i → x < 64 ∧ (L i).testBit x = true) (F : FamF ps ls f) : HueOK g ps L (colOf ps f) := by
  refine ⟨⟨usOf ps f, fun v x h hc => ?_, fun e h hc => ?_, fun v x y h hx hy => ?_, fun v h hv hh => ?_⟩, fun i hi => ⟨f i, colOf_at E hi, (hL i hi _ (F.1 i hi)).2⟩⟩
  · obtain ⟨i, hi, he, rfl⟩ := colOf_some hc
    obtain ⟨a, b, -, p1, -, hab, ha, hb, h1, h2⟩ := E.at hi
    rw [p1] at he
    rcases ed_eq he with ⟨rfl, rfl⟩ | ⟨rfl, rfl⟩
    · exact ⟨hab, ha, hb, h1, (hL i hi _ (F.1 i hi)).1⟩
    · exact ⟨hab.symm, hb, ha, h2, (hL i hi _ (F.1 i hi)).1⟩
  · obtain ⟨i, hi, he, rfl⟩ := colOf_some hc
    obtain ⟨a, b, -, p1, -⟩ := E.at hi
    exact ⟨a, b, by rw [← he, p1]⟩
  · obtain ⟨i, hi, h1, e1⟩ := colOf_some hx
    obtain ⟨k, hk, h2, e2⟩ := colOf_some hy
    have : i = k := Classical.byContradiction fun hne => F.2 i k hi hk hne (meet_of E hi hk h1 h2) (by rw [e1, e2])
    subst this
    exact ed_inj (h1.symm.trans h2)
  · rw [usOf_bit]
    constructor
    · rintro ⟨i, hi, h1, rfl⟩
      obtain ⟨a, b, -, p1, p2, -⟩ := E.at hi
      have hc := colOf_at (f := f) E hi
      rw [p1, p2] at h1
      rw [p1] at hc
      rcases h1 with h1 | h1
      · simp only at h1; subst h1; exact ⟨b, hc⟩
      · simp only at h1; subst h1; exact ⟨a, by rw [ed_comm]; exact hc⟩
    · rintro ⟨x, hx⟩
      obtain ⟨i, hi, h1, e1⟩ := colOf_some hx
      refine ⟨i, hi, ?_, e1⟩
      rw [h1]
      unfold ed
      simp only
      omega
theorem fam_of (E : EdgesOK g ps) (hL : ∀ i, i < ps.length → ∀ x, (L i).testBit x = true → x ∈ ls i) {col : Nat × Nat → Option Nat} (H : HueOK g ps L col) : FamF ps ls (fun i => (col (pr (qa ps i))).getD 0) := by
  obtain ⟨⟨us, H1⟩, H2⟩ := H
  refine ⟨fun i hi => ?_, fun i k hi hk hne hm e => ?_⟩
  · obtain ⟨h, h1, h2⟩ := H2 i hi
    show (col (pr (qa ps i))).getD 0 ∈ ls i
    rw [h1]; exact hL i hi _ h2
  · obtain ⟨v, x, y, p1, p2⟩ := meet_ends E hi hk hm
    obtain ⟨h, h1, -⟩ := H2 i hi
    obtain ⟨h', h1', -⟩ := H2 k hk
    simp only [h1, h1', Option.getD_some] at e
    subst e
    rw [p1] at h1
    rw [p2] at h1'
    have := H1.inj v x y h h1 h1'
    subst this
    exact E.pr_ne hi hk hne (p1.trans p2.symm)
end
end Go.Proofs.YtpknnjcbcndbbaaDoor
namespace Go.Proofs.YtpknnjcbcndbbaaDoor
open Go.RowKit
variable {P : Program}

/-- a source of values, nil where there are none -/
def Src (w : World) (p : Option Addr) (m size : Nat) (ys : List Value) : Prop := ys.length = m * size ∧ (m ≠ 0 → ∃ ad, p = some ad ∧ ∀ j u, ys[j]? = some u → w.cell? (ad.add j) = some u)
theorem QRow.src {w : World} {base : Nat} {e : TypeId} {size : Nat} {p : Option Addr} {m c : Nat} {ys : List Value} (h : QRow w base e size (.slice p m c) m ys) : Src w p m size ys := by
  refine ⟨h.1, fun hm => ?_⟩
  obtain ⟨g, o, cap, e1, _, _, _, _, h2, _⟩ := h.at (by omega)
  cases e1
  refine ⟨_, rfl, fun j u hu => ?_⟩
  have hj := (List.getElem?_eq_some_iff.1 hu).1
  rw [h.1] at hj
  rw [Addr.add_lit, h2 j hj]; exact hu
theorem run_append_q_nil (w : World) (base : Nat) (t ty e : TypeId) (i : TypeInfo) (size : Nat) (ht : P.underlying t = some (.slice e)) (hi : P.info? e = some i)
    (v : Value) (n : Nat) (xs : List Value) (hown : QRow w base e size v n xs) (c : Nat) : (Builtin.append_ #[t, t] ty #[v, .slice none 0 c]).run P w = .ok v w := by
  rcases hown.2 with ⟨rfl, rfl⟩ | ⟨g, o, cap, cur, rfl, _, _, hnc, _⟩
  · simp [Builtin.append_, run_underlying ht, sizeOf, typeInfo, hi, Builtin.lenOf, Builtin.firstCells]
  · simp [Builtin.append_, run_underlying ht, sizeOf, typeInfo, hi, Builtin.lenOf, Builtin.firstCells, hnc, storeCells]
theorem run_append_qq (w : World) (base : Nat) (t ty e : TypeId) (i : TypeInfo) (z : Value) (size bytes : Nat) (ht : P.underlying t = some (.slice e)) (hi : P.info? e = some i) (hz : i.zero = some z)
    (hsize : i.size = size) (hby : i.bytes = bytes) (hzs : z.cells.size = size) (hsz : 0 < size)
    (v : Value) (n : Nat) (xs : List Value) (hown : QRow w base e size v n xs)
    (p : Option Addr) (m c : Nat) (ys : List Value) (hs : Src w p m size ys) (h1 : ∀ u ∈ ys, u.oneCell' = true)
    (h63 : n + m ≤ maxLen) (hbytes : (n + m) * bytes ≤ 140737488355328) (hbase : base ≤ w.heap.size) :
    ∃ v' w', (Builtin.append_ #[t, t] ty #[v, .slice p m c]).run P w = .ok v' w' ∧ QRow w' base e size v' (n + m) (xs ++ ys) ∧ w.grownBy w' v.ownBlock ∧ ∀ k, v'.ownBlock = some k → v.ownBlock = some k ∨ w.heap.size ≤ k := by
  by_cases hm : m = 0
  · subst hm
    have hn : ys = [] := List.eq_nil_of_length_eq_zero (by simpa using hs.1)
    subst hn
    cases p with
    | none => exact ⟨v, w, run_append_q_nil w base t ty e i size ht hi v n xs hown c, by simpa using hown, World.grownBy.refl w _, fun k hk => .inl hk⟩
    | some ad => exact run_append_q w base t ty e i z size bytes ht hi hz hsize hby hzs hsz v n xs hown ad 0 c [] (by simp) (fun j u hu => by simp at hu) h1 h63 hbytes hbase
  · obtain ⟨ad, rfl, hc⟩ := hs.2 hm
    exact run_append_q w base t ty e i z size bytes ht hi hz hsize hby hzs hsz v n xs hown ad m c ys hs.1 hc h1 h63 hbytes hbase
theorem wpList_append_qq (w : World) {ops : Array Oper} {rest : List Oper} {o : Oper} {a : Act} {Q : Exit → Act → World → Prop}
    (hgd : o.guard = none) (s x : Operand) (t : TypeId) (ho : o.op = Op.call { callee := Callee.builtin Builtin.append, args := #[s, x], argTypes := #[t, t] })
    (base : Nat) (e : TypeId) (i : TypeInfo) (z : Value) (size bytes : Nat) (h1 : P.underlying t = some (.slice e)) (h2 : P.info? e = some i) (h3 : i.zero = some z) (h4 : i.size = size) (h5 : i.bytes = bytes) (h6 : z.cells.size = size) (h7 : 0 < size)
    (v : Value) (k : Nat) (xs : List Value) (hs : a.eval s = v) (hown : QRow w base e size v k xs) (p : Option Addr) (m c : Nat) (ys : List Value) (hx : a.eval x = .slice p m c) (hn : Src w p m size ys)
    (h1c : ∀ u ∈ ys, u.oneCell' = true) (b1 : k + m ≤ maxLen) (b2 : (k + m) * bytes ≤ 140737488355328) (b3 : base ≤ w.heap.size)
    (hK : ∀ v' w', QRow w' base e size v' (k + m) (xs ++ ys) → w.grownBy w' v.ownBlock → (∀ k, v'.ownBlock = some k → v.ownBlock = some k ∨ w.heap.size ≤ k) → wpList P ops Q rest (a.put o.dst v') w') :
    wpList P ops Q (o :: rest) a w := by
  refine wpList_plain hgd fun K hK' => ?_
  obtain ⟨v', w', hr, r1, r2, r3⟩ := run_append_qq (P := P) w base t o.type e i z size bytes h1 h2 h3 h4 h5 h6 h7 v k xs hown p m c ys hn h1c b1 b2 b3
  unfold Oper.wp execOp
  simp only [ho, resolve, invoke, builtin, Sem.run_bind, Sem.run_pure, Result.andThen_ok, List.map_toArray, List.map_cons, List.map_nil, hs, hx, hr]
  exact hK' _ _ (hK v' w' r1 r2 r3)
end Go.Proofs.YtpknnjcbcndbbaaDoor
namespace Go.Proofs.YtpknnjcbcndbbaaDoor
open Go.RowKit Go.Shelf

set_option maxRecDepth 100000 in
set_option maxHeartbeats 2000000 in
theorem rfree_any (a p : Option Addr) (cap c : Nat) (ps : List (Int × Int)) (h : Nat → Int) (i : Nat) (x : Int) (w : World) (hm : ps.length ≤ 1099511627776) (hi : i < ps.length) (hg : Pairs w a ps) (hs : SrcI w p ps.length h) :
    Calls Tryd.prog 90 #[.slice a ps.length cap, .slice p ps.length c, .int .i64 (i : Int), .int .i64 x] w fun e w' => BoolP (FreeF ps h i x) e ∧ Below w.heap.size w w' := by
  have H := Lib.hid hs
  have HG := Lib.hid hg
  obtain ⟨len, HL⟩ : ∃ len, Hid (ps.length = len) := ⟨_, rfl⟩
  rw [HL.out] at hm H hi ⊢
  clear hs hg
  have hi0 : (0 : Int) ≤ (i : Int) := by omega
  have hil : (i : Int) < (len : Int) := by omega
  go_enter Tryd.func90, Tryd.ntmps90
  go_upto_region 2 with (fail)
  go_loopw [9] (fun s9 wr => ∃ k : Nat, k ≤ len ∧ s9 = .int .i64 (k : Int) ∧ Hid (∀ k', k' < k → k' ≠ i → ¬ (h k' = x ∧ meetB (qa ps k') (qa ps i) = true)) ∧ Hid (Below w.heap.size w wr)) (fun s9 _ => len - (intOf s9).toNat)
  case atStart => exact ⟨0, by omega, rfl, (fun k hk => by omega), Below.refl _ _⟩
  case round =>
    obtain ⟨k, hk, rfl, hp, hB⟩ := hrel
    by_cases hkl : k < len
    · have g1 : (k : Int) < (len : Int) := by omega
      have g0 : (0 : Int) ≤ (k : Int) := by omega
      obtain ⟨b, o, rfl, hb, hc⟩ := H.out (by omega)
      obtain ⟨eb, eo, rfl, heb, hec⟩ := HG.out (fun e => by rw [e] at HL; have := HL.out; simp at this; omega)
      have e1 := hec i (by rw [HL.out]; exact hi)
      have e2 := hec k (by rw [HL.out]; omega)
      have k1 := hc k hkl
      have hbr : b < wr.heap.size := Nat.lt_of_lt_of_le hb hB.out.size
      have hebr : eb < wr.heap.size := Nat.lt_of_lt_of_le heb hB.out.size
      have r0 : ∀ d : BW wr.heap.size wr, d.w.cell? ⟨b, o + k, none⟩ = some (.int .i64 (h k)) := fun d => d.cell hbr ((hB.out.cell (p := ⟨b, o + k, none⟩) hb).trans k1)
      have r2 : ∀ d : BW wr.heap.size wr, d.w.cell? ⟨eb, eo + i * 2, none⟩ = some (.int .i64 (qa ps i).1) := fun d => d.cell hebr ((hB.out.cell (p := ⟨eb, eo + i * 2, none⟩) heb).trans e1.1)
      have r3 : ∀ d : BW wr.heap.size wr, d.w.cell? ⟨eb, eo + i * 2 + 1, none⟩ = some (.int .i64 (qa ps i).2) := fun d => d.cell hebr ((hB.out.cell (p := ⟨eb, eo + i * 2 + 1, none⟩) heb).trans e1.2)
      have r4 : ∀ d : BW wr.heap.size wr, d.w.cell? ⟨eb, eo + k * 2, none⟩ = some (.int .i64 (qa ps k).1) := fun d => d.cell hebr ((hB.out.cell (p := ⟨eb, eo + k * 2, none⟩) heb).trans e2.1)
      have r5 : ∀ d : BW wr.heap.size wr, d.w.cell? ⟨eb, eo + k * 2 + 1, none⟩ = some (.int .i64 (qa ps k).2) := fun d => d.cell hebr ((hB.out.cell (p := ⟨eb, eo + k * 2 + 1, none⟩) heb).trans e2.2)
      have HME : Hid (∀ d : BW wr.heap.size wr, Calls Tryd.prog 57 #[.agg #[.int .i64 (qa ps k).1, .int .i64 (qa ps k).2], .agg #[.int .i64 (qa ps i).1, .int .i64 (qa ps i).2]] d.w fun e w' => e = .returned (.bool (meetB (qa ps k) (qa ps i))) ∧ ∃ d' : BW wr.heap.size wr, w' = d'.w) := fun d => Calls.bw ((meet_any _ _ d.w).mono fun e w' ⟨h1, h2⟩ => ⟨h1, d.b.trans (h2.mono d.b.size)⟩)
      have HNX : Hid ((k ≠ i → ¬ (h k = x ∧ meetB (qa ps k) (qa ps i) = true)) → ∀ k', k' < k + 1 → k' ≠ i → ¬ (h k' = x ∧ meetB (qa ps k') (qa ps i) = true)) := fun h k' hk' => by
        by_cases e : k' = k
        · subst e; exact h
        · exact hp.out k' (by omega)
      have HBAD : Hid (k ≠ i → h k = x → meetB (qa ps k) (qa ps i) = true → ¬ FreeF ps h i x) := fun h0 h1 h2 h => h k (by rw [HL.out]; exact hkl) h0 ⟨h1, h2⟩
      clear hc hec e1 e2 k1 hbr hebr
      obtain ⟨mb, hmb⟩ : ∃ mb, Hid (mb = meetB (qa ps k) (qa ps i)) := ⟨_, rfl⟩
      rw [← hmb.out] at HME HNX HBAD
      generalize (qa ps i).1 = x1 at *
      generalize (qa ps i).2 = x2 at *
      generalize (qa ps k).1 = y1 at *
      generalize (qa ps k).2 = y2 at *
      by_cases hki : k = i
      · have n1 : ((k : Int) != (i : Int)) = false := by rw [hki]; simp
        have HN := Lib.hid (HNX.out (fun h => absurd hki h))
        clear hki HBAD HNX
        generalize h k = hk0 at *
        go_upto_region 4 with (fail)
        refine wp_region_bw (by kernel_rfl) (by kernel_rfl) ?_
        repeat (go_big_quiet_step (rfl))
        refine wpQuiet_nil ?_
        rintro _ ⟨d, rfl⟩
        have HBD := Lib.hid (hB.out.trans (d.b.mono hB.out.size))
        clear r0 r2 r3 r4 r5 HME
        generalize d.w = Z at *
        go_wp2
        exact ⟨⟨k + 1, by omega, int_eq (by omega), HN, HBD⟩, by simp [intOf]; omega⟩
      · have n1 : ((k : Int) != (i : Int)) = true := by rw [bne_iff_ne]; omega
        have HKI := Lib.hid hki
        clear hki
        by_cases hff : h k = x
        · have e3 : (h k == x) = true := by rw [hff]; simp
          have HFF := Lib.hid hff
          clear hff
          generalize h k = hk0 at *
          go_upto_region 4 with (fail)
          refine wp_region_bw (by kernel_rfl) (by kernel_rfl) ?_
          repeat (go_big_quiet_step ((first
            | rfl
            | (go_at_call 57; exact HME.out _))))
          refine wpQuiet_nil ?_
          rintro _ ⟨d, rfl⟩
          have HBD := Lib.hid (hB.out.trans (d.b.mono hB.out.size))
          clear r0 r2 r3 r4 r5 HME
          generalize d.w = Z at *
          cases mb with
          | true =>
            have HN := Lib.hid (HBAD.out HKI.out HFF.out rfl)
            go_wp2
            go_ret
            exact ⟨BoolP.no HN.out, HBD.out⟩
          | false =>
            have HN := Lib.hid (HNX.out (fun _ h => by cases h.2))
            go_wp2
            exact ⟨⟨k + 1, by omega, int_eq (by omega), HN, HBD⟩, by simp [intOf]; omega⟩
        · have e3 : (h k == x) = false := by rw [beq_eq_false_iff_ne]; exact hff
          have HN := Lib.hid (HNX.out (fun _ h => hff h.1))
          clear hff HBAD HNX
          generalize h k = hk0 at *
          go_upto_region 4 with (fail)
          refine wp_region_bw (by kernel_rfl) (by kernel_rfl) ?_
          repeat (go_big_quiet_step (rfl))
          refine wpQuiet_nil ?_
          rintro _ ⟨d, rfl⟩
          have HBD := Lib.hid (hB.out.trans (d.b.mono hB.out.size))
          clear r0 r2 r3 r4 r5 HME
          generalize d.w = Z at *
          go_wp2
          exact ⟨⟨k + 1, by omega, int_eq (by omega), HN, HBD⟩, by simp [intOf]; omega⟩
    · have g1 : ¬ (k : Int) < (len : Int) := by omega
      have HP : Hid (FreeF ps h i x) := fun k' hk' => hp.out k' (by rw [HL.out] at hk'; omega)
      go_wp2
      go_ret
      exact ⟨BoolP.yes HP.out, hB.out⟩
end Go.Proofs.YtpknnjcbcndbbaaDoor
namespace Go.Proofs.YtpknnjcbcndbbaaDoor
open Go.RowKit Go.Shelf

theorem make_25b (n : Nat) (hn : n ≤ 1099511627776) : ∃ vs : Array Value, vs.size = n ∧ (∀ j, j < n → vs[j]? = some (.int .i64 0)) ∧
    ∀ W, Sem.run Tryd.prog (Instr.makeSlice 25 (.int .i64 (n : Int)) (.int .i64 (n : Int))) W = .ok (.slice (some ⟨W.heap.size, 0, none⟩) n n) (W.alloc (.cells vs 3)) := by
  obtain ⟨i0, hi, hz0, hz1, hz2⟩ := info_parts info3
  refine ⟨madeCells #[.int .i64 0] n, size_madeCells _ _, fun j hj => ?_, fun W => ?_⟩
  · rw [← Array.getElem?_toList, toList_madeCells_one, List.getElem?_replicate, if_pos hj]
  · have := run_make (P := Tryd.prog) W 25 3 i0 _ Tryd.underlying25 hi hz0 .i64 .i64 (n : Int) (n : Int) (by omega) (Int.le_refl _) (by rw [hz2]; omega) (by omega)
    rw [hz1, show (Value.int .i64 0).cells = #[.int .i64 0] from rfl] at this
    simpa using this
/-- a slice of lists of numbers -/
def ListsAt (W : World) (la : Option Addr) (m : Nat) (ls : Nat → List Nat) : Prop := m ≠ 0 → ∃ b o, la = some ⟨b, o, none⟩ ∧ b < W.heap.size ∧ ∀ i, i < m → ∃ p c, W.cell? ⟨b, o + i, none⟩ = some (.slice p (ls i).length c) ∧ SrcI W p (ls i).length (fun j => (nth (ls i) j : Nat))
theorem ListsAt.below {k : Nat} {w W : World} {la : Option Addr} {m : Nat} {ls : Nat → List Nat} (h : ListsAt w la m ls) (hB : Below k w W) (hk : w.heap.size ≤ k) : ListsAt W la m ls := fun h0 => by
  obtain ⟨b, o, e, h1, h2⟩ := h h0
  refine ⟨b, o, e, Nat.lt_of_lt_of_le h1 hB.size, fun i hi => ?_⟩
  obtain ⟨p, c, h3, h4⟩ := h2 i hi
  exact ⟨p, c, (hB.cell (p := ⟨b, o + i, none⟩) (Nat.lt_of_lt_of_le h1 hk)).trans h3, h4.below hB hk⟩
/-- the values of a row -/
def ivI (h : Nat → Int) (m : Nat) : List Value := (List.range m).map fun j => .int .i64 (h j)
theorem ivI_get (h : Nat → Int) (m : Nat) : ∀ j, j < m → (ivI h m)[j]? = some (.int .i64 (h j)) := fun j hj => by
  unfold ivI; rw [List.getElem?_map, List.getElem?_range hj]; rfl
theorem ivI_len (h : Nat → Int) (m : Nat) : (ivI h m).length = m := by simp [ivI]
theorem ivI_one (h : Nat → Int) (m : Nat) : ∀ u ∈ ivI h m, u.oneCell' = true := fun u hu => by
  obtain ⟨j, _, rfl⟩ := List.mem_map.1 hu; rfl
theorem SrcI.src {w : World} {p : Option Addr} {m : Nat} {h : Nat → Int} (hs : SrcI w p m h) : Src w p m 1 (ivI h m) := by
  refine ⟨by rw [ivI_len, Nat.mul_one], fun hm => ?_⟩
  obtain ⟨b, o, rfl, _, hc⟩ := hs hm
  refine ⟨_, rfl, fun j u hu => ?_⟩
  have hj := (List.getElem?_eq_some_iff.1 hu).1
  rw [ivI_len] at hj
  rw [ivI_get h m j hj] at hu
  cases hu
  rw [Addr.add_lit]; exact hc j hj
/-- the best edge among the first k without a hue -/
def BestF (h : Nat → Int) (k : Nat) (b f : Int) : Prop := (b = -1 ∧ f = 1000 ∧ ∀ j, j < k → 0 ≤ h j) ∨ ∃ i : Nat, i < k ∧ b = (i : Int) ∧ h i < 0
theorem BestF.pass {h : Nat → Int} {k : Nat} {b f : Int} (H : BestF h k b f) (hk : 0 ≤ h k) : BestF h (k + 1) b f := by
  rcases H with ⟨h1, h2, h3⟩ | ⟨i, h1, h2⟩
  · refine .inl ⟨h1, h2, fun j hj => ?_⟩
    by_cases e : j = k
    · rw [e]; exact hk
    · exact h3 j (by omega)
  · exact .inr ⟨i, by omega, h2⟩
theorem BestF.leave {h : Nat → Int} {k : Nat} {b f : Int} {l : Nat} (H : BestF h k b f) (hl : l ≤ 64) (hn : ¬ (l : Int) < f) : BestF h (k + 1) b f := by
  rcases H with ⟨h1, h2, h3⟩ | ⟨i, h1, h2⟩
  · omega
  · exact .inr ⟨i, by omega, h2⟩
theorem BestF.new {h : Nat → Int} {k : Nat} (f : Int) (hk : h k < 0) : BestF h (k + 1) (k : Int) f := .inr ⟨k, by omega, rfl, hk⟩
set_option maxRecDepth 100000 in
set_option maxHeartbeats 8000000 in
theorem painted_any {a la : Option Addr} {cap lc : Nat} {ps : List (Int × Int)} {ls : Nat → List Nat} (hm : ps.length ≤ 1099511627776) (hls : ∀ i, (ls i).length ≤ 64) : ∀ (m : Nat) (W : World) (p : Option Addr) (c : Nat) (h : Nat → Int), unh ps.length h < m → PreF ps ls h → Pairs W a ps → ListsAt W la ps.length ls → SrcI W p ps.length h →
    Calls Tryd.prog 68 #[.slice a ps.length cap, .slice la ps.length lc, .slice p ps.length c] W fun e w' => BoolP (ExtF ps ls h) e ∧ Below W.heap.size W w' := by
  intro m
  induction m with
  | zero => intro W p c h hu; omega
  | succ m ih =>
    intro W p c h hu hP hE hL hS
    obtain ⟨i0, hi, hz0, hz1, hz2⟩ := info_parts info3
    have IH : Hid (∀ (W : World) (p : Option Addr) (c : Nat) (h2 : Nat → Int), unh ps.length h2 < unh ps.length h → PreF ps ls h2 → Pairs W a ps → ListsAt W la ps.length ls → SrcI W p ps.length h2 →
        Calls Tryd.prog 68 #[.slice a ps.length cap, .slice la ps.length lc, .slice p ps.length c] W fun e w' => BoolP (ExtF ps ls h2) e ∧ Below W.heap.size W w') := fun W p c h2 h3 h4 h5 h6 h7 => ih W p c h2 (by omega) h4 h5 h6 h7
    have HP := Lib.hid hP
    have HE := Lib.hid hE
    have HL := Lib.hid hL
    have HS := Lib.hid hS
    have HLS := Lib.hid hls
    have HFR : Hid (∀ (i : Nat) (x : Int) W', i < ps.length → Below W.heap.size W W' → Calls Tryd.prog 90 #[.slice a ps.length cap, .slice p ps.length c, .int .i64 (i : Int), .int .i64 x] W' fun e w' => BoolP (FreeF ps h i x) e ∧ Below W'.heap.size W' w') := fun i x W' hi hB => rfree_any a p cap c ps h i x W' hm hi (hE.below hB (Nat.le_refl _)) (hS.below hB (Nat.le_refl _))
    obtain ⟨len, HLE⟩ : ∃ len, Hid (ps.length = len) := ⟨_, rfl⟩
    rw [HLE.out] at hm IH HL HS HFR ⊢
    clear hP hE hL hS hu hls
    go_enter Tryd.func68, Tryd.ntmps68
    go_upto_region 3 with (fail)
    go_loopw [7, 8, 9] (fun s7 s8 s9 wr => ∃ (k : Nat) (bi fw : Int), k ≤ len ∧ s9 = .int .i64 (k : Int) ∧ s7 = .int .i64 bi ∧ s8 = .int .i64 fw ∧ Hid (BestF h k bi fw) ∧ Hid (Below W.heap.size W wr)) (fun _ _ s9 _ => len - (intOf s9).toNat)
    case atStart => exact ⟨0, -1, 1000, by omega, rfl, rfl, rfl, .inl ⟨rfl, rfl, fun j hj => by omega⟩, Below.refl _ _⟩
    case round =>
      obtain ⟨k, bi, fw, hk, rfl, rfl, rfl, hbi, hB⟩ := hrel
      by_cases hkl : k < len
      · have g1 : (k : Int) < (len : Int) := by omega
        have g0 : (0 : Int) ≤ (k : Int) := by omega
        obtain ⟨b, o, ep, hb, hc⟩ := HS.out (by omega)
        have k1 := (hB.out.cell (p := ⟨b, o + k, none⟩) hb).trans (hc k hkl)
        subst ep
        clear hc
        by_cases hneg : 0 ≤ h k
        · have HN := Lib.hid (hbi.out.pass hneg)
          obtain ⟨z, hz⟩ : ∃ z, Hid (z = h k) := ⟨_, rfl⟩
          rw [← hz.out] at k1 hneg
          go_wp2
          exact ⟨⟨k + 1, bi, fw, by omega, int_eq (by omega), rfl, rfl, HN, hB⟩, by simp [intOf]; omega⟩
        · have HNW := Lib.hid (fun f => BestF.new (h := h) (k := k) f (by omega))
          have hlk := HLS.out k
          obtain ⟨z, hz⟩ : ∃ z, Hid (z = h k) := ⟨_, rfl⟩
          rw [← hz.out] at k1 hneg
          obtain ⟨lm, hlm⟩ : ∃ lm, Hid (lm = (ls k).length) := ⟨_, rfl⟩
          rw [← hlm.out] at hlk
          go_upto_region 8 with (fail)
          clear k1
          go_loopw [10, 11] (fun s10 s11 wr2 => ∃ (kk cnt : Nat), kk ≤ lm ∧ cnt ≤ kk ∧ s11 = .int .i64 (kk : Int) ∧ s10 = .int .i64 (cnt : Int) ∧ Hid (Below W.heap.size W wr2)) (fun _ s11 _ => 64 - (intOf s11).toNat)
          case atStart => exact ⟨0, 0, by omega, by omega, rfl, rfl, hB⟩
          case round =>
            obtain ⟨kk, cnt, hkk, hcnt, rfl, rfl, hB2⟩ := hrel
            obtain ⟨lb, lo, ela, hlb, hlc⟩ := HL.out (by omega)
            obtain ⟨p2, c2, hc1, hc2⟩ := hlc k hkl
            subst ela
            rw [← hlm.out] at hc1 hc2
            have k2 := (hB2.out.cell (p := ⟨lb, lo + k, none⟩) hlb).trans hc1
            clear hlc hc1
            by_cases hkm : kk < lm
            · obtain ⟨qb, qo, ep2, hqb, hqc⟩ := hc2 (by omega)
              subst ep2
              have k3 : wr.cell? ⟨qb, qo + kk, none⟩ = some (.int .i64 (nth (ls k) kk : Nat)) := (hB2.out.cell (p := ⟨qb, qo + kk, none⟩) hqb).trans (hqc kk hkm)
              have g2 : (kk : Int) < (lm : Int) := by omega
              have g3 : (0 : Int) ≤ (kk : Int) := by omega
              obtain ⟨x, hx⟩ : ∃ x, Hid (x = nth (ls k) kk) := ⟨_, rfl⟩
              rw [← hx.out] at k3
              have HF := Lib.hid (HFR.out k (x : Int) _ hkl hB2.out)
              clear hqc hc2
              go_upto_if 45 with (go_at_call 90; refine (HF.out).mono ?_; rintro e w5 ⟨⟨b5, rfl, -⟩, hB5⟩; have HB5 := Lib.hid (hB2.out.trans (hB5.mono hB2.out.size)); clear hB5)
              cases b5 with
              | true =>
                go_wp2
                exact ⟨⟨kk + 1, cnt + 1, by omega, by omega, int_eq (by omega), int_eq (by omega), HB5⟩, by simp [intOf]; omega⟩
              | false =>
                go_wp2
                exact ⟨⟨kk + 1, cnt, by omega, by omega, int_eq (by omega), rfl, HB5⟩, by simp [intOf]; omega⟩
            · have g2 : ¬ (kk : Int) < (lm : Int) := by omega
              clear hc2
              by_cases hcf : (cnt : Int) < fw
              · have HN := Lib.hid (HNW.out (cnt : Int))
                go_wp2
                exact ⟨⟨k + 1, _, _, by omega, int_eq (by omega), rfl, rfl, HN, hB2⟩, by simp [intOf]; omega⟩
              · have HN := Lib.hid (hbi.out.leave (l := cnt) (by omega) hcf)
                go_wp2
                exact ⟨⟨k + 1, bi, fw, by omega, int_eq (by omega), rfl, rfl, HN, hB2⟩, by simp [intOf]; omega⟩
      · have g1 : ¬ (k : Int) < (len : Int) := by omega
        have hke : k = len := by omega
        rw [hke] at hbi
        rcases hbi.out with ⟨rfl, hf, hall⟩ | ⟨i, hi', rfl, hneg⟩
        · have HD := Lib.hid (HP.out.done (by rw [HLE.out]; exact hall))
          clear hall hf hke
          go_wp2
          go_ret
          exact ⟨BoolP.yes HD.out, hB.out⟩
        · have hil : i < len := by omega
          have hneg2 := Lib.hid hneg
          have i1 : (i : Int) < (len : Int) := by omega
          have i2 : (0 : Int) ≤ (i : Int) := by omega
          have i3 : ¬ (i : Int) < 0 := by omega
          have hlk := HLS.out i
          obtain ⟨lm, hlm⟩ : ∃ lm, Hid (lm = (ls i).length) := ⟨_, rfl⟩
          rw [← hlm.out] at hlk
          clear hneg hke hbi
          go_upto_region 18 with (fail)
          go_loopw [12] (fun s12 wr2 => ∃ kk : Nat, kk ≤ lm ∧ s12 = .int .i64 (kk : Int) ∧ Hid (∀ j, j < kk → FreeF ps h i (nth (ls i) j : Nat) → ¬ ExtF ps ls (setI h i (nth (ls i) j : Nat))) ∧ Hid (Below W.heap.size W wr2)) (fun s12 _ => 100 - (intOf s12).toNat)
          case atStart => exact ⟨0, by omega, rfl, (fun j hj => by omega), hB⟩
          case round =>
            obtain ⟨kk, hkk, rfl, hno, hB2⟩ := hrel
            obtain ⟨lb, lo, ela, hlb, hlc⟩ := HL.out (by omega)
            obtain ⟨p2, c2, hc1, hc2⟩ := hlc i hil
            subst ela
            rw [← hlm.out] at hc1 hc2
            have k2 := (hB2.out.cell (p := ⟨lb, lo + i, none⟩) hlb).trans hc1
            clear hlc hc1
            by_cases hkm : kk < lm
            · obtain ⟨qb, qo, ep2, hqb, hqc⟩ := hc2 (by omega)
              subst ep2
              have k3 : wr.cell? ⟨qb, qo + kk, none⟩ = some (.int .i64 (nth (ls i) kk : Nat)) := (hB2.out.cell (p := ⟨qb, qo + kk, none⟩) hqb).trans (hqc kk hkm)
              have g2 : (kk : Int) < (lm : Int) := by omega
              have g3 : (0 : Int) ≤ (kk : Int) := by omega
              have HMX : Hid (nth (ls i) kk ∈ ls i) := by
                unfold Hid nth
                rw [List.getElem?_eq_getElem (by rw [← hlm.out]; exact hkm)]
                exact List.getElem_mem _
              have HNX : Hid ((FreeF ps h i (nth (ls i) kk : Nat) → ¬ ExtF ps ls (setI h i (nth (ls i) kk : Nat))) → ∀ j, j < kk + 1 → FreeF ps h i (nth (ls i) j : Nat) → ¬ ExtF ps ls (setI h i (nth (ls i) j : Nat))) := fun hh j hj => by
                by_cases e : j = kk
                · subst e; exact hh
                · exact hno.out j (by omega)
              obtain ⟨x, hx⟩ : ∃ x, Hid (x = nth (ls i) kk) := ⟨_, rfl⟩
              rw [← hx.out] at k3 HMX HNX
              have HF := Lib.hid (HFR.out i (x : Int) _ hil hB2.out)
              clear hqc hc2
              go_upto_if 76 with (go_at_call 90; refine (HF.out).mono ?_; rintro e w5 ⟨⟨b5, rfl, hb5⟩, hB5⟩; have HB5 := Lib.hid (hB2.out.trans (hB5.mono hB2.out.size)); have HF5 := Lib.hid hb5; clear hB5 hb5)
              cases b5 with
              | false =>
                have HN : Hid (∀ j, j < kk + 1 → FreeF ps h i (nth (ls i) j : Nat) → ¬ ExtF ps ls (setI h i (nth (ls i) j : Nat))) := HNX.out fun hf => absurd (HF5.out.2 hf) (by simp)
                go_wp2
                exact ⟨⟨kk + 1, by omega, int_eq (by omega), HN, HB5⟩, by simp [intOf]; omega⟩
              | true =>
                have HFF : Hid (FreeF ps h i (x : Int)) := HF5.out.1 rfl
                have hsz5 := HB5.out.size
                obtain ⟨b, o, ep, hb, hc⟩ := HS.out (by omega)
                subst ep
                have HSW := Lib.hid ((HS.out.below HB5.out (Nat.le_refl _)).src)
                have HONE := Lib.hid (ivI_one h len)
                clear hc k2 k3
                go_upto_region 24 with (at_builtin; go_must (refine wpList_append_qq _ rfl (.tmp 77) (.tmp 78) 25 rfl w5.heap.size 3 i0 (.int .i64 0) 1 8 Tryd.underlying25 hi hz0 hz1 hz2 rfl (by decide) _ 0 [] rfl (QRow.nil _ _ _ _) (some ⟨b, o, none⟩) len c (ivI h len) rfl HSW.out HONE.out (by unfold maxLen; omega) (by omega) (Nat.le_refl _) ?_); intro v6 w6 hq6 hg6 ho6; have HB6 : Hid (Below w5.heap.size w5 w6) := Below.grown (Below.refl _ w5) hg6 (Nat.le_refl _) (fun kk e => by cases e); have HQ6 : Hid (QRow w6 w5.heap.size 3 1 v6 len (ivI h len)) := (by rw [Nat.zero_add, List.nil_append] at hq6; exact hq6); clear hq6 hg6 ho6)
                obtain ⟨g6, o6, c6, e6, hb6, hl6, hn6, hm6, hc6, hf6⟩ := HQ6.out.at (by omega)
                subst e6
                have hf7 := hf6 (o6 + i)
                have hc7 := (hc6 i (by omega)).trans (ivI_get h len i hil)
                have HB7 : Hid (Below w5.heap.size w5 (w6.setCell ⟨g6, o6 + i, none⟩ (.int .i64 (x : Int)))) := HB6.out.setCell (p := ⟨g6, o6 + i, none⟩) hb6 _
                have HQ7 := Lib.hid (HQ6.out.set i (by omega) (.int .i64 (x : Int)))
                have HS7 : Hid (SrcI (w6.setCell ⟨g6, o6 + i, none⟩ (.int .i64 (x : Int))) (some ⟨g6, o6, none⟩) len (setI h i (x : Int))) := HQ7.out.srcI fun j hj => by
                  unfold setI
                  by_cases e : j = i
                  · subst e; rw [if_pos rfl, List.getElem?_set_self (by rw [ivI_len]; exact hj)]
                  · rw [if_neg e, List.getElem?_set_ne (fun h => e h.symm)]; exact ivI_get h len j hj
                have hBW := HB5.out.trans (HB7.out.mono HB5.out.size)
                have HBW := Lib.hid hBW
                have HRC := Lib.hid (IH.out (w6.setCell ⟨g6, o6 + i, none⟩ (.int .i64 (x : Int))) (some ⟨g6, o6, none⟩) c6 (setI h i (x : Int)) (unh_set hil hneg2.out x) (HP.out.step (by rw [HLE.out]; exact hil) HMX.out HFF.out) (HE.out.below hBW (Nat.le_refl _)) (HL.out.below hBW (Nat.le_refl _)) HS7.out)
                clear hc6 hf6 hBW
                go_upto_if 87 with (go_at_call 68; refine (HRC.out).mono ?_; rintro e w8 ⟨⟨b8, rfl, hb8⟩, hB8⟩; have HB8 := Lib.hid (HBW.out.trans (hB8.mono HBW.out.size)); have HX8 := Lib.hid hb8; clear hB8 hb8)
                cases b8 with
                | true =>
                  have HD : Hid (ExtF ps ls h) := (HX8.out.1 rfl).back hneg2.out
                  go_wp2
                  go_ret
                  exact ⟨BoolP.yes HD.out, HB8.out⟩
                | false =>
                  have HN : Hid (∀ j, j < kk + 1 → FreeF ps h i (nth (ls i) j : Nat) → ¬ ExtF ps ls (setI h i (nth (ls i) j : Nat))) := HNX.out fun _ hE => absurd (HX8.out.2 hE) (by simp)
                  go_wp2
                  exact ⟨⟨kk + 1, by omega, int_eq (by omega), HN, HB8⟩, by simp [intOf]; omega⟩
            · have g2 : ¬ (kk : Int) < (lm : Int) := by omega
              have HNE : Hid (¬ ExtF ps ls h) := fun hE => by
                obtain ⟨x, hx, hf, hx2⟩ := hE.step (by rw [HLE.out]; exact hil) hneg2.out
                obtain ⟨j, hj, rfl⟩ := List.getElem_of_mem hx
                have e : nth (ls i) j = (ls i)[j] := by unfold nth; rw [List.getElem?_eq_getElem hj]; rfl
                refine hno.out j (by rw [← hlm.out] at hj; omega) ?_ ?_
                · rw [e]; exact hf
                · rw [e]; exact hx2
              clear hc2
              go_wp2
              go_ret
              exact ⟨BoolP.no HNE.out, hB2.out⟩
set_option maxRecDepth 100000 in
set_option maxHeartbeats 2000000 in
theorem rsome_any {a la : Option Addr} {cap lc : Nat} {ps : List (Int × Int)} {ls : Nat → List Nat} (hm : ps.length ≤ 1099511627776) (hls : ∀ i, (ls i).length ≤ 64) (w : World) (hE : Pairs w a ps) (hL : ListsAt w la ps.length ls) :
    Calls Tryd.prog 40 #[.slice a ps.length cap, .slice la ps.length lc] w fun e w' => BoolP (∃ f, FamF ps ls f) e ∧ Below w.heap.size w w' := by
  obtain ⟨vs0, hv1, hv2, HMK⟩ := make_25b ps.length hm
  have HV1 := Lib.hid hv1
  have HV2 := Lib.hid hv2
  have HP : Hid (∀ W p c, Below w.heap.size w W → SrcI W p ps.length (fun _ => -1) → Calls Tryd.prog 68 #[.slice a ps.length cap, .slice la ps.length lc, .slice p ps.length c] W fun e w' => BoolP (∃ f, FamF ps ls f) e ∧ Below W.heap.size W w') := fun W p c hB hS => by
    have := painted_any (cap := cap) (lc := lc) hm hls (unh ps.length (fun _ => -1) + 1) W p c (fun _ => -1) (by omega) (PreF.start ps ls) (hE.below hB (Nat.le_refl _)) (hL.below hB (Nat.le_refl _)) hS
    refine this.mono ?_
    rintro e w' ⟨⟨b, h1, h2⟩, h3⟩
    exact ⟨⟨b, h1, h2.trans ExtF.start⟩, h3⟩
  clear hE hL hv1 hv2
  obtain ⟨len, HLE⟩ : ∃ len, Hid (ps.length = len) := ⟨_, rfl⟩
  rw [HLE.out] at hm HMK HV1 HV2 HP ⊢
  go_enter Tryd.func40, Tryd.ntmps40
  go_upto_region 3 with (fail)
  obtain ⟨b, hb⟩ : ∃ b, Hid (b = w.heap.size) := ⟨_, rfl⟩
  have hR0 : RowB (w.alloc (.cells vs0 3)) b len (fun _ => 0) := ⟨vs0, BoxN.new hb.out, HV1.out, fun j hj => HV2.out j hj⟩
  have hBV : Below w.heap.size w (w.alloc (.cells vs0 3)) := (Below.refl _ _).alloc (Nat.le_refl _) _
  rw [← hb.out]
  generalize (w.alloc (.cells vs0 3)) = V at *
  have HR0 := Lib.hid hR0
  have HBV := Lib.hid hBV
  clear hR0 hBV HMK
  go_loopw [6] (fun s6 wr => ∃ j : Nat, j ≤ len ∧ s6 = .int .i64 (j : Int) ∧ Hid (RowB wr b len (fun v => if v < j then -1 else 0)) ∧ Hid (Below w.heap.size w wr)) (fun s6 _ => len - (intOf s6).toNat)
  case atStart => exact ⟨0, by omega, rfl, HR0.out.congr fun x _ => by simp, HBV⟩
  case round =>
    obtain ⟨j, hj, rfl, hR, hB⟩ := hrel
    by_cases hjn : j < len
    · have h1 : (j : Int) < (len : Int) := by omega
      have h2 : (0 : Int) ≤ (j : Int) := by omega
      have hf := hR.out.frozen j
      have hc := hR.out.cell hjn
      have HRN : Hid (RowB (wr.setCell ⟨b, j, none⟩ (.int .i64 (-1))) b len (fun v => if v < j + 1 then -1 else 0)) := (hR.out.set hjn (-1)).congr fun x _ => by
        by_cases e : x = j
        · subst e; simp
        · rw [if_neg e]
          by_cases h : x < j
          · rw [if_pos h, if_pos (by omega)]
          · rw [if_neg h, if_neg (by omega)]
      have HAN := Lib.hid (hB.out.setCell (p := ⟨b, j, none⟩) (by simp [hb.out]) (.int .i64 (-1)))
      go_wp2
      exact ⟨⟨j + 1, by omega, int_eq (by omega), HRN, HAN⟩, by simp [intOf]; omega⟩
    · have h1 : ¬ (j : Int) < (len : Int) := by omega
      have hRL : RowB wr b len (fun _ => -1) := hR.out.congr fun x hx => by rw [if_pos (by omega)]
      have HS : Hid (SrcI wr (some ⟨b, 0, none⟩) len (fun _ => -1)) := fun _ => ⟨b, 0, rfl, hRL.lt, fun j hj => by rw [Nat.zero_add]; exact hRL.cell hj⟩
      have HC := Lib.hid (HP.out wr (some ⟨b, 0, none⟩) len hB.out HS.out)
      clear hRL
      go_wp2_with (go_at_call 68; refine (HC.out).mono ?_; rintro e w8 ⟨⟨b8, rfl, hb8⟩, hB8⟩; have HB8 := Lib.hid (hB.out.trans (hB8.mono hB.out.size)); have HX8 := Lib.hid hb8; clear hB8 hb8)
      go_ret
      exact ⟨⟨b8, rfl, HX8.out⟩, HB8.out⟩
end Go.Proofs.YtpknnjcbcndbbaaDoor
namespace Go.Proofs.YtpknnjcbcndbbaaDoor
open Go.RowKit

theorem szTo_or (a s y : Nat) : ∀ k, szTo ((a ||| pw y) &&& s) k ≤ szTo (a &&& s) k + (if y < k ∧ s.testBit y = true then 1 else 0)
  | 0 => by simp [szTo]
  | k + 1 => by
    have ih := szTo_or a s y k
    have e1 : szTo ((a ||| pw y) &&& s) (k + 1) = szTo ((a ||| pw y) &&& s) k + tb ((a ||| pw y) &&& s) k := rfl
    have e2 : szTo (a &&& s) (k + 1) = szTo (a &&& s) k + tb (a &&& s) k := rfl
    rw [e1, e2]
    unfold tb
    rw [Nat.testBit_and, Nat.testBit_and, Nat.testBit_or, pw, Nat.testBit_two_pow]
    by_cases hy : y = k
    · subst hy
      rw [if_neg (by omega)] at ih
      have hp : pw y = 2 ^ y := rfl
      rw [hp] at ih
      cases hs : s.testBit y with
      | true => rw [if_pos ⟨by omega, rfl⟩]; cases a.testBit y <;> simp <;> omega
      | false => simp; omega
    · have hd : decide (y = k) = false := decide_eq_false hy
      rw [hd, Bool.or_false]
      have hp : pw y = 2 ^ y := rfl
      rw [hp] at ih
      by_cases hlt : y < k
      · by_cases hs : s.testBit y = true
        · rw [if_pos ⟨hlt, hs⟩] at ih; rw [if_pos ⟨by omega, hs⟩]; omega
        · rw [if_neg (fun h => hs h.2)] at ih; rw [if_neg (fun h => hs h.2)]; omega
      · rw [if_neg (fun h => hlt h.1)] at ih; rw [if_neg (by omega)]; omega
theorem size_or (a s y : Nat) : size ((a ||| pw y) &&& s) ≤ size (a &&& s) + (if s.testBit y = true then 1 else 0) := by
  have := szTo_or a s y 64
  unfold size
  refine Nat.le_trans this (Nat.add_le_add_left ?_ _)
  split
  · rename_i h; rw [if_pos h.2]; exact Nat.le_refl _
  · exact Nat.zero_le _
theorem wtn_addE (g : List Nat) (x y s v : Nat) (hxy : x ≠ y) (hx : x < g.length) (hy : y < g.length) : wtn (addE g x y) v s ≤ wtn g v s + (if (v = x ∧ s.testBit y = true) ∨ (v = y ∧ s.testBit x = true) then 1 else 0) := by
  unfold wtn
  rw [addE_at g x y v hxy hx hy]
  by_cases e1 : v = x
  · subst e1
    rw [if_pos rfl]
    refine Nat.le_trans (size_or _ _ _) (Nat.add_le_add_left ?_ _)
    split
    · rename_i h; rw [if_pos (.inl ⟨rfl, h⟩)]; exact Nat.le_refl _
    · exact Nat.zero_le _
  · rw [if_neg e1]
    by_cases e2 : v = y
    · subst e2
      rw [if_pos rfl]
      refine Nat.le_trans (size_or _ _ _) (Nat.add_le_add_left ?_ _)
      split
      · rename_i h; rw [if_pos (.inr ⟨rfl, h⟩)]; exact Nat.le_refl _
      · exact Nat.zero_le _
    · rw [if_neg e2]; exact Nat.le_add_right _ _
def both (s x y : Nat) : Nat := if s.testBit x = true ∧ s.testBit y = true then 1 else 0
theorem sumW_addE (g : List Nat) (x y s : Nat) (hxy : x ≠ y) (hx : x < g.length) (hy : y < g.length) : ∀ k, sumW (addE g x y) s k ≤ sumW g s k + (if x < k then both s x y else 0) + (if y < k then both s x y else 0)
  | 0 => by simp [sumW]
  | k + 1 => by
    have ih := sumW_addE g x y s hxy hx hy k
    cases hs : s.testBit k with
    | false =>
      rw [sumW_no hs, sumW_no hs]
      refine Nat.le_trans ih ?_
      have h1 : (if x < k then both s x y else 0) ≤ (if x < k + 1 then both s x y else 0) := by
        split
        · rw [if_pos (by omega)]; exact Nat.le_refl _
        · exact Nat.zero_le _
      have h2 : (if y < k then both s x y else 0) ≤ (if y < k + 1 then both s x y else 0) := by
        split
        · rw [if_pos (by omega)]; exact Nat.le_refl _
        · exact Nat.zero_le _
      omega
    | true =>
      rw [sumW_yes hs, sumW_yes hs]
      have hw := wtn_addE g x y s k hxy hx hy
      by_cases e1 : k = x
      · subst e1
        rw [if_neg (by omega)] at ih
        rw [if_pos (by omega)]
        have h2 : (if y < k then both s k y else 0) ≤ (if y < k + 1 then both s k y else 0) := by
          split
          · rw [if_pos (by omega)]; exact Nat.le_refl _
          · exact Nat.zero_le _
        have h3 : (if (k = k ∧ s.testBit y = true) ∨ (k = y ∧ s.testBit k = true) then 1 else 0) ≤ both s k y := by
          unfold both
          split
          · rename_i h
            rcases h with h | h
            · rw [if_pos ⟨hs, h.2⟩]; exact Nat.le_refl _
            · exact absurd h.1 hxy
          · exact Nat.zero_le _
        omega
      · by_cases e2 : k = y
        · subst e2
          rw [show (if k < k then both s x k else 0) = 0 from if_neg (by omega)] at ih
          rw [show (if k < k + 1 then both s x k else 0) = both s x k from if_pos (by omega)]
          have h2 : (if x < k then both s x k else 0) ≤ (if x < k + 1 then both s x k else 0) := by
            split
            · rw [if_pos (by omega)]; exact Nat.le_refl _
            · exact Nat.zero_le _
          have h3 : (if (k = x ∧ s.testBit k = true) ∨ (k = k ∧ s.testBit x = true) then 1 else 0) ≤ both s x k := by
            unfold both
            split
            · rename_i h
              rcases h with h | h
              · exact absurd h.1 e1
              · rw [if_pos ⟨h.2, hs⟩]; exact Nat.le_refl _
            · exact Nat.zero_le _
          omega
        · rw [if_neg (by rintro (h | h); exact e1 h.1; exact e2 h.1)] at hw
          have h1 : (if x < k then both s x y else 0) ≤ (if x < k + 1 then both s x y else 0) := by
            split
            · rw [if_pos (by omega)]; exact Nat.le_refl _
            · exact Nat.zero_le _
          have h2 : (if y < k then both s x y else 0) ≤ (if y < k + 1 then both s x y else 0) := by
            split
            · rw [if_pos (by omega)]; exact Nat.le_refl _
            · exact Nat.zero_le _
          omega
/-- the edges within a set -/
def cntE (s : Nat) (ps : List (Int × Int)) : Nat := (ps.map fun e => both s e.1.toNat e.2.toNat).sum
theorem sumW_zero (n s : Nat) : ∀ k, sumW (List.replicate n 0) s k = 0
  | 0 => rfl
  | k + 1 => by
    have e : wtn (List.replicate n 0) k s = 0 := by
      unfold wtn
      have : (List.replicate n 0)[k]?.getD 0 = 0 := by rw [List.getElem?_replicate]; split <;> rfl
      rw [this, Nat.zero_and]; decide +kernel
    have ih := sumW_zero n s k
    cases hs : s.testBit k with
    | false => rw [sumW_no hs, ih]
    | true => rw [sumW_yes hs, ih, e]
theorem sumW_fold (s k : Nat) : ∀ (ps : List (Int × Int)) (g : List Nat), (∀ e ∈ ps, 0 ≤ e.1 ∧ e.1 < e.2 ∧ e.2 < (g.length : Int)) → sumW (ps.foldl (fun g e => addE g e.1.toNat e.2.toNat) g) s k ≤ sumW g s k + 2 * cntE s ps
  | [], _, _ => by simp [cntE]
  | e :: ps, g, h => by
    have he := h e List.mem_cons_self
    have ih := sumW_fold s k ps (addE g e.1.toNat e.2.toNat) (fun e' h' => by rw [addE_length]; exact h e' (List.mem_cons_of_mem _ h'))
    have h1 := sumW_addE g e.1.toNat e.2.toNat s (by omega) (by omega) (by omega) k
    rw [List.foldl_cons]
    have h2 : cntE s (e :: ps) = both s e.1.toNat e.2.toNat + cntE s ps := by simp [cntE]
    have h3 : (if e.1.toNat < k then both s e.1.toNat e.2.toNat else 0) ≤ both s e.1.toNat e.2.toNat := by split <;> omega
    have h4 : (if e.2.toNat < k then both s e.1.toNat e.2.toNat else 0) ≤ both s e.1.toNat e.2.toNat := by split <;> omega
    omega
theorem sumW_le_cnt {n : Nat} {ps : List (Int × Int)} (h : edgesB n ps = true) (s : Nat) : sumW (ofE n ps) s n ≤ 2 * cntE s ps := by
  have := sumW_fold s n ps (List.replicate n 0) (fun e he => by rw [List.length_replicate]; exact edgesB_mem h e he)
  rw [sumW_zero, Nat.zero_add] at this
  exact this
theorem over_cnt {n d s : Nat} {ps : List (Int × Int)} (h : edgesB n ps = true) (ho : Over (ofE n ps) n d s) : d * (size s / 2) < cntE s ps := by
  obtain ⟨h1, h2⟩ := ho
  have h3 := sumW_le_cnt h s
  have h4 : size s - 1 = size s / 2 * 2 := by omega
  rw [h4, ← Nat.mul_assoc] at h2
  omega
theorem dgTo_at (g : List Nat) : ∀ k, 1 ≤ k → ∃ v, v < k ∧ size (g[v]?.getD 0) = dgTo g k
  | 1, _ => ⟨0, by omega, by simp [dgTo]⟩
  | k + 2, _ => by
    obtain ⟨v, h1, h2⟩ := dgTo_at g (k + 1) (by omega)
    rcases Nat.le_total (size (g[k + 1]?.getD 0)) (dgTo g (k + 1)) with h | h
    · refine ⟨v, by omega, ?_⟩
      rw [h2]
      show _ = max (dgTo g (k + 1)) (size (g[k + 1]?.getD 0))
      rw [Nat.max_eq_left h]
    · refine ⟨k + 1, by omega, ?_⟩
      show _ = max (dgTo g (k + 1)) (size (g[k + 1]?.getD 0))
      rw [Nat.max_eq_right h]
end Go.Proofs.YtpknnjcbcndbbaaDoor
namespace Go.Proofs.YtpknnjcbcndbbaaDoor
open Go.RowKit Go.Shelf

theorem info25 : (Tryd.prog.info? 25).map (fun i => (i.zero, i.size, i.bytes)) = some (some (.slice none 0 0), 1, 24) := by kernel_rfl
theorem QRow.ne {W : World} {base base' : Nat} {e e' : TypeId} {s s' : Nat} {v v' : Value} {n n' : Nat} {xs xs' : List Value} (h : QRow W base e s v n xs) (h' : QRow W base' e' s' v' n' xs') (hne : e ≠ e') : ∀ k, v.ownBlock = some k → v'.ownBlock ≠ some k := fun k hk hk' => by
  rcases h.2 with ⟨rfl, _⟩ | ⟨g, o, cap, cur, rfl, _, e3, _⟩
  · cases hk
  · rcases h'.2 with ⟨rfl, _⟩ | ⟨g', o', cap', cur', rfl, _, e3', _⟩
    · cases hk'
    · cases hk
      cases hk'
      rw [e3] at e3'
      cases e3'
      exact hne rfl
theorem ne_or {v v' : Value} (h : ∀ k, v.ownBlock = some k → v'.ownBlock ≠ some k) : v.ownBlock = none ∨ v.ownBlock ≠ v'.ownBlock := by
  cases e : v.ownBlock with
  | none => exact .inl rfl
  | some k => exact .inr fun e' => h k e e'.symm
/-- a row of rows that the call has made -/
def RowsAt (W : World) (base : Nat) (v : Value) (m : Nat) (ls : Nat → List Nat) : Prop := ∃ xs, QRow W base 25 1 v m xs ∧ ∀ i, i < m → ∃ p c, xs[i]? = some (.slice p (ls i).length c) ∧ QRow W base 3 1 (.slice p (ls i).length c) (ls i).length (iv (ls i))
theorem iv_src {W : World} {base : Nat} {p : Option Addr} {c : Nat} {l : List Nat} (h : QRow W base 3 1 (.slice p l.length c) l.length (iv l)) : SrcI W p l.length (fun j => (nth l j : Nat)) := h.srcI fun j hj => by
  unfold iv nth
  rw [List.getElem?_map, List.getElem?_eq_getElem hj]; rfl
theorem RowsAt.lists {W : World} {base : Nat} {p : Option Addr} {c m : Nat} {ls : Nat → List Nat} (h : RowsAt W base (.slice p m c) m ls) : ListsAt W p m ls := fun hm => by
  obtain ⟨xs, h1, h2⟩ := h
  obtain ⟨b, o, cap, e, _, hb, _, _, hc, _⟩ := h1.at (by omega)
  cases e
  refine ⟨b, o, rfl, hb, fun i hi => ?_⟩
  obtain ⟨p, c, h3, h4⟩ := h2 i hi
  exact ⟨p, c, (hc i (by omega)).trans h3, iv_src h4⟩
set_option maxRecDepth 100000 in
set_option maxHeartbeats 2000000 in
theorem same_any (d m : Nat) (w : World) (hd : d ≤ 64) (hm : m ≤ 1099511627776) :
    Calls Tryd.prog 60 #[.int .i64 (d : Int), .int .i64 (m : Int)] w fun e w' => ∃ v, e = .returned v ∧ RowsAt w' w.heap.size v m (fun _ => List.range d) ∧ Below w.heap.size w w' := by
  obtain ⟨i0, hi, hz0, hz1, hz2⟩ := info_parts info3
  obtain ⟨i1, hi1, hy0, hy1, hy2⟩ := info_parts info25
  go_enter Tryd.func60, Tryd.ntmps60
  go_upto_region 3 with (fail)
  go_loopw [5, 6] (fun s5 s6 wr => ∃ j : Nat, j ≤ d ∧ s6 = .int .i64 (j : Int) ∧ QRow wr w.heap.size 3 1 s5 j (iv (List.range j)) ∧ Hid (Below w.heap.size w wr)) (fun _ s6 _ => 100 - (intOf s6).toNat)
  case atStart => exact ⟨0, by omega, rfl, QRow.nil _ _ _ _, Below.refl _ _⟩
  case round =>
    obtain ⟨j, hj, rfl, hq, hB⟩ := hrel
    obtain ⟨p5, c5, rfl⟩ := hq.isSlice
    have HQ := Lib.hid hq
    clear hq
    have hsz := hB.out.size
    by_cases hjd : j < d
    · have h1 : (j : Int) < (d : Int) := by omega
      have HSN : Hid (iv (List.range (j + 1)) = iv (List.range j) ++ [.int .i64 (j : Nat)]) := by rw [Hid, List.range_succ, iv_snoc]
      have hqa := HQ.out.alloc (.cells #[.int .i64 (j : Int)] 3)
      have HQA := Lib.hid hqa
      have HLT := Lib.hid (fun k e => (hqa.lt k e).1)
      clear hqa
      go_wp2_with (at_builtin; go_must (refine wpList_append_q _ rfl (.tmp 14) (.tmp 16) 25 rfl w.heap.size 3 i0 (.int .i64 0) 1 8 Tryd.underlying25 hi hz0 hz1 hz2 rfl (by decide) _ j (iv (List.range j)) rfl HQA.out ⟨_, 0, none⟩ 1 1 [.int .i64 (j : Int)] rfl rfl (cells_new1 _ _ _) (by simp [Value.oneCell']) (by unfold maxLen; omega) (by omega) (by simp; omega) ?_); intro v4 w4 hq4 hg4 ho4; have HQ4 : Hid (QRow w4 w.heap.size 3 1 v4 (j + 1) (iv (List.range (j + 1)))) := (by rw [HSN.out]; exact hq4); have HB4 : Hid (Below w.heap.size w w4) := Below.grown (hB.out.alloc hsz _) hg4 (by simp; omega) (fun kk e => HLT.out kk e); clear hq4 hg4 ho4)
      exact ⟨⟨j + 1, by omega, int_eq (by omega), HQ4.out, HB4⟩, by simp [intOf]; omega⟩
    · have h1 : ¬ (j : Int) < (d : Int) := by omega
      have hje : j = d := by omega
      rw [hje] at HQ ⊢
      clear hje
      go_upto_region 8 with (fail)
      obtain ⟨wo, hwo⟩ : ∃ wo : World, Hid (wo = wr) := ⟨_, rfl⟩
      rw [← hwo.out] at HQ hB hsz ⊢
      go_loopw [7, 8] (fun s7 s8 wr2 => ∃ i : Nat, i ≤ m ∧ s8 = .int .i64 (i : Int) ∧ QRow wr2 w.heap.size 25 1 s7 i (List.replicate i (.slice p5 d c5)) ∧ Hid (QRow wr2 w.heap.size 3 1 (.slice p5 d c5) d (iv (List.range d))) ∧ Hid (Below w.heap.size w wr2)) (fun _ s8 _ => m - (intOf s8).toNat)
      case atStart => exact ⟨0, by omega, rfl, QRow.nil _ _ _ _, HQ, hB⟩
      case round =>
        obtain ⟨i, hi', rfl, hq7, hq5, hB2⟩ := hrel
        obtain ⟨p7, c7, rfl⟩ := hq7.isSlice
        have hsz2 := hB2.out.size
        by_cases him : i < m
        · have h2 : (i : Int) < (m : Int) := by omega
          have HSN : Hid (List.replicate (i + 1) (Value.slice p5 d c5) = List.replicate i (.slice p5 d c5) ++ [.slice p5 d c5]) := List.replicate_succ'
          have hqa := hq7.alloc (.cells #[.slice p5 d c5] 25)
          have hq5a := hq5.out.alloc (.cells #[.slice p5 d c5] 25)
          have HQA := Lib.hid hqa
          have HQ5 := Lib.hid hq5a
          have HLT := Lib.hid (fun k e => (hqa.lt k e).1)
          have HNE := Lib.hid (hq5a.ne hqa (by decide))
          clear hqa hq5a hq7
          go_wp2_with (at_builtin; go_must (refine wpList_append_q _ rfl (.tmp 23) (.tmp 25) 58 rfl w.heap.size 25 i1 (.slice none 0 0) 1 24 Tryd.underlying58 hi1 hy0 hy1 hy2 rfl (by decide) _ i (List.replicate i (.slice p5 d c5)) rfl HQA.out ⟨_, 0, none⟩ 1 1 [.slice p5 d c5] rfl rfl (cells_new1 _ _ _) (by simp [Value.oneCell']) (by unfold maxLen; omega) (by omega) (by simp; omega) ?_); intro v4 w4 hq4 hg4 ho4; have HQ4 : Hid (QRow w4 w.heap.size 25 1 v4 (i + 1) (List.replicate (i + 1) (.slice p5 d c5))) := (by rw [HSN.out]; exact hq4); have HQ6 : Hid (QRow w4 w.heap.size 3 1 (.slice p5 d c5) d (iv (List.range d))) := HQ5.out.kept hg4 (ne_or HNE.out); have HB4 : Hid (Below w.heap.size w w4) := Below.grown (hB2.out.alloc hsz2 _) hg4 (by simp; omega) (fun kk e => HLT.out kk e); clear hq4 hg4 ho4)
          exact ⟨⟨i + 1, by omega, int_eq (by omega), HQ4.out, HQ6, HB4⟩, by simp [intOf]; omega⟩
        · have h2 : ¬ (i : Int) < (m : Int) := by omega
          have hie : i = m := by omega
          rw [hie] at hq7 ⊢
          have HQ7 := Lib.hid hq7
          clear hq7 hie
          go_wp2
          go_ret
          refine ⟨_, rfl, ⟨_, HQ7.out, fun i hi => ?_⟩, hB2.out⟩
          rw [List.length_range]
          exact ⟨p5, c5, by rw [List.getElem?_replicate, if_pos hi], hq5.out⟩
end Go.Proofs.YtpknnjcbcndbbaaDoor
namespace Go.Proofs.YtpknnjcbcndbbaaDoor
open Go.RowKit Go.Shelf

theorem Sets.stay {n : Nat} {w W : World} {a : Option Addr} {zs : List Nat} (h : Sets w a zs) (hB : Below n w W) (hn : w.heap.size ≤ n) : Sets W a zs := by
  obtain ⟨b, off, e, hb, hc⟩ := h
  exact ⟨b, off, e, Nat.lt_of_lt_of_le hb hB.size, fun j hj => (hB.cell (p := ⟨b, off + j, none⟩) (Nat.lt_of_lt_of_le hb hn)).trans (hc j hj)⟩
/-- the i-th edge is one of the vertex t -/
def topE (ps : List (Int × Int)) (t i : Nat) : Bool := (qa ps i).1 == (t : Int) || (qa ps i).2 == (t : Int)
/-- how many of the first j -/
def topN (ps : List (Int × Int)) (t : Nat) : Nat → Nat
  | 0 => 0
  | j + 1 => topN ps t j + (if topE ps t j = true then 1 else 0)
/-- the lists where the first j have been turned -/
def topL (ps : List (Int × Int)) (t d j i : Nat) : List Nat := if i < j ∧ topE ps t i = true then [topN ps t i] else List.range d
def otherE (ps : List (Int × Int)) (t i : Nat) : Nat := if (qa ps i).1 = (t : Int) then (qa ps i).2.toNat else (qa ps i).1.toNat
theorem topN_len (ps : List (Int × Int)) (t : Nat) : ∀ j, topN ps t j = (((List.range j).filter fun i => topE ps t i).map (otherE ps t)).length
  | 0 => rfl
  | j + 1 => by
    rw [topN, topN_len ps t j, List.range_succ, List.filter_append, List.map_append, List.length_append]
    congr 1
    cases hh : topE ps t j <;> simp [hh]
theorem topN_le {n : Nat} {ps : List (Int × Int)} (hn : n ≤ 16) (h : edgesB n ps = true) (t : Nat) : ∀ j, j ≤ ps.length → topN ps t j ≤ size ((ofE n ps)[t]?.getD 0) := fun j hj => by
  have E := edgesOK hn h
  have hsm := ofE_sm hn h t
  rw [topN_len, ← els_len hsm]
  have ends : ∀ i, i < ps.length → topE ps t i = true → pr (qa ps i) = ed t (otherE ps t i) ∧ adj (ofE n ps) t (otherE ps t i) := fun i hi ht => by
    obtain ⟨x, y, e1, p1, -, -, -, -, h1, h2⟩ := E.at hi
    unfold topE at ht
    rw [p1]
    unfold otherE
    rw [e1] at ht ⊢
    simp only [Bool.or_eq_true, beq_iff_eq] at ht
    by_cases hx : (x : Int) = (t : Int)
    · have : x = t := by omega
      subst this
      simp only [if_true, Int.toNat_natCast]
      exact ⟨trivial, h1⟩
    · have : y = t := by omega
      subst this
      simp only [if_neg hx, Int.toNat_natCast]
      exact ⟨ed_comm _ _, h2⟩
  refine nodup_sub _ _ ?_ fun z hz => ?_
  · rw [List.nodup_iff_pairwise_ne, List.pairwise_map]
    have hp : ((List.range j).filter fun i => topE ps t i).Pairwise (· ≠ ·) := (List.nodup_range.filter _)
    refine hp.imp_of_mem fun {i k} hi hk hne e => ?_
    have hi2 := List.mem_filter.1 hi
    have hk2 := List.mem_filter.1 hk
    have hil := List.mem_range.1 hi2.1
    have hkl := List.mem_range.1 hk2.1
    have a1 := (ends i (by omega) hi2.2).1
    have a2 := (ends k (by omega) hk2.2).1
    rw [e] at a1
    exact E.pr_ne (by omega) (by omega) hne (a1.trans a2.symm)
  · obtain ⟨i, hi, rfl⟩ := List.mem_map.1 hz
    have hi2 := List.mem_filter.1 hi
    have hil := List.mem_range.1 hi2.1
    exact (mem_els hsm).2 (ends i (by omega) hi2.2).2
theorem topN_lt {ps : List (Int × Int)} {t : Nat} : ∀ (d i : Nat), topE ps t i = true → topN ps t i < topN ps t (i + 1 + d)
  | 0, i, h => by rw [Nat.add_zero, topN, if_pos h]; omega
  | d + 1, i, h => by
    have := topN_lt d i h
    rw [show i + 1 + (d + 1) = (i + 1 + d) + 1 by omega, topN]
    omega
/-- who has hues from the turned lists has hues below d -/
theorem top_fam {n d t : Nat} {ps : List (Int × Int)} {f : Nat → Nat} (hn : n ≤ 16) (h : edgesB n ps = true) (hd : size ((ofE n ps)[t]?.getD 0) = d) (F : FamF ps (topL ps t d ps.length) f) : FamF ps (fun _ => List.range d) f :=
  ⟨fun i hi => by
    have := F.1 i hi
    unfold topL at this
    split at this
    · rename_i hc
      have h1 := topN_lt (ps.length - i - 1) i hc.2
      have h2 := topN_le hn h t ps.length (Nat.le_refl _)
      rw [show i + 1 + (ps.length - i - 1) = ps.length by omega] at h1
      rw [List.mem_singleton] at this
      rw [List.mem_range]; omega
    · exact this, F.2⟩
theorem topL_le (ps : List (Int × Int)) (t d j i : Nat) (hd : d ≤ 64) : (topL ps t d j i).length ≤ 64 := by
  unfold topL; split
  · simp
  · simpa using hd
theorem RowsAt.congr {W : World} {base : Nat} {v : Value} {m : Nat} {ls ls' : Nat → List Nat} (h : RowsAt W base v m ls) (e : ∀ i, i < m → ls i = ls' i) : RowsAt W base v m ls' := by
  obtain ⟨xs, h1, h2⟩ := h
  refine ⟨xs, h1, fun i hi => ?_⟩
  rw [← e i hi]; exact h2 i hi
theorem RowsAt.put {W : World} {base g o cap m : Nat} {ls : Nat → List Nat} (h : RowsAt W base (.slice (some ⟨g, o, none⟩) m cap) m ls) {j : Nat} (hj : j < m) (u : Nat) (hb : base ≤ W.heap.size) :
    RowsAt ((W.setCell ⟨g, o + j, none⟩ (.slice (some ⟨W.heap.size, 0, none⟩) 1 1)).alloc (.cells #[.int .i64 (u : Int)] 3)) base (.slice (some ⟨g, o, none⟩) m cap) m (fun i => if i = j then [u] else ls i) := by
  obtain ⟨xs, h1, h2⟩ := h
  have hxl : xs.length = m := by have := h1.1; omega
  have hgs : g < W.heap.size := (h1.lt g rfl).2
  refine ⟨_, (h1.set j (by omega) _).alloc _, fun i hi => ?_⟩
  by_cases e : i = j
  · subst e
    dsimp only
    rw [if_pos rfl]
    refine ⟨_, _, List.getElem?_set_self (by omega), rfl, .inr ⟨W.heap.size, 0, 1, #[.int .i64 (u : Int)], rfl, hb, ?_, Nat.le_refl _, by decide, by simp, fun j hj => ?_⟩⟩
    · have := World.alloc_heap_new (W.setCell ⟨g, o + i, none⟩ (.slice (some ⟨W.heap.size, 0, none⟩) 1 1)) (.cells #[.int .i64 (u : Int)] 3)
      simpa using this
    · have : j = 0 := by simp at hj; omega
      subst this; rfl
  · dsimp only
    rw [if_neg e]
    obtain ⟨p, c, h3, h4⟩ := h2 i hi
    refine ⟨p, c, by rw [List.getElem?_set_ne (Ne.symm e)]; exact h3, (h4.other (fun k hk e => ?_) _).alloc _⟩
    have := h4.ne h1 (by decide) k hk
    exact this (by rw [e]; rfl)
theorem topL_next (ps : List (Int × Int)) (t d j i : Nat) : topL ps t d (j + 1) i = if i = j then (if topE ps t j = true then [topN ps t j] else topL ps t d j i) else topL ps t d j i := by
  unfold topL
  by_cases e : i = j
  · subst e
    rw [if_pos rfl]
    by_cases h : topE ps t i = true
    · rw [if_pos h, if_pos ⟨by omega, h⟩]
    · rw [if_neg h, if_neg (fun hc => h hc.2), if_neg (fun hc => h hc.2)]
  · rw [if_neg e]
    by_cases h : i < j ∧ topE ps t i = true
    · rw [if_pos h, if_pos ⟨by omega, h.2⟩]
    · rw [if_neg h, if_neg (fun hc => h ⟨by omega, hc.2⟩)]
/-- what the document's Fewest says of the number that it returns -/
def FewR (g : List Nat) (n d : Nat) (ps : List (Int × Int)) (e : Ending) : Prop := ∃ k : Nat, e = .returned (.int .i64 (k : Int)) ∧ (k = d ∨ k = d + 1) ∧ (k = d → (∀ s, s < pw n → ¬ Over g n d s) ∧ ∃ col, HueOK g ps (fun _ => low d) col)
theorem FewR.more {g : List Nat} {n d : Nat} {ps : List (Int × Int)} : FewR g n d ps (.returned (.int .i64 ((d : Int) + 1))) := ⟨d + 1, by simp, .inr rfl, fun h => by omega⟩
set_option maxRecDepth 100000 in
set_option maxHeartbeats 4000000 in
theorem rfewest_any (n : Nat) (a b : Option Addr) (cap cb : Nat) (ps : List (Int × Int)) (w : World) (hG : Good n ps a w) (hS : Sets w b (ofE n ps)) :
    Calls Tryd.prog 20 #[.slice b n cb, .slice a ps.length cap] w fun e w' => FewR (ofE n ps) n (dgTo (ofE n ps) 16) ps e ∧ Below w.heap.size w w' := by
  have hn := hG.n2
  have hn1 := hG.n1
  have hm := hG.hl
  have HG := Lib.hid hG
  have HS := Lib.hid hS
  have HSM := Lib.hid (ofE_sm hG.n2 hG.ok)
  have HLN := Lib.hid (ofE_length n ps)
  have hdm := (dg_bounds hG.n1 hG.n2 hG.ok).2
  have HDA := Lib.hid (dgTo_at (ofE n ps) n hG.n1)
  have HDS := Lib.hid (dgTo_stop (ofE_length n ps) (16 - n))
  have HOV := Lib.hid (fun s d h => over_cnt (n := n) (d := d) (s := s) hG.ok h)
  clear hG hS
  obtain ⟨d, hd⟩ : ∃ d, Hid (d = dgTo (ofE n ps) 16) := ⟨_, rfl⟩
  have hd15 : d ≤ 15 := by rw [hd.out]; omega
  obtain ⟨g, hg⟩ : ∃ g, Hid (g = ofE n ps) := ⟨_, rfl⟩
  have HRD : Hid (∀ W, Below w.heap.size w W → Calls Tryd.prog 27 #[.slice b n cb] W fun e w' => e = .returned (.int .i64 (d : Nat)) ∧ w' = W) := fun W hW => by rw [hd.out]; exact rdegree_any n b cb _ W HLN.out hn HSM.out (HS.out.stay hW (Nat.le_refl _))
  rw [← hd.out, ← hg.out]
  rw [← hg.out] at HSM HLN HDA HDS HOV HS hd
  clear hdm
  have HALL := Lib.hid (fun W => all_any b n cb W (by omega))
  have hfs := sm_full (n := n) (by omega)
  obtain ⟨len, HLE⟩ : ∃ len, Hid (ps.length = len) := ⟨_, rfl⟩
  rw [HLE.out] at hm ⊢
  go_enter Tryd.func20, Tryd.ntmps20
  go_upto_region 2 with (go_at_call 27; refine (HRD.out w (Below.refl _ _)).mono ?_; rintro e w' ⟨rfl, hw'⟩; subst hw'; try dsimp only)
  go_upto_region 3 with (fail)
  go_loopw [6] (fun s6 wr => ∃ s : Nat, s ≤ pw n ∧ s6 = .int .i64 (s : Int) ∧ Hid (∀ t, t < s → cntE t ps ≤ d * (size t / 2)) ∧ Hid (Below w'.heap.size w' wr)) (fun s6 _ => pw n - (intOf s6).toNat)
  case atStart => exact ⟨0, by omega, rfl, (fun t ht => by omega), Below.refl _ _⟩
  case round =>
    obtain ⟨s, hs, rfl, hno, hB⟩ := hrel
    have hspn : Sm (pw n) := sm_pw (by omega)
    have hpf : full n + 1 = pw n := by unfold full pw; have := Nat.one_le_two_pow (n := n); omega
    by_cases hsn : s < pw n
    · have h1 : (s : Int) ≤ ((full n : Nat) : Int) := by omega
      have hss : Sm s := Nat.lt_trans hsn hspn
      have hs20 : s < 1048576 := hss
      have HA := Lib.hid (HALL.out wr)
      obtain ⟨wo, hwo⟩ : ∃ wo : World, Hid (wo = wr) := ⟨_, rfl⟩
      rw [← hwo.out] at hB HA ⊢
      clear hwo
      go_upto_region 7 with (go_at_call 58; refine (HA.out).mono ?_; rintro e wz ⟨rfl, hwz⟩; subst hwz; try dsimp only)
      go_loopw [7, 8] (fun s7 s8 wr2 => ∃ k : Nat, k ≤ len ∧ s8 = .int .i64 (k : Int) ∧ s7 = .int .i64 (cntE s (ps.take k) : Nat) ∧ cntE s (ps.take k) ≤ k ∧ Hid (Below w'.heap.size w' wr2)) (fun _ s8 _ => len - (intOf s8).toNat)
      case atStart => exact ⟨0, by omega, rfl, rfl, by simp [cntE], hB⟩
      case round =>
        obtain ⟨k, hk, rfl, rfl, hck, hB2⟩ := hrel
        by_cases hkl : k < len
        · have g1 : (k : Int) < (len : Int) := by omega
          have g0 : (0 : Int) ≤ (k : Int) := by omega
          obtain ⟨eb, eo, ea, helt, hec⟩ := HG.out.hg (fun e => by rw [e] at HLE; have := HLE.out; simp at this; omega)
          have hk0 := hec k (by rw [HLE.out]; exact hkl)
          have he := edgesB_at HG.out.ok k (by rw [HLE.out]; exact hkl)
          subst ea
          obtain ⟨x, hx⟩ := Int.eq_ofNat_of_zero_le he.1
          obtain ⟨y, hy⟩ := Int.eq_ofNat_of_zero_le (show 0 ≤ (ps[k]?.getD (0, 0)).2 by omega)
          have hqe : ps[k]?.getD (0, 0) = ((x : Int), (y : Int)) := Prod.ext hx hy
          rw [hqe] at hk0 he
          simp only at hk0 he
          have k1 := (hB2.out.cell (p := ⟨eb, eo + k * 2, none⟩) helt).trans hk0.1
          have k2 := (hB2.out.cell (p := ⟨eb, eo + k * 2 + 1, none⟩) helt).trans hk0.2
          have hbo : both s x y ≤ 1 := by unfold both; split <;> omega
          have HCN : Hid (cntE s (ps.take (k + 1)) = cntE s (ps.take k) + both s x y) := by
            have hlt : k < ps.length := by rw [HLE.out]; exact hkl
            unfold Hid cntE
            rw [List.take_succ_eq_append_getElem hlt, List.map_append, List.sum_append]
            have e : ps[k] = ((x : Int), (y : Int)) := by rw [← hqe, List.getElem?_eq_getElem hlt]; rfl
            rw [e]; simp
          have htt : ((tb s x : Nat) : Int) * ((tb s y : Nat) : Int) = ((both s x y : Nat) : Int) := by
            unfold tb both
            cases s.testBit x <;> cases s.testBit y <;> simp
          have hx20 : x < 20 := by omega
          have hy20 : y < 20 := by omega
          have hx0 : (0 : Int) ≤ (x : Int) := by omega
          have hy0 : (0 : Int) ≤ (y : Int) := by omega
          clear hec hk0 he hx hy hqe
          generalize cntE s (ps.take k) = cn at *
          generalize both s x y = bo at *
          go_upto_region 9 with (fail)
          go_region
          go_wp2
          exact ⟨⟨k + 1, by omega, int_eq (by omega), by rw [HCN.out]; exact int_eq (by omega), by rw [HCN.out]; omega, hB2.out.drew⟩, by simp [intOf]; omega⟩
        · have g1 : ¬ (k : Int) < (len : Int) := by omega
          have hke : k = len := by omega
          have htk : ps.take k = ps := by rw [List.take_of_length_le (by rw [HLE.out]; omega)]
          rw [htk] at hck ⊢
          have HSZ := Lib.hid (size_any s wr hss)
          have hsz := size_le s
          have hq2 : ((size s : Nat) : Int) / 2 = ((size s / 2 : Nat) : Int) := by simp
          have hmul : d * (size s / 2) ≤ 15 * 32 := Nat.mul_le_mul hd15 (by omega)
          have hprod : (d : Int) * ((size s / 2 : Nat) : Int) = ((d * (size s / 2) : Nat) : Int) := by simp
          have HNX : Hid (cntE s ps ≤ d * (size s / 2) → ∀ t, t < s + 1 → cntE t ps ≤ d * (size t / 2)) := fun h t ht => by
            by_cases e : t = s
            · subst e; exact h
            · exact hno.out t (by omega)
          clear hke htk
          by_cases hov : d * (size s / 2) < cntE s ps
          · have h3 : ((d * (size s / 2) : Nat) : Int) < ((cntE s ps : Nat) : Int) := by omega
            clear HNX hov
            generalize d * (size s / 2) = pr at *
            generalize cntE s ps = cn at *
            generalize size s / 2 = hs2 at *
            generalize size s = sz at *
            go_wp2_with (go_at_call 59; refine (HSZ.out).mono ?_; rintro e wz ⟨rfl, hwz⟩; subst hwz; try dsimp only)
            go_ret
            exact ⟨FewR.more, hB2.out⟩
          · have h3 : ¬ ((d * (size s / 2) : Nat) : Int) < ((cntE s ps : Nat) : Int) := by omega
            have HN := Lib.hid (HNX.out (by omega))
            clear HNX hov
            generalize d * (size s / 2) = pr at *
            generalize cntE s ps = cn at *
            generalize size s / 2 = hs2 at *
            generalize size s = sz at *
            go_wp2_with (go_at_call 59; refine (HSZ.out).mono ?_; rintro e wz ⟨rfl, hwz⟩; subst hwz; try dsimp only)
            exact ⟨⟨s + 1, by omega, int_eq (by omega), HN, hB2⟩, by simp [intOf]; omega⟩
    · have h1 : ¬ (s : Int) ≤ ((full n : Nat) : Int) := by omega
      have HA := Lib.hid (HALL.out wr)
      have HNO : Hid (∀ s, s < pw n → ¬ Over g n d s) := fun t ht ho => by
        have h1 := hno.out t (by omega)
        have h2 := HOV.out t d ho
        omega
      obtain ⟨v0, hv0, hv1⟩ := HDA.out
      have hvd : Hid (size (g[v0]?.getD 0) = d) := by
        have := HDS.out
        rw [show n + (16 - n) = 16 by omega] at this
        rw [Hid, hv1, hd.out, this]
      clear hv1 hno
      obtain ⟨wo, hwo⟩ : ∃ wo : World, Hid (wo = wr) := ⟨_, rfl⟩
      rw [← hwo.out] at hB HA ⊢
      clear hwo
      go_upto_region 13 with (go_at_call 58; refine (HA.out).mono ?_; rintro e wz ⟨rfl, hwz⟩; subst hwz; try dsimp only)
      go_loopw [9] (fun s9 wr2 => ∃ t : Nat, t ≤ v0 ∧ s9 = .int .i64 (t : Int) ∧ Hid (wr2 = wz)) (fun s9 _ => 40 - (intOf s9).toNat)
      case atStart => exact ⟨0, by omega, rfl, rfl⟩
      case round =>
        obtain ⟨t, ht, rfl, hw3⟩ := hrel
        rw [hw3.out]
        obtain ⟨sb, so, esb, hsb, hsc⟩ := HS.out
        have k1 := (hB.out.cell (p := ⟨sb, so + t, none⟩) hsb).trans (hsc t (by rw [HLN.out]; omega))
        have hgk := HSM.out t
        subst esb
        have HVT : Hid (t ≠ v0 ∨ size (g[t]?.getD 0) = d) := by
          by_cases e : t = v0
          · right; rw [e]; exact hvd.out
          · exact .inl e
        obtain ⟨x, hx⟩ : ∃ x, Hid (x = g[t]?.getD 0) := ⟨_, rfl⟩
        rw [← hx.out] at k1 hgk HVT
        have HSZ := Lib.hid (size_any x wz hgk)
        have hsz := size_le x
        have h0 : (0 : Int) ≤ (t : Int) := by omega
        have h2 : (t : Int) < (n : Int) := by omega
        obtain ⟨sx, hsx⟩ : ∃ sx, Hid (sx = size x) := ⟨_, rfl⟩
        rw [← hsx.out] at HSZ hsz HVT
        clear hsc
        by_cases hlt : sx < d
        · have h3 : (sx : Int) < (d : Int) := by omega
          have htv : t < v0 := by
            rcases HVT.out with h | h
            · omega
            · omega
          go_wp2_with (go_at_call 59; refine (HSZ.out).mono ?_; rintro e w5 ⟨rfl, hw5⟩; subst hw5; try dsimp only)
          exact ⟨⟨t + 1, by omega, int_eq (by omega), Lib.hid trivial⟩, by simp [intOf]; omega⟩
        · have h3 : ¬ (sx : Int) < (d : Int) := by omega
          have HTD : Hid (size (g[t]?.getD 0) = d) := by
            have h1 := dgTo_le g 16 t (by omega)
            rw [← hd.out, ← hx.out, ← hsx.out] at h1
            rw [Hid, ← hx.out, ← hsx.out]; omega
          have HSA := Lib.hid (same_any d len wz (by omega) hm)
          have HE := Lib.hid (edgesOK HG.out.n2 HG.out.ok)
          clear hsz
          go_upto_region 16 with (first
            | (go_at_call 59; refine (HSZ.out).mono ?_; rintro e w5 ⟨rfl, hw5⟩; subst hw5; try dsimp only)
            | (go_at_call 60; refine (HSA.out).mono ?_; rintro e w6 ⟨v6, rfl, hr6, hB6⟩; have HR6 := Lib.hid hr6; have HB6 := Lib.hid (hB.out.trans (hB6.mono hB.out.size)); have HL6 := Lib.hid hB6; clear hr6 hB6))
          have hv6 : ∃ p c, v6 = .slice p len c := by
            obtain ⟨xs, h1, _⟩ := HR6.out
            exact h1.isSlice
          obtain ⟨p6, c6, rfl⟩ := hv6
          clear HSA HALL HRD HA
          go_upto_region 18 with (fail)
          obtain ⟨base, hbase⟩ : ∃ base, Hid (base = w5.heap.size) := ⟨_, rfl⟩
          rw [← hbase.out] at HR6 HL6
          have hb6 : base ≤ w6.heap.size := by have := HL6.out.size; have := hbase.out; omega
          go_loopw [11, 12] (fun s11 s12 wr3 => ∃ j : Nat, j ≤ len ∧ s12 = .int .i64 (j : Int) ∧ s11 = .int .i64 (topN ps t j : Nat) ∧ topN ps t j ≤ j ∧ Hid (RowsAt wr3 base (.slice p6 len c6) len (topL ps t d j)) ∧ Hid (Below w6.heap.size w6 wr3 ∨ Below base w5 wr3)) (fun _ s12 _ => len - (intOf s12).toNat)
          case atStart => exact ⟨0, by omega, rfl, rfl, Nat.le_refl _, HR6.out.congr fun i _ => by simp [topL], .inr HL6.out⟩
          case round =>
            obtain ⟨j, hj, rfl, rfl, htj, hR, hB7⟩ := hrel
            have hB8 : Below base w5 wr := by
              rcases hB7.out with h | h
              · exact HL6.out.trans (h.mono hb6)
              · exact h
            have hBw : Below w'.heap.size w' wr := by
              rw [hbase.out] at hB8
              exact hB.out.trans (hB8.mono hB.out.size)
            have HBW := Lib.hid hBw
            have HB8 := Lib.hid hB8
            have hbr : base ≤ wr.heap.size := by have := hB8.size; have := hbase.out; omega
            clear hB7 hB8
            by_cases hjl : j < len
            · have g1 : (j : Int) < (len : Int) := by omega
              have g0 : (0 : Int) ≤ (j : Int) := by omega
              obtain ⟨eb, eo, ea, helt, hec⟩ := HG.out.hg (fun e => by rw [e] at HLE; have := HLE.out; simp at this; omega)
              have hk0 := hec j (by rw [HLE.out]; exact hjl)
              subst ea
              have m1 := (hBw.cell (p := ⟨eb, eo + j * 2, none⟩) helt).trans hk0.1
              have m2 := (hBw.cell (p := ⟨eb, eo + j * 2 + 1, none⟩) helt).trans hk0.2
              have HTE : Hid (topE ps t j = ((ps[j]?.getD (0, 0)).1 == (t : Int) || (ps[j]?.getD (0, 0)).2 == (t : Int))) := rfl
              have HTN : Hid (topN ps t (j + 1) = topN ps t j + (if topE ps t j = true then 1 else 0)) := rfl
              have HTL := Lib.hid (topL_next ps t d j)
              generalize (ps[j]?.getD (0, 0)).1 = x1 at *
              generalize (ps[j]?.getD (0, 0)).2 = x2 at *
              clear hec hk0 hBw
              obtain ⟨xs, hxs1, -⟩ := hR.out
              obtain ⟨g6, o6, cp6, e6, hg6, hlt6, _, _, hc6, hf6⟩ := hxs1.at (by omega)
              cases e6
              have n1 := hf6 (o6 + j)
              have n2 : ∃ u, wr.cell? ⟨g6, o6 + j, none⟩ = some u := ⟨_, (hc6 j (by omega)).trans (List.getElem?_eq_getElem (by have := hxs1.1; omega))⟩
              obtain ⟨u6, n2⟩ := n2
              clear hc6 hf6 hxs1
              have HPUT := Lib.hid (hR.out.put hjl (topN ps t j) hbr)
              have HBP : Hid (Below base w5 ((wr.setCell ⟨g6, o6 + j, none⟩ (.slice (some ⟨wr.heap.size, 0, none⟩) 1 1)).alloc (.cells #[.int .i64 (topN ps t j : Nat)] 3))) := (HB8.out.setCell (p := ⟨g6, o6 + j, none⟩) hg6 _).alloc (by simpa using hbr) _
              generalize topN ps t j = tn at *
              generalize hte : topE ps t j = te at *
              clear hte
              cases te with
              | true =>
                have HR9 : Hid (RowsAt ((wr.setCell ⟨g6, o6 + j, none⟩ (.slice (some ⟨wr.heap.size, 0, none⟩) 1 1)).alloc (.cells #[.int .i64 (tn : Nat)] 3)) base (.slice (some ⟨g6, o6, none⟩) len c6) len (topL ps t d (j + 1))) := HPUT.out.congr fun i hi => by rw [HTL.out i]; rfl
                cases hx1 : (x1 == (t : Int)) with
                | true =>
                  go_wp2
                  exact ⟨⟨j + 1, by omega, int_eq (by omega), by rw [HTN.out]; exact int_eq (by simp), by rw [HTN.out]; simp; omega, HR9, .inr HBP.out⟩, by simp [intOf]; omega⟩
                | false =>
                  have hx2 : (x2 == (t : Int)) = true := by have := HTE.out; rw [hx1] at this; simpa using this.symm
                  go_wp2
                  exact ⟨⟨j + 1, by omega, int_eq (by omega), by rw [HTN.out]; exact int_eq (by simp), by rw [HTN.out]; simp; omega, HR9, .inr HBP.out⟩, by simp [intOf]; omega⟩
              | false =>
                have hx1 : (x1 == (t : Int)) = false := (Bool.or_eq_false_iff.1 HTE.out.symm).1
                have hx2 : (x2 == (t : Int)) = false := (Bool.or_eq_false_iff.1 HTE.out.symm).2
                have HR9 : Hid (RowsAt wr base (.slice (some ⟨g6, o6, none⟩) len c6) len (topL ps t d (j + 1))) := hR.out.congr fun i hi => by rw [HTL.out i]; split <;> rfl
                go_wp2
                exact ⟨⟨j + 1, by omega, int_eq (by omega), by rw [HTN.out]; exact int_eq (by simp), by rw [HTN.out]; simp; omega, HR9, .inr HB8.out⟩, by simp [intOf]; omega⟩
            · have g1 : ¬ (j : Int) < (len : Int) := by omega
              have hjl2 : j = len := by omega
              rw [hjl2] at hR
              have HSO : Hid (Calls Tryd.prog 40 #[.slice a len cap, .slice p6 len c6] wr fun e w' => BoolP (∃ f, FamF ps (topL ps t d len) f) e ∧ Below wr.heap.size wr w') := by
                have := rsome_any (cap := cap) (lc := c6) (a := a) (la := p6) (ps := ps) (ls := topL ps t d len) (by rw [HLE.out]; exact hm) (fun i => topL_le ps t d len i (by omega)) wr (HG.out.hg.below hBw (Nat.le_refl _)) (by rw [HLE.out]; exact hR.out.lists)
                rw [HLE.out] at this
                exact this
              clear hjl2 htj
              go_upto_if 99 with (go_at_call 40; refine (HSO.out).mono ?_; rintro e w8 ⟨⟨b8, rfl, hb8⟩, hB9⟩; have HB9 := Lib.hid (HBW.out.trans (hB9.mono HBW.out.size)); have HX8 := Lib.hid hb8; clear hB9 hb8)
              cases b8 with
              | true =>
                have HC : Hid (∃ col, HueOK g ps (fun _ => low d) col) := by
                  obtain ⟨f, hf⟩ := HX8.out.1 rfl
                  rw [← HLE.out] at hf
                  have := top_fam HG.out.n2 HG.out.ok (by rw [← hg.out]; exact HTD.out) hf
                  have hE := HE.out
                  rw [← hg.out] at hE
                  exact ⟨_, hueOK_of hE (fun i _ x hx => ⟨by have := List.mem_range.1 hx; omega, by rw [low_bit]; simpa using hx⟩) this⟩
                go_wp2
                go_ret
                exact ⟨⟨d, rfl, .inl rfl, fun _ => ⟨HNO.out, HC.out⟩⟩, HB9.out⟩
              | false =>
                go_wp2
                go_ret
                exact ⟨FewR.more, HB9.out⟩
end Go.Proofs.YtpknnjcbcndbbaaDoor
namespace Go.Proofs.YtpknnjcbcndbbaaDoor
open Go.RowKit Go.Shelf

theorem Sets.keep {n : Nat} {w W : World} {a : Option Addr} {zs : List Nat} (h : Sets w a zs) (hB : Below n w W) (hn : w.heap.size ≤ n) : Sets W a zs := by
  obtain ⟨b, off, e, hb, hc⟩ := h
  exact ⟨b, off, e, Nat.lt_of_lt_of_le hb hB.size, fun j hj => (hB.cell (p := ⟨b, off + j, none⟩) (Nat.lt_of_lt_of_le hb hn)).trans (hc j hj)⟩
theorem hues_true (ea p : Option Addr) (ec m c : Nat) (f : Nat → Int) (w : World) (hm : m ≤ 1099511627776) (h : SrcI w p m f) (hf : ∀ j, 0 ≤ f j) :
    Calls Tryd.prog 17 #[.slice ea m ec, .slice p m c] w fun e w' => e = .returned (.bool true) ∧ w' = w :=
  (rhues_any ea p m ec m c f w hm h).mono fun e w' ⟨⟨b, h1, h2⟩, h3⟩ => by
    obtain rfl : b = true := h2.2 ⟨fun j _ => hf j, rfl⟩
    exact ⟨h1, h3⟩
theorem proper_true (a p : Option Addr) (cap c : Nat) (ps : List (Int × Int)) (f : Nat → Int) (w : World) (hm : ps.length ≤ 1099511627776) (hg : Pairs w a ps) (h : SrcI w p ps.length f) (hp : ProperI ps f) :
    Calls Tryd.prog 18 #[.slice a ps.length cap, .slice p ps.length c] w fun e w' => e = .returned (.bool true) ∧ Below w.heap.size w w' :=
  (rproper_any a p cap c ps f w hm hg h).mono fun e w' ⟨⟨b, h1, h2⟩, h3⟩ => by
    obtain rfl : b = true := h2.2 hp
    exact ⟨h1, h3⟩
theorem below_true (p : Option Addr) (m c : Nat) (most : Int) (f : Nat → Int) (w : World) (hm : m ≤ 1099511627776) (h : SrcI w p m f) (hf : ∀ j, j < m → f j < most) :
    Calls Tryd.prog 19 #[.slice p m c, .int .i64 most] w fun e w' => e = .returned (.bool true) ∧ w' = w :=
  (rbelow_any p m c most f w hm h).mono fun e w' ⟨⟨b, h1, h2⟩, h3⟩ => by
    obtain rfl : b = true := h2.2 hf
    exact ⟨h1, h3⟩
set_option maxRecDepth 100000 in
set_option maxHeartbeats 4000000 in
theorem law5 (n : Int) (a : Option Addr) (cap : Nat) (ps : List (Int × Int)) (w : World) (h : PairsIn w a cap ps) (hT : Tab w) :
    Calls Tryd.prog 5 #[.int .i64 n, .slice a ps.length cap] w fun e w' => e = .returned (.bool true) ∧ Below w.heap.size w w' := by
  have HTM := Lib.hid (tame_any n a cap ps 16 w h (by decide) (by decide))
  have HT := Lib.hid hT
  clear h hT
  go_enter Tryd.func5, Tryd.ntmps5
  go_upto_region 2 with (go_at_call 14; refine (HTM.out).mono ?_; rintro e w1 ⟨m, qs, a1, c1, rfl, hm, hG1, hB1⟩; have HG1 := Lib.hid hG1; have HB1 := Lib.hid hB1; clear hG1 hB1)
  have hm1 := HG1.out.n1
  go_upto_region 3 with (go_at_call 21; refine (of_any m a1 c1 qs w1 HG1.out).mono ?_; rintro e w2 ⟨b2, rfl, hb2, hS2, hB2⟩; have HS2 := Lib.hid hS2; have HG2 := Lib.hid (HG1.out.below hB2); have HB2 := Lib.hid (HB1.out.trans (hB2.mono HB1.out.size)); clear hS2 hB2)
  have HSM := Lib.hid (ofE_sm HG1.out.n2 HG1.out.ok)
  have HLN := Lib.hid (ofE_length m qs)
  have HU := Lib.hid (und_ofE HG1.out.ok)
  have HE := Lib.hid (edgesOK HG1.out.n2 HG1.out.ok)
  have hlen := HG1.out.hl
  have hdm := (dg_bounds HG1.out.n1 HG1.out.n2 HG1.out.ok).2
  have HVZ := Lib.hid (fun W hT hG => Vizing_ok m a1 c1 qs W hT hG)
  have HKO := Lib.hid (fun W hT hG => Konig_ok m a1 c1 qs W hT hG)
  obtain ⟨g, hg⟩ : ∃ g, Hid (g = ofE m qs) := ⟨_, rfl⟩
  rw [← hg.out] at HSM HLN HU HE HVZ HKO HS2 hdm
  obtain ⟨d, hd⟩ : ∃ d, Hid (d = dgTo g 16) := ⟨_, rfl⟩
  have HRD : Hid (Calls Tryd.prog 27 #[.slice (some ⟨b2, 0, none⟩) m m] w2 fun e w' => e = .returned (.int .i64 (d : Nat)) ∧ w' = w2) := by rw [hd.out]; exact rdegree_any m _ m g w2 HLN.out hm HSM.out HS2.out
  have hd15 : d ≤ 15 := by rw [hd.out]; omega
  clear hdm
  go_upto_region 4 with (go_at_call 27; refine (HRD.out).mono ?_; rintro e w' ⟨rfl, hw'⟩; subst hw'; try dsimp only)
  have HV := Lib.hid (HVZ.out w' (HT.out.below HB2.out (Nat.le_refl _)) HG2.out)
  go_upto_region 5 with (go_at_call 28; refine (HV.out).mono ?_; rintro e w3 ⟨v3, us3, col3, rfl, hq3, hB3, hi3, hm3, ha3⟩; obtain ⟨p3, c3, rfl⟩ := hq3.isSlice; have HQ3 := Lib.hid hq3; have HI3 := Lib.hid hi3; have HM3 := Lib.hid hm3; have HA3 := Lib.hid ha3; have HB3 := Lib.hid hB3; clear hq3 hi3 hm3 ha3 hB3)
  have HG3 := Lib.hid (HG2.out.below HB3.out)
  have HB13 := Lib.hid (HB2.out.trans (HB3.out.mono HB2.out.size))
  have HS3 := Lib.hid (HS2.out.keep HB3.out (Nat.le_refl _))
  have HF3 := Lib.hid (HQ3.out.srcI (hl_get col3 qs))
  have HP3 := Lib.hid (proper_of HE.out HI3.out HA3.out)
  have HL3 : Hid (∀ j, j < qs.length → hf col3 qs j < ((d + 1 : Nat) : Int)) := hf_below HA3.out fun q hq x hx => by rw [hd.out]; exact Nat.lt_succ_of_le (HM3.out _ _ hx)
  have HK := Lib.hid (HKO.out w3 (HT.out.below HB13.out (Nat.le_refl _)) HG3.out)
  clear HV HRD HKO HVZ
  go_upto_region 6 with (go_at_call 29; refine (HK.out).mono ?_; rintro e w4 ⟨hk, hB4⟩; have HB4 := Lib.hid hB4; clear hB4; rcases hk with ⟨rfl, hsd⟩ | ⟨v4, us4, col4, s4, rfl, hsd, hq4, hi4, hm4, ha4⟩)
  · have HSD := Lib.hid hsd
    clear hsd
    have HB14 := Lib.hid (HB13.out.trans (HB4.out.mono HB13.out.size))
    have HG4 := Lib.hid (HG3.out.below HB4.out)
    have HS4 := Lib.hid (HS3.out.keep HB4.out (Nat.le_refl _))
    have HF4 := Lib.hid (HF3.out.below HB4.out (Nat.le_refl _))
    have H17 : Hid (∀ W, Below w4.heap.size w4 W → Calls Tryd.prog 17 #[.slice a1 qs.length c1, .slice p3 qs.length c3] W fun e w' => e = .returned (.bool true) ∧ w' = W) := fun W hW => hues_true a1 p3 c1 qs.length c3 _ W hlen (HF4.out.below hW (Nat.le_refl _)) (hf_nonneg col3 qs)
    have H18 : Hid (∀ W, Below w4.heap.size w4 W → Calls Tryd.prog 18 #[.slice a1 qs.length c1, .slice p3 qs.length c3] W fun e w' => e = .returned (.bool true) ∧ Below W.heap.size W w') := fun W hW => proper_true a1 p3 c1 c3 qs _ W hlen (HG4.out.hg.below hW (Nat.le_refl _)) (HF4.out.below hW (Nat.le_refl _)) HP3.out
    have H19 : Hid (∀ W, Below w4.heap.size w4 W → Calls Tryd.prog 19 #[.slice p3 qs.length c3, .int .i64 ((d : Int) + 1)] W fun e w' => e = .returned (.bool true) ∧ w' = W) := fun W hW => below_true p3 qs.length c3 _ _ W hlen (HF4.out.below hW (Nat.le_refl _)) (fun j hj => by have := HL3.out j hj; omega)
    have HRS : Hid (∀ W, Below w4.heap.size w4 W → Calls Tryd.prog 30 #[.slice (some ⟨b2, 0, none⟩) m m] W fun e w' => SidesA g m e ∧ w' = W) := fun W hW => rsides_any m _ m g W HLN.out hm HU.out HSM.out (HS4.out.keep hW (Nat.le_refl _))
    have HAW : Hid (∀ W, Below w4.heap.size w4 W → Calls Tryd.prog 16 #[] W fun e w' => e = .returned (.bool true) ∧ Below W.heap.size W w') := fun W hW => awake_any W (HT.out.below (HB14.out.trans (hW.mono HB14.out.size)) (Nat.le_refl _))
    have HRF := Lib.hid (Below.refl w4.heap.size w4)
    clear HF3 HL3 HP3 HK HTM
    go_upto_region 8 with (first
      | (go_at_call 17; refine (H17.out w4 HRF.out).mono ?_; rintro e w5 ⟨rfl, hw5⟩; subst hw5; try dsimp only)
      | (go_at_call 18; refine (H18.out _ HRF.out).mono ?_; rintro e w6 ⟨rfl, hB6⟩; have HB6 := Lib.hid hB6; clear hB6)
      | (go_at_call 19; refine (H19.out _ HB6.out).mono ?_; rintro e w7 ⟨rfl, hw7⟩; subst hw7; try dsimp only))
    go_upto_region 9 with (go_at_call 30; refine (HRS.out _ HB6.out).mono ?_; rintro e w8 ⟨⟨s8, two8, rfl, hs8⟩, hw8⟩; subst hw8; obtain ⟨hse, hte⟩ := SidesR.unique HU.out HSD.out hs8; subst hse; subst hte; clear hs8; try dsimp only)
    go_wp2_with (go_at_call 16; refine (HAW.out _ HB6.out).mono ?_; rintro e w9 ⟨rfl, hB9⟩; have HB9 := Lib.hid hB9; clear hB9)
    go_ret
    exact ⟨rfl, (HB14.out.trans (HB6.out.mono HB14.out.size)).trans (HB9.out.mono (Nat.le_trans HB14.out.size HB6.out.size))⟩
  · obtain ⟨p4, c4, rfl⟩ := hq4.isSlice
    have HSD := Lib.hid hsd
    have HQ4 := Lib.hid hq4
    have HI4 := Lib.hid hi4
    have HM4 := Lib.hid hm4
    have HA4 := Lib.hid ha4
    clear hsd hq4 hi4 hm4 ha4
    have HB14 := Lib.hid (HB13.out.trans (HB4.out.mono HB13.out.size))
    have HG4 := Lib.hid (HG3.out.below HB4.out)
    have HS4 := Lib.hid (HS3.out.keep HB4.out (Nat.le_refl _))
    have HF4 := Lib.hid (HF3.out.below HB4.out (Nat.le_refl _))
    have H17 : Hid (∀ W, Below w4.heap.size w4 W → Calls Tryd.prog 17 #[.slice a1 qs.length c1, .slice p3 qs.length c3] W fun e w' => e = .returned (.bool true) ∧ w' = W) := fun W hW => hues_true a1 p3 c1 qs.length c3 _ W hlen (HF4.out.below hW (Nat.le_refl _)) (hf_nonneg col3 qs)
    have H18 : Hid (∀ W, Below w4.heap.size w4 W → Calls Tryd.prog 18 #[.slice a1 qs.length c1, .slice p3 qs.length c3] W fun e w' => e = .returned (.bool true) ∧ Below W.heap.size W w') := fun W hW => proper_true a1 p3 c1 c3 qs _ W hlen (HG4.out.hg.below hW (Nat.le_refl _)) (HF4.out.below hW (Nat.le_refl _)) HP3.out
    have H19 : Hid (∀ W, Below w4.heap.size w4 W → Calls Tryd.prog 19 #[.slice p3 qs.length c3, .int .i64 ((d : Int) + 1)] W fun e w' => e = .returned (.bool true) ∧ w' = W) := fun W hW => below_true p3 qs.length c3 _ _ W hlen (HF4.out.below hW (Nat.le_refl _)) (fun j hj => by have := HL3.out j hj; omega)
    have HRS : Hid (∀ W, Below w4.heap.size w4 W → Calls Tryd.prog 30 #[.slice (some ⟨b2, 0, none⟩) m m] W fun e w' => SidesA g m e ∧ w' = W) := fun W hW => rsides_any m _ m g W HLN.out hm HU.out HSM.out (HS4.out.keep hW (Nat.le_refl _))
    have HAW : Hid (∀ W, Below w4.heap.size w4 W → Calls Tryd.prog 16 #[] W fun e w' => e = .returned (.bool true) ∧ Below W.heap.size W w') := fun W hW => awake_any W (HT.out.below (HB14.out.trans (hW.mono HB14.out.size)) (Nat.le_refl _))
    have HRF := Lib.hid (Below.refl w4.heap.size w4)
    have HF5 := Lib.hid (HQ4.out.srcI (hl_get col4 qs))
    have HP5 := Lib.hid (proper_of HE.out HI4.out HA4.out)
    have HL5 : Hid (∀ j, j < qs.length → hf col4 qs j < (d : Int)) := hf_below HA4.out fun q hq x hx => by rw [hd.out]; exact HM4.out _ _ hx
    have K17 : Hid (∀ W, Below w4.heap.size w4 W → Calls Tryd.prog 17 #[.slice a1 qs.length c1, .slice p4 qs.length c4] W fun e w' => e = .returned (.bool true) ∧ w' = W) := fun W hW => hues_true a1 p4 c1 qs.length c4 _ W hlen (HF5.out.below hW (Nat.le_refl _)) (hf_nonneg col4 qs)
    have K18 : Hid (∀ W, Below w4.heap.size w4 W → Calls Tryd.prog 18 #[.slice a1 qs.length c1, .slice p4 qs.length c4] W fun e w' => e = .returned (.bool true) ∧ Below W.heap.size W w') := fun W hW => proper_true a1 p4 c1 c4 qs _ W hlen (HG4.out.hg.below hW (Nat.le_refl _)) (HF5.out.below hW (Nat.le_refl _)) HP5.out
    have K19 : Hid (∀ W, Below w4.heap.size w4 W → Calls Tryd.prog 19 #[.slice p4 qs.length c4, .int .i64 (d : Int)] W fun e w' => e = .returned (.bool true) ∧ w' = W) := fun W hW => below_true p4 qs.length c4 _ _ W hlen (HF5.out.below hW (Nat.le_refl _)) HL5.out
    clear HF3 HL3 HP3 HK HTM
    go_upto_region 8 with (first
      | (go_at_call 17; refine (H17.out w4 HRF.out).mono ?_; rintro e w5 ⟨rfl, hw5⟩; subst hw5; try dsimp only)
      | (go_at_call 18; refine (H18.out _ HRF.out).mono ?_; rintro e w6 ⟨rfl, hB6⟩; have HB6 := Lib.hid hB6; clear hB6)
      | (go_at_call 19; refine (H19.out _ HB6.out).mono ?_; rintro e w7 ⟨rfl, hw7⟩; subst hw7; try dsimp only))
    go_upto_region 9 with (go_at_call 30; refine (HRS.out _ HB6.out).mono ?_; rintro e w8 ⟨⟨s8, two8, rfl, hs8⟩, hw8⟩; subst hw8; obtain ⟨hse, hte⟩ := SidesR.unique HU.out HSD.out hs8; subst hse; subst hte; clear hs8; try dsimp only)
    go_wp2_with (first
      | (go_at_call 17; refine (K17.out _ HB6.out).mono ?_; rintro e w9 ⟨rfl, hw9⟩; subst hw9; try dsimp only)
      | (go_at_call 18; refine (K18.out _ HB6.out).mono ?_; rintro e w10 ⟨rfl, hB10⟩; have HB10 := Lib.hid (HB6.out.trans (hB10.mono HB6.out.size)); clear hB10)
      | (go_at_call 19; refine (K19.out _ HB10.out).mono ?_; rintro e w11 ⟨rfl, hw11⟩; subst hw11; try dsimp only)
      | (go_at_call 16; refine (HAW.out _ HB10.out).mono ?_; rintro e w12 ⟨rfl, hB12⟩; have HB12 := Lib.hid (HB10.out.trans (hB12.mono HB10.out.size)); clear hB12))
    go_ret
    exact ⟨rfl, HB14.out.trans (HB12.out.mono HB14.out.size)⟩
end Go.Proofs.YtpknnjcbcndbbaaDoor
