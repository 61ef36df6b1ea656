/- An order out of any table: plain; and a table of marks whose rows are written. The document's sets in order: a walk. The document's tests of four elements: walks. The document's count of ascent lists: plain words, rows of int64. A law's walk: ShiftAscents. Small functions: small, isRight. Schedules in plain text: the circle, its matches turned, who is at home. The schedule of the circle: walk. The program's iterator over the matches of a schedule: its contract. Tournaments in plain text: any k boats have k (k - 1) / 2 wins or more (Landau). Who is at home, in plain text: a schedule's matches as a tournament, and its patterns. The program's regatta is made out of a tournament's table: walks. -/
import Derived.Deep.Grids
import Derived.BigQuiet
import Derived.Lib.TrailingZeros
import Derived.Laws.Bits64b
import Derived.BigRegion
import Derived.Laws.EntriesVeiled
import Derived.Sort.CutIn
import Derived.RangeFuncNested
import Derived.Test.YtbioondlmgolkaaG309
import Derived.Test.YtbioondlmgolkaaG310
import Derived.Test.YtbioondlmgolkaaG308
import Derived.Test.YtbioondlmgolkaaEq
import Derived.Test.YtbioondlmgolkaaLo
import Derived.Test.YtbioondlmgolkaaG302
set_option linter.unusedVariables false
set_option linter.unusedSimpArgs false
namespace Go.Proofs.Ytbioondlmgolkaa
open Go.RowKit Go.Shelf

/-- another name -/
def nm5 (n x : Nat) : Nat := (5 * x + 1) % n
theorem nm5_inj : ∀ n, n ≤ 12 → n % 5 ≠ 0 → ∀ x, x < n → ∀ y, y < n → nm5 n x = nm5 n y → x = y := by
  intro n hn h5 x hx y hy e
  unfold nm5 at e
  have hc : n = 0 ∨ n = 1 ∨ n = 2 ∨ n = 3 ∨ n = 4 ∨ n = 6 ∨ n = 7 ∨ n = 8 ∨ n = 9 ∨ n = 11 ∨ n = 12 := by omega
  rcases hc with rfl | rfl | rfl | rfl | rfl | rfl | rfl | rfl | rfl | rfl | rfl <;> omega
/-- all pairs go from lesser to greater numbers by other names -/
def UpN (n : Nat) (R : Nat → Nat → Bool) : Prop := ∀ a b, R a b = true → n % 5 ≠ 0 ∧ ∃ x y, x < y ∧ y < n ∧ nm5 n x = a ∧ nm5 n y = b
theorem UpN.irr {n : Nat} {R : Nat → Nat → Bool} (h : UpN n R) (hn : n ≤ 12) (a : Nat) : R a a = false := by
  cases e : R a a with
  | false => rfl
  | true =>
    obtain ⟨h5, x, y, hxy, hy, e1, e2⟩ := h a a e
    have := nm5_inj n hn h5 x (by omega) y hy (e1.trans e2.symm)
    omega
/-- a round of the closing, up to (x, y) -/
def phR (R : Nat → Nat → Bool) (z x y i j : Nat) : Bool := R i j || ((decide (i < x) || (decide (i = x) && decide (j < y))) && (R i z && R z j))
theorem UpN.add {n : Nat} {R : Nat → Nat → Bool} (h : UpN n R) {x y : Nat} (hxy : x < y) (hy : y < n) (h5 : n % 5 ≠ 0) : UpN n (fun i j => R i j || (decide (i = nm5 n x) && decide (j = nm5 n y))) := fun a b hab => by
  simp only [Bool.or_eq_true, Bool.and_eq_true, decide_eq_true_eq] at hab
  rcases hab with hab | ⟨rfl, rfl⟩
  · exact h a b hab
  · exact ⟨h5, x, y, hxy, hy, rfl, rfl⟩
theorem nm5_lt {n x : Nat} (h : 0 < n) : nm5 n x < n := Nat.mod_lt _ h
theorem nm5_int (n x : Nat) : Int.tmod (5 * (x : Int) + 1) (n : Int) = ((nm5 n x : Nat) : Int) := by
  rw [Int.tmod_eq_emod_of_nonneg (by omega)]; unfold nm5; simp
theorem phR_zero (R : Nat → Nat → Bool) (z : Nat) : phR R z 0 0 = R := by
  funext i j; unfold phR; simp
theorem phR_up {n : Nat} {R : Nat → Nat → Bool} (h : UpN n R) (hn : n ≤ 12) (z x y : Nat) : UpN n (phR R z x y) := fun a b hab => by
  unfold phR at hab
  simp only [Bool.or_eq_true, Bool.and_eq_true] at hab
  rcases hab with hab | ⟨_, h1, h2⟩
  · exact h a b hab
  · obtain ⟨h5, x1, y1, hxy1, hy1, e1, e2⟩ := h a z h1
    obtain ⟨_, x2, y2, hxy2, hy2, e3, e4⟩ := h z b h2
    have := nm5_inj n hn h5 y1 hy1 x2 (by omega) (e2.trans e3.symm)
    exact ⟨h5, x1, y2, by omega, hy2, e1, e4⟩
theorem phR_col {R : Nat → Nat → Bool} {z : Nat} (h : R z z = false) (x y i : Nat) : phR R z x y i z = R i z := by
  unfold phR; rw [h]; simp
theorem phR_row {R : Nat → Nat → Bool} {z : Nat} (h : R z z = false) (x y j : Nat) : phR R z x y z j = R z j := by
  unfold phR; rw [h]; simp
theorem phR_next {R : Nat → Nat → Bool} {z x y : Nat} (hc : (R x z && R z y) = true) : phR R z x (y + 1) = fun i j => phR R z x y i j || (decide (i = x) && decide (j = y)) := by
  funext i j
  unfold phR
  by_cases hi : i = x
  · subst hi
    by_cases hj : j = y
    · subst hj
      rw [hc]; simp
    · have : decide (j < y + 1) = decide (j < y) := by simp only [decide_eq_decide]; omega
      rw [this]; simp [hj]
  · simp [hi]
theorem phR_skip {R : Nat → Nat → Bool} {z x y : Nat} (hc : (R x z && R z y) = false) : phR R z x (y + 1) = phR R z x y := by
  funext i j
  unfold phR
  by_cases hi : i = x
  · subst hi
    by_cases hj : j = y
    · subst hj
      rw [hc]; simp
    · have : decide (j < y + 1) = decide (j < y) := by simp only [decide_eq_decide]; omega
      rw [this]
  · simp [hi]
theorem phR_line {R : Nat → Nat → Bool} {z x n : Nat} (i j : Nat) (hj : j < n) : phR R z x n i j = phR R z (x + 1) 0 i j := by
  unfold phR
  congr 2
  by_cases h1 : i < x
  · have h2 : i < x + 1 := by omega
    simp [h1, h2]
  · by_cases h2 : i = x
    · subst h2
      simp [hj]
    · have h3 : ¬ i < x + 1 := by omega
      simp [h1, h2, h3]
/-- closed by the numbers below k -/
def ClN (n k : Nat) (R : Nat → Nat → Bool) : Prop := ∀ z, z < k → ∀ x, x < n → ∀ y, y < n → R x z = true → R z y = true → R x y = true
theorem ClN.congr {n k : Nat} {R S : Nat → Nat → Bool} (hk : k ≤ n) (h : ClN n k R) (e : ∀ i j, i < n → j < n → R i j = S i j) : ClN n k S := fun z hz x hx y hy h1 h2 => by
  rw [← e x y hx hy]
  exact h z hz x hx y hy (by rw [e x z hx (by omega)]; exact h1) (by rw [e z y (by omega) hy]; exact h2)
theorem ClN.step {n z : Nat} {R : Nat → Nat → Bool} (h : ClN n z R) (hz : z < n) (hR : R z z = false) : ClN n (z + 1) (phR R z n 0) := by
  intro k hk x hx y hy h1 h2
  have ph : ∀ i j, i < n → (phR R z n 0 i j = true ↔ R i j = true ∨ (R i z = true ∧ R z j = true)) := fun i j hi => by
    unfold phR; simp [hi]
  rw [ph x k hx] at h1
  rw [ph k y (by omega)] at h2
  rw [ph x y hx]
  by_cases e : k = z
  · subst e
    have a1 : R x k = true := h1.elim id fun h => h.1
    have a2 : R k y = true := h2.elim id fun h => h.2
    exact .inr ⟨a1, a2⟩
  · have hkz : k < z := by omega
    rcases h1 with h1 | ⟨h1, h3⟩
    · rcases h2 with h2 | ⟨h2, h4⟩
      · exact .inl (h k hkz x hx y hy h1 h2)
      · exact .inr ⟨h k hkz x hx z hz h1 h2, h4⟩
    · rcases h2 with h2 | ⟨h2, h4⟩
      · exact .inr ⟨h1, h k hkz z hz y hy h3 h2⟩
      · exact .inr ⟨h1, h4⟩
theorem UpN.congr {n : Nat} {R S : Nat → Nat → Bool} (h : UpN n R) (e : ∀ i j, S i j = true → R i j = true) : UpN n S := fun a b hab => h a b (e a b hab)
theorem UpN.tab {n : Nat} {R : Nat → Nat → Bool} (h : UpN n R) (h1 : 1 ≤ n) (hn : n ≤ 12) (hc : ClN n n R) : TabOK n (fun _ => n) R :=
  ⟨h1, hn, fun _ _ => rfl, ⟨fun x _ => h.irr hn x, fun x y z hx hy hz h1 h2 => hc y hy x hx z hz h1 h2⟩⟩
/-- a row of marks in memory -/
def RowM (W : World) (B n : Nat) (f : Nat → Bool) : Prop := ∃ vs, BoxN W B 4 vs ∧ vs.size = n ∧ ∀ j, j < n → vs[j]? = some (.bool (f j))
theorem RowM.lt {W : World} {B n : Nat} {f : Nat → Bool} (h : RowM W B n f) : B < W.heap.size := h.elim fun _ h => h.1.lt
theorem RowM.cell {W : World} {B n : Nat} {f : Nat → Bool} (h : RowM W B n f) {x : Nat} (hx : x < n) : W.cell? ⟨B, x, none⟩ = some (.bool (f x)) := by
  obtain ⟨vs, h1, h2, h3⟩ := h
  rw [h1.cell]; exact h3 x hx
theorem RowM.frozen {W : World} {B n : Nat} {f : Nat → Bool} (h : RowM W B n f) (x : Nat) : W.frozen? ⟨B, x, none⟩ = false := by
  obtain ⟨vs, h1, _⟩ := h
  exact h1.frozen x
theorem RowM.kept {W W' : World} {row : Option Nat} {B n : Nat} {f : Nat → Bool} (h : RowM W B n f) (hg : W.grownBy W' row) (hne : some B ≠ row) : RowM W' B n f := by
  obtain ⟨vs, h1, h2⟩ := h
  exact ⟨vs, h1.kept hg hne, h2⟩
theorem RowM.set {W : World} {B n : Nat} {f : Nat → Bool} (h : RowM W B n f) {x : Nat} (_hx : x < n) (v : Bool) : RowM (W.setCell ⟨B, x, none⟩ (.bool v)) B n (fun j => if j = x then v else f j) := by
  obtain ⟨vs, h1, h2, h3⟩ := h
  refine ⟨_, h1.set x (.bool v), by simpa using h2, fun j hj => ?_⟩
  by_cases e : j = x
  · subst e; rw [Array.getElem?_setIfInBounds_self_of_lt (by omega)]; simp
  · rw [Array.getElem?_setIfInBounds_ne (Ne.symm e)]; simp only [if_neg e]; exact h3 j hj
theorem RowM.other {W : World} {B n : Nat} {f : Nat → Bool} (h : RowM W B n f) {a : Addr} (hne : B ≠ a.block) (x : Value) : RowM (W.setCell a x) B n f := by
  obtain ⟨vs, h1, h2⟩ := h
  exact ⟨vs, h1.other hne x, h2⟩
theorem RowM.congr {W : World} {B n : Nat} {f g : Nat → Bool} (h : RowM W B n f) (e : ∀ j, j < n → f j = g j) : RowM W B n g := by
  obtain ⟨vs, h1, h2, h3⟩ := h
  exact ⟨vs, h1, h2, fun j hj => by rw [h3 j hj, e j hj]⟩
/-- k rows of n marks that the call has made, each its own -/
structure TabW (W : World) (base : Nat) (v : Value) (k n : Nat) (rb : Nat → Nat) (R : Nat → Nat → Bool) : Prop where
  q : QRow W base 33 1 v k ((List.range k).map fun i => .slice (some ⟨rb i, 0, none⟩) n n)
  rows : ∀ i, i < k → RowM W (rb i) n (R i)
  inj : ∀ i j, i < j → j < k → rb i ≠ rb j
  low : ∀ i, i < k → base ≤ rb i
theorem TabW.ne {W : World} {base : Nat} {v : Value} {k n : Nat} {rb : Nat → Nat} {R : Nat → Nat → Bool} (h : TabW W base v k n rb R) {i : Nat} (hi : i < k) : v.ownBlock ≠ some (rb i) := fun hv => by
  rcases h.q.2 with ⟨rfl, _⟩ | ⟨g, o, cap, cur, rfl, _, hg, _⟩
  · cases hv
  · cases hv
    obtain ⟨vs, h1, _⟩ := h.rows i hi
    rw [show W.heap[rb i]? = _ from h1] at hg
    cases hg
theorem TabW.at {W : World} {base : Nat} {v : Value} {k n : Nat} {rb : Nat → Nat} {R : Nat → Nat → Bool} (h : TabW W base v k n rb R) (hk : 0 < k) : ∃ g o c, v = .slice (some ⟨g, o, none⟩) k c ∧ base ≤ g ∧ g < W.heap.size ∧ (∀ i, i < k → W.cell? ⟨g, o + i, none⟩ = some (.slice (some ⟨rb i, 0, none⟩) n n)) ∧ ∀ i, i < k → g ≠ rb i := by
  obtain ⟨g, o, c, e, h1, h2, _, _, h3, _⟩ := h.q.at (by omega)
  refine ⟨g, o, c, e, h1, h2, fun i hi => ?_, fun i hi e2 => h.ne hi (by rw [e, e2]; rfl)⟩
  rw [h3 i (by omega), List.getElem?_map, List.getElem?_range hi]; rfl
theorem TabW.hdr {W : World} {base g o c : Nat} {k n : Nat} {rb : Nat → Nat} {R : Nat → Nat → Bool} (h : TabW W base (.slice (some ⟨g, o, none⟩) k c) k n rb R) {i : Nat} (hi : i < k) : W.cell? ⟨g, o + i, none⟩ = some (.slice (some ⟨rb i, 0, none⟩) n n) := by
  obtain ⟨g', o', c', e, _, _, h3, _⟩ := h.at (by omega)
  cases e
  exact h3 i hi
theorem TabW.tbl {W : World} {base : Nat} {p : Option Addr} {c n : Nat} {rb : Nat → Nat} {R : Nat → Nat → Bool} (h : TabW W base (.slice p n c) n n rb R) : TblI W p n (fun _ => n) R := fun hm => by
  obtain ⟨g, o, c', e, _, h2, h3, _⟩ := h.at (by omega)
  cases e
  refine ⟨g, o, rfl, h2, fun i hi => ⟨_, _, h3 i hi, fun _ => ⟨rb i, 0, rfl, (h.rows i hi).lt, fun j hj => ?_⟩⟩⟩
  rw [Nat.zero_add]; exact (h.rows i hi).cell hj
theorem TabW.set {W : World} {base : Nat} {v : Value} {k n : Nat} {rb : Nat → Nat} {R : Nat → Nat → Bool} (h : TabW W base v k n rb R) {a b : Nat} (ha : a < k) (hb : b < n) : TabW (W.setCell ⟨rb a, b, none⟩ (.bool true)) base v k n rb (fun i j => R i j || (decide (i = a) && decide (j = b))) where
  q := h.q.other (fun kk e h2 => h.ne ha (by rw [e, h2])) _
  rows := fun i hi => by
    by_cases e : i = a
    · subst e
      refine ((h.rows i hi).set hb true).congr fun j hj => ?_
      by_cases e2 : j = b
      · simp [e2]
      · simp [e2]
    · refine ((h.rows i hi).other (a := ⟨rb a, b, none⟩) (fun e2 => ?_) _).congr fun j hj => by simp [e]
      rcases Nat.lt_or_gt_of_ne e with h3 | h3
      · exact h.inj i a h3 ha e2
      · exact h.inj a i h3 hi e2.symm
  inj := h.inj
  low := h.low
theorem TabW.dr {W : World} {base : Nat} {v : Value} {k n : Nat} {rb : Nat → Nat} {R : Nat → Nat → Bool} (h : TabW W base v k n rb R) (q : Nat) : TabW (W.drewN q) base v k n rb R := ⟨h.q, h.rows, h.inj, h.low⟩
theorem TabW.congr {W : World} {base : Nat} {v : Value} {k n : Nat} {rb : Nat → Nat} {R S : Nat → Nat → Bool} (h : TabW W base v k n rb R) (e : ∀ i j, i < k → j < n → R i j = S i j) : TabW W base v k n rb S :=
  ⟨h.q, fun i hi => (h.rows i hi).congr fun j hj => e i j hi hj, h.inj, h.low⟩
theorem TabW.push {W W' : World} {base n i : Nat} {v v' : Value} {rb : Nat → Nat} {vs : Array Value} {o : Obj} (h : TabW W base v i n rb (fun _ _ => false)) (hb : base ≤ W.heap.size) (hv : vs.size = n ∧ ∀ j, j < n → vs[j]? = some (.bool false))
    (hg : ((W.alloc (.cells vs 4)).alloc o).grownBy W' v.ownBlock) (hq : QRow W' base 33 1 v' (i + 1) ((List.range i).map (fun i => .slice (some ⟨rb i, 0, none⟩) n n) ++ [.slice (some ⟨W.heap.size, 0, none⟩) n n])) :
    TabW W' base v' (i + 1) n (fun j => if j = i then W.heap.size else rb j) (fun _ _ => false) where
  q := by
    rw [List.range_succ, List.map_append]
    have e1 : (List.range i).map (fun j => Value.slice (some ⟨if j = i then W.heap.size else rb j, 0, none⟩) n n) = (List.range i).map (fun i => Value.slice (some ⟨rb i, 0, none⟩) n n) := by
      apply List.map_congr_left
      intro j hj
      rw [if_neg (by have := List.mem_range.1 hj; omega)]
    rw [e1]
    simpa using hq
  rows := fun j hj => by
    by_cases e : j = i
    · subst e
      simp only [if_true]
      have h1 : RowM (W.alloc (.cells vs 4)) W.heap.size n (fun _ => false) := ⟨vs, BoxN.new rfl, hv.1, hv.2⟩
      exact (h1.kept (World.grownBy_alloc _ o none) (by simp)).kept hg (fun e => by have := (h.q.lt _ e.symm).2; omega)
    · simp only [if_neg e]
      have h1 := h.rows j (by omega)
      exact ((h1.kept (World.grownBy_alloc _ (.cells vs 4) none) (by simp)).kept (World.grownBy_alloc _ o none) (by simp)).kept hg (fun e2 => h.ne (by omega) e2.symm)
  inj := fun a b hab hb2 => by
    have ha := (h.rows a (by omega)).lt
    by_cases e : b = i
    · rw [if_pos e, if_neg (by omega)]; omega
    · rw [if_neg e, if_neg (by omega)]; exact h.inj a b hab (by omega)
  low := fun j hj => by
    by_cases e : j = i
    · rw [if_pos e]; exact hb
    · rw [if_neg e]; exact h.low j (by omega)
theorem make_33 (n : Nat) (hn : n ≤ 20) : ∃ vs : Array Value, vs.size = n ∧ (∀ j, j < n → vs[j]? = some (.bool false)) ∧
    ∀ W, Sem.run Try.prog (Instr.makeSlice 33 (.int .i64 (n : Int)) (.int .i64 (n : Int))) W = .ok (.slice (some ⟨W.heap.size, 0, none⟩) n n) (W.alloc (.cells vs 4)) := by
  obtain ⟨i0, hi, hz0, hz1, hz2⟩ := info_parts info4
  refine ⟨madeCells #[.bool false] n, size_madeCells _ _, fun j hj => ?_, fun W => ?_⟩
  · rw [← Array.getElem?_toList, toList_madeCells_one, List.getElem?_replicate, if_pos hj]
  · have := run_make (P := Try.prog) W 33 4 i0 _ under33 hi hz0 .i64 .i64 (n : Int) (n : Int) (by omega) (Int.le_refl _) (by rw [hz2]; omega) (by omega)
    rw [hz1, show (Value.bool false).cells = #[.bool false] from rfl] at this
    simpa using this
end Go.Proofs.Ytbioondlmgolkaa
namespace Go.Proofs.Ytbioondlmgolkaa
open Go.RowKit Go.Shelf

theorem iv_app (a b : List Nat) : iv (a ++ b) = iv a ++ iv b := by simp [iv]
theorem src_take {w : World} {base : Nat} {p : Option Addr} {m c k : Nat} {L : List Nat} (h : QRow w base 3 1 (.slice p m c) m (iv L)) (hm : L.length = m) (hk : k ≤ m) : Src w p k 1 (iv (L.take k)) := by
  refine ⟨by rw [iv_length, List.length_take]; omega, fun h0 => ?_⟩
  obtain ⟨b, o, cap, e, _, _, _, _, hc, _⟩ := h.at (by omega)
  cases e
  refine ⟨_, rfl, fun j u hu => ?_⟩
  have hj := (List.getElem?_eq_some_iff.1 hu).1
  rw [iv_length, List.length_take] at hj
  rw [Addr.add_lit, hc j (by omega), ← hu]
  unfold iv
  rw [List.getElem?_map, List.getElem?_map, List.getElem?_take, if_pos (by omega)]
theorem src_drop {w : World} {base : Nat} {b o m c k : Nat} {L : List Nat} (h : QRow w base 3 1 (.slice (some ⟨b, o, none⟩) m c) m (iv L)) (hm : L.length = m) (hk : k ≤ m) : Src w (some ⟨b, o + k, none⟩) (m - k) 1 (iv (L.drop k)) := by
  refine ⟨by rw [iv_length, List.length_drop]; omega, fun h0 => ?_⟩
  obtain ⟨b', o', cap, e, _, _, _, _, hc, _⟩ := h.at (by omega)
  cases e
  refine ⟨_, rfl, fun j u hu => ?_⟩
  have hj := (List.getElem?_eq_some_iff.1 hu).1
  rw [iv_length, List.length_drop] at hj
  rw [Addr.add_lit, Nat.add_assoc, hc (k + j) (by omega), ← hu]
  unfold iv
  rw [List.getElem?_map, List.getElem?_map, List.getElem?_drop]
end Go.Proofs.Ytbioondlmgolkaa
namespace Go.Proofs.Ytbioondlmgolkaa
open Go.RowKit Go.Shelf

/-- one element of a table -/
theorem TblI.at {W : World} {la : Option Addr} {n : Nat} {r : Nat → Nat → Bool} (h : TblI W la n (fun _ => n) r) {x : Nat} (hx : x < n) : ∃ b o p o2 c, la = some ⟨b, o, none⟩ ∧ b < W.heap.size ∧ p < W.heap.size ∧ W.cell? ⟨b, o + x, none⟩ = some (.slice (some ⟨p, o2, none⟩) n c) ∧ ∀ y, y < n → W.cell? ⟨p, o2 + y, none⟩ = some (.bool (r x y)) := by
  obtain ⟨b, o, e, hb, hr⟩ := h (by omega)
  obtain ⟨p, c, h1, h2⟩ := hr x hx
  obtain ⟨b2, o2, rfl, hb2, hc⟩ := h2 (by show n ≠ 0; omega)
  exact ⟨b, o, b2, o2, c, e, hb, hb2, h1, hc⟩
end Go.Proofs.Ytbioondlmgolkaa
namespace Go.Proofs.Ytbioondlmgolkaa
open Go.RowKit Go.Shelf

/-- the endings in a square of n by n, with how often each is in D -/
def gl (n : Nat) (D : List (Nat × Nat)) (J : Nat) : List ((Nat × Nat) × Nat) := (List.range J).map fun j => ((j / n, j % n), D.count (j / n, j % n))
/-- what has been put into the next table -/
def part (n : Nat) (D : List (Nat × Nat)) (J x : Nat) : List (Nat × Nat) := (gl n D J).flatMap stC ++ ((nexts (J / n, J % n)).take x).flatMap fun e => List.replicate (D.count (J / n, J % n)) e
end Go.Proofs.Ytbioondlmgolkaa
namespace Go.Proofs.Ytbioondlmgolkaa
open Go.RowKit Go.Shelf

/-- uint(z) % uint(m) -/
def um (z : Int) (m : Nat) : Nat := ((IntKind.u64.wrap z).tmod (m : Int)).toNat
theorem u64_nonneg (z : Int) : 0 ≤ IntKind.u64.wrap z := by rw [IntKind.wrap_u64]; omega
theorem um_eq (z : Int) (m : Nat) : (IntKind.u64.wrap z).tmod (m : Int) = ((um z m : Nat) : Int) := by
  unfold um
  have := Int.tmod_nonneg (m : Int) (u64_nonneg z)
  omega
theorem um_lt (z : Int) {m : Nat} (hm : 1 ≤ m) : um z m < m := by
  have h := um_eq z m
  rw [Int.tmod_eq_emod_of_nonneg (u64_nonneg z)] at h
  have := Int.emod_lt_of_pos (IntKind.u64.wrap z) (show (0 : Int) < (m : Int) by omega)
  omega
/-- a row of integers, one of which is written -/
theorem QRow.fits {W : World} {base : Nat} {e : TypeId} {size : Nat} {p : Option Addr} {m c : Nat} {xs : List Value} (h : QRow W base e size (.slice p m c) m xs) : m ≤ c ∧ c ≤ maxLen := by
  rcases h.2 with ⟨e, h0⟩ | ⟨g, o, cap, cur, e, _, _, h5, h6, _⟩
  · cases e; exact ⟨by omega, by decide⟩
  · cases e; exact ⟨h5, h6⟩
theorem QRow.put {W : World} {base : Nat} {g o m c k : Nat} {f : Nat → Int} (h : QRow W base 3 1 (.slice (some ⟨g, o, none⟩) m c) m (ivI f m)) (hk : k < m) (z : Int) :
    W.frozen? ⟨g, o + k, none⟩ = false ∧ QRow (W.setCell ⟨g, o + k, none⟩ (.int .i64 z)) base 3 1 (.slice (some ⟨g, o, none⟩) m c) m (ivI (fun j => if j = k then z else f j) m) := by
  rcases h.2 with ⟨e, _⟩ | ⟨g', o', cap, cur, e, h1, h2, h3, h4, h5, h6⟩
  · cases e
  · cases e
    have hb : BoxN W g 3 cur := h2
    refine ⟨hb.frozen _, by rw [ivI_len]; omega, .inr ⟨g, o, c, _, rfl, h1, hb.set (o + k) (.int .i64 z), h3, h4, by simpa using h5, fun j hj => ?_⟩⟩
    have hj' : j < m := by omega
    rw [ivI_get _ _ _ hj']
    by_cases e : j = k
    · subst e
      rw [Array.getElem?_setIfInBounds_self_of_lt (by omega)]; simp
    · rw [Array.getElem?_setIfInBounds_ne (by omega), if_neg e, h6 j hj, ivI_get _ _ _ hj']
end Go.Proofs.Ytbioondlmgolkaa
namespace Go.Proofs.Ytbioondlmgolkaa
open Go.RowKit Go.Shelf

/-- a number brought into the range from 0 to m - 1 -/
theorem small_any (z : Int) (m : Nat) (w : World) (hm : 1 ≤ m) (h9 : m ≤ 1000) :
    Calls Try.prog 6 #[.int .i64 z, .int .i64 ((m : Int) - 1)] w fun e w' => e = .returned (.int .i64 (um z m : Nat)) ∧ w' = w := by
  have hum := um_eq z m
  have hlt := um_lt z (m := m) hm
  generalize um z m = uu at *
  have z1 : IntKind.u64.wrap (m : Int) = (m : Int) := u64_same _ (by omega)
  have z2 : IntKind.i64.wrap (uu : Int) = (uu : Int) := IntWalk.i64_in _ (by omega)
  have z3 : (m : Int) - 1 + 1 = (m : Int) := by omega
  have g1 : 0 < (m : Int) := by omega
  go_enter Try.func6, Try.ntmps6
  go_wp2
  go_ret
  exact ⟨rfl, rfl⟩
theorem isRight_yes (n : Nat) (w : World) (h2 : 2 ≤ n) (h16 : n ≤ 16) (hev : n % 2 = 0) :
    Calls Try.prog 25 #[.int .i64 (n : Int)] w fun e w' => e = .returned (.bool true) ∧ w' = w := by
  have g1 : (2 : Int) ≤ (n : Int) := by omega
  have g2 : (n : Int) ≤ 16 := by omega
  have g3 : Int.tmod (n : Int) 2 = 0 := by rw [Int.tmod_eq_emod_of_nonneg (by omega)]; omega
  go_enter Try.func25, Try.ntmps25
  go_wp2
  go_ret
  exact ⟨rfl, rfl⟩
end Go.Proofs.Ytbioondlmgolkaa
namespace Go.Proofs.Ytbioondlmgolkaa
open Go.RowKit

/-- the k-th match of round r of the circle -/
def cir (n r k : Nat) : Nat × Nat :=
  if k = 0 then (if r % 2 = 1 then (r, n - 1) else (n - 1, r))
  else if k % 2 = 0 then ((r + (n - 1) - k) % (n - 1), (r + k) % (n - 1)) else ((r + k) % (n - 1), (r + (n - 1) - k) % (n - 1))
def unord (p : Nat × Nat) : Nat × Nat := (min p.1 p.2, max p.1 p.2)
/-- a schedule of n boats: its matches by round and place -/
structure SchP (n : Nat) (m : Nat → Nat → Nat × Nat) : Prop where
  rng : ∀ r k, r < n - 1 → k < n / 2 → (m r k).1 < n ∧ (m r k).2 < n ∧ (m r k).1 ≠ (m r k).2
  met : ∀ r k r' k', r < n - 1 → k < n / 2 → r' < n - 1 → k' < n / 2 → unord (m r k) = unord (m r' k') → r = r' ∧ k = k'
  one : ∀ r k k', r < n - 1 → k < n / 2 → k' < n / 2 → k ≠ k' → (m r k).1 ≠ (m r k').1 ∧ (m r k).1 ≠ (m r k').2 ∧ (m r k).2 ≠ (m r k').1 ∧ (m r k).2 ≠ (m r k').2
def TurnP (m m' : Nat → Nat → Nat × Nat) : Prop := ∀ r k, m' r k = m r k ∨ m' r k = ((m r k).2, (m r k).1)
theorem TurnP.refl (m : Nat → Nat → Nat × Nat) : TurnP m m := fun _ _ => .inl rfl
theorem unord_turn (p : Nat × Nat) : unord (p.2, p.1) = unord p := by unfold unord; simp only [Nat.min_comm, Nat.max_comm]
theorem TurnP.un {m m' : Nat → Nat → Nat × Nat} (h : TurnP m m') (r k : Nat) : unord (m' r k) = unord (m r k) := by
  rcases h r k with e | e
  · rw [e]
  · rw [e, unord_turn]
theorem SchP.turn {n : Nat} {m m' : Nat → Nat → Nat × Nat} (h : SchP n m) (t : TurnP m m') : SchP n m' where
  rng := fun r k hr hk => by
    have h1 := h.rng r k hr hk
    rcases t r k with e | e
    · rw [e]; exact h1
    · rw [e]; exact ⟨h1.2.1, h1.1, h1.2.2.symm⟩
  met := fun r k r' k' hr hk hr' hk' e => h.met r k r' k' hr hk hr' hk' (by rw [← t.un, ← t.un]; exact e)
  one := fun r k k' hr hk hk' hne => by
    have h1 := h.one r k k' hr hk hk' hne
    rcases t r k with e | e <;> rcases t r k' with e' | e' <;> rw [e, e']
    · exact h1
    · exact ⟨h1.2.1, h1.1, h1.2.2.2, h1.2.2.1⟩
    · exact ⟨h1.2.2.1, h1.2.2.2, h1.1, h1.2.1⟩
    · exact ⟨h1.2.2.2, h1.2.2.1, h1.2.1, h1.1⟩
def allN (n : Nat) (p : Nat → Bool) : Bool := (List.range n).all p
theorem allN_iff {n : Nat} {p : Nat → Bool} : allN n p = true ↔ ∀ x, x < n → p x = true := by simp [allN]
def schB (n : Nat) : Bool := allN (n - 1) fun r => allN (n / 2) fun k => decide ((cir n r k).1 < n) && decide ((cir n r k).2 < n) && !decide ((cir n r k).1 = (cir n r k).2) &&
  (allN (n - 1) fun r' => allN (n / 2) fun k' => !(decide (min (cir n r k).1 (cir n r k).2 = min (cir n r' k').1 (cir n r' k').2) && decide (max (cir n r k).1 (cir n r k).2 = max (cir n r' k').1 (cir n r' k').2)) || (decide (r = r') && decide (k = k'))) &&
  (allN (n / 2) fun k' => decide (k = k') || (!decide ((cir n r k).1 = (cir n r k').1) && !decide ((cir n r k).1 = (cir n r k').2) && !decide ((cir n r k).2 = (cir n r k').1) && !decide ((cir n r k).2 = (cir n r k').2)))
theorem schB_sch {n : Nat} (h : schB n = true) : SchP n (cir n) := by
  unfold schB at h
  have key : ∀ r k, r < n - 1 → k < n / 2 → _ := fun r k hr hk => (allN_iff.1 ((allN_iff.1 h) r hr)) k hk
  refine ⟨fun r k hr hk => ?_, fun r k r' k' hr hk hr' hk' e => ?_, fun r k k' hr hk hk' hne => ?_⟩
  · have := key r k hr hk
    simp only [Bool.and_eq_true, decide_eq_true_eq, Bool.not_eq_true', decide_eq_false_iff_not] at this
    exact ⟨this.1.1.1.1, this.1.1.1.2, this.1.1.2⟩
  · have := key r k hr hk
    simp only [Bool.and_eq_true] at this
    have := (allN_iff.1 ((allN_iff.1 this.1.2) r' hr')) k' hk'
    unfold unord at e
    simp only [Prod.mk.injEq] at e
    simpa [e.1, e.2] using this
  · have := key r k hr hk
    simp only [Bool.and_eq_true] at this
    have := (allN_iff.1 this.2) k' hk'
    simpa [hne, and_assoc] using this
set_option maxRecDepth 100000 in
theorem sch12 : schB 12 = true := by decide +kernel
set_option maxRecDepth 100000 in
theorem sch10 : schB 10 = true := by decide +kernel
set_option maxRecDepth 100000 in
theorem sch8 : schB 8 = true := by decide +kernel
set_option maxRecDepth 100000 in
theorem sch6 : schB 6 = true := by decide +kernel
set_option maxRecDepth 100000 in
theorem sch4 : schB 4 = true := by decide +kernel
set_option maxRecDepth 100000 in
theorem sch2 : schB 2 = true := by decide +kernel
theorem cir_sch {n : Nat} (h : n = 2 ∨ n = 4 ∨ n = 6 ∨ n = 8 ∨ n = 10 ∨ n = 12) : SchP n (cir n) := by
  rcases h with e | e | e | e | e | e
  · subst e; exact schB_sch sch2
  · subst e; exact schB_sch sch4
  · subst e; exact schB_sch sch6
  · subst e; exact schB_sch sch8
  · subst e; exact schB_sch sch10
  · subst e; exact schB_sch sch12
end Go.Proofs.Ytbioondlmgolkaa
namespace Go.Proofs.Ytbioondlmgolkaa
open Go.RowKit Go.Shelf

theorem infoP : (Try.prog.info? 28).map (fun i => (i.zero, i.size, i.bytes)) = some (some (.agg #[.int .i64 0, .int .i64 0]), 2, 16) := by kernel_rfl
theorem infoR : (Try.prog.info? 22).map (fun i => (i.zero, i.size, i.bytes)) = some (some (.slice none 0 0), 1, 24) := by kernel_rfl
theorem underR : Try.prog.underlying 22 = some (.slice 28) := by kernel_rfl
theorem underS : Try.prog.underlying 24 = some (.slice 22) := by kernel_rfl
/-- the first matches of a round, as pairs of integers -/
def rowL (m : Nat → Nat → Nat × Nat) (r k : Nat) : List (Int × Int) := (List.range k).map fun i => (((m r i).1 : Int), ((m r i).2 : Int))
theorem rowL_len (m : Nat → Nat → Nat × Nat) (r k : Nat) : (rowL m r k).length = k := by simp [rowL]
theorem rowL_snoc (m : Nat → Nat → Nat × Nat) (r k : Nat) : rowL m r (k + 1) = rowL m r k ++ [(((m r k).1 : Int), ((m r k).2 : Int))] := by unfold rowL; rw [List.range_succ, List.map_append]; rfl
theorem cells_snoc2 (m : Nat → Nat → Nat × Nat) (r k : Nat) : pairCells (rowL m r (k + 1)) = pairCells (rowL m r k) ++ [.int .i64 ((m r k).1 : Int), .int .i64 ((m r k).2 : Int)] := by rw [rowL_snoc, pairCells_append]; rfl
/-- k rounds of h matches, that the call has made -/
def SchR (W : World) (base : Nat) (v : Value) (k h : Nat) (m : Nat → Nat → Nat × Nat) : Prop := ∃ xs, QRow W base 22 1 v k xs ∧ (∀ r, r < k → ∃ p c, xs[r]? = some (.slice p h c) ∧ QRow W base 28 2 (.slice p h c) h (pairCells (rowL m r h))) ∧ ∀ r r' x x' b, r < k → r' < k → xs[r]? = some x → xs[r']? = some x' → x.ownBlock = some b → x'.ownBlock = some b → r = r'
theorem SchR.nil (W : World) (base h : Nat) (m : Nat → Nat → Nat × Nat) : SchR W base (.slice none 0 0) 0 h m := ⟨[], QRow.nil _ _ _ _, fun r hr => by omega, fun r _ _ _ _ hr => by omega⟩
theorem SchR.isSlice {W : World} {base : Nat} {v : Value} {k h : Nat} {m : Nat → Nat → Nat × Nat} (H : SchR W base v k h m) : ∃ p c, v = .slice p k c := H.elim fun _ h => h.1.isSlice
theorem SchR.below {n base : Nat} {w W : World} {v : Value} {k h : Nat} {m : Nat → Nat → Nat × Nat} (H : SchR w base v k h m) (hB : Below n w W) (hn : w.heap.size ≤ n) : SchR W base v k h m := by
  obtain ⟨xs, h1, h2, h5⟩ := H
  refine ⟨xs, h1.below hB fun k' hk' => Nat.lt_of_lt_of_le (h1.lt k' hk').2 hn, fun r hr => ?_, h5⟩
  obtain ⟨p, c, h3, h4⟩ := h2 r hr
  exact ⟨p, c, h3, h4.below hB fun k' hk' => Nat.lt_of_lt_of_le (h4.lt k' hk').2 hn⟩
theorem SchR.push {W W' : World} {base : Nat} {v v' : Value} {k h : Nat} {m : Nat → Nat → Nat × Nat} {xs : List Value} {p : Option Addr} {c : Nat}
    (h2 : ∀ r, r < k → ∃ p c, xs[r]? = some (.slice p h c) ∧ QRow W base 28 2 (.slice p h c) h (pairCells (rowL m r h))) (h1 : QRow W base 22 1 v k xs)
    (hq : QRow W base 28 2 (.slice p h c) h (pairCells (rowL m k h))) (hg : W.grownBy W' v.ownBlock) (h3 : QRow W' base 22 1 v' (k + 1) (xs ++ [.slice p h c]))
    (hD : ∀ r r' x x' b, r < k → r' < k → xs[r]? = some x → xs[r']? = some x' → x.ownBlock = some b → x'.ownBlock = some b → r = r') (hN : ∀ r x b, r < k → xs[r]? = some x → x.ownBlock = some b → (Value.slice p h c).ownBlock ≠ some b) : SchR W' base v' (k + 1) h m := by
  have hxl := h1.1
  have hat : ∀ r x, r < k + 1 → (xs ++ [Value.slice p h c])[r]? = some x → (r < k ∧ xs[r]? = some x) ∨ (r = k ∧ x = .slice p h c) := fun r x hr hx => by
    by_cases e : r = k
    · subst e
      rw [List.getElem?_append_right (by omega)] at hx
      rw [show r - xs.length = 0 by omega] at hx
      exact .inr ⟨rfl, by simpa using hx.symm⟩
    · rw [List.getElem?_append_left (by omega)] at hx
      exact .inl ⟨by omega, hx⟩
  refine ⟨_, h3, fun r hr => ?_, fun r r' x x' b hr hr' hx hx' hb hb' => ?_⟩
  rotate_left
  · rcases hat r x hr hx with ⟨h4, h5⟩ | ⟨rfl, rfl⟩
    · rcases hat r' x' hr' hx' with ⟨h6, h7⟩ | ⟨rfl, rfl⟩
      · exact hD r r' x x' b h4 h6 h5 h7 hb hb'
      · exact absurd hb' (hN r x b h4 h5 hb)
    · rcases hat r' x' hr' hx' with ⟨h6, h7⟩ | ⟨rfl, rfl⟩
      · exact absurd hb (hN r' x' b h6 h7 hb')
      · rfl
  by_cases e : r = k
  · subst e
    refine ⟨p, c, ?_, hq.kept hg (ne_or (hq.ne h1 (by decide)))⟩
    rw [List.getElem?_append_right (by omega)]; simp [hxl]
  · obtain ⟨p', c', h4, h5⟩ := h2 r (by omega)
    refine ⟨p', c', ?_, h5.kept hg (ne_or (h5.ne h1 (by decide)))⟩
    rw [List.getElem?_append_left (by omega)]; exact h4
theorem cir_0 {n r : Nat} (h : r % 2 = 1) : cir n r 0 = (r, n - 1) := by unfold cir; rw [if_pos rfl, if_pos h]
theorem cir_0' {n r : Nat} (h : ¬ r % 2 = 1) : cir n r 0 = (n - 1, r) := by unfold cir; rw [if_pos rfl, if_neg h]
theorem cir_e {n r k : Nat} (h0 : k ≠ 0) (h : k % 2 = 0) : cir n r k = ((r + (n - 1) - k) % (n - 1), (r + k) % (n - 1)) := by unfold cir; rw [if_neg h0, if_pos h]
theorem cir_o {n r k : Nat} (h0 : k ≠ 0) (h : ¬ k % 2 = 0) : cir n r k = ((r + k) % (n - 1), (r + (n - 1) - k) % (n - 1)) := by unfold cir; rw [if_neg h0, if_neg h]
theorem qrow_new2 (W : World) (t : TypeId) (u v : Value) {base : Nat} (hb : base ≤ W.heap.size) : QRow (W.alloc (.cells #[u, v] t)) base t 2 (.slice (some ⟨W.heap.size, 0, none⟩) 1 1) 1 [u, v] :=
  ⟨rfl, .inr ⟨W.heap.size, 0, 1, #[u, v], rfl, hb, World.alloc_heap_new W _, Nat.le_refl _, by decide, by simp, fun j hj => by
    rcases (show j = 0 ∨ j = 1 by omega) with rfl | rfl <;> rfl⟩⟩
set_option maxRecDepth 100000 in
set_option maxHeartbeats 4000000 in
theorem Circle_ok (n : Nat) (w : World) (h2 : 2 ≤ n) (h16 : n ≤ 16) (hev : n % 2 = 0) :
    Calls Try.prog 7 #[.int .i64 (n : Int)] w fun e w' => ∃ v, e = .returned (.tuple #[v, .int .i64 0]) ∧ SchR w' w.heap.size v (n - 1) (n / 2) (cir n) ∧ Below w.heap.size w w' := by
  obtain ⟨i0, hi0, hz0, hz1, hz2⟩ := info_parts infoP
  obtain ⟨i1, hi1, hy0, hy1, hy2⟩ := info_parts infoR
  have HIR := Lib.hid (isRight_yes n w h2 h16 hev)
  obtain ⟨h, hh⟩ : ∃ h, Hid (n / 2 = h) := ⟨_, rfl⟩
  have hdiv : Int.tdiv (n : Int) 2 = (h : Int) := by have := hh.out; rw [Int.tdiv_eq_ediv_of_nonneg (by omega)]; omega
  have HN2 : Hid (n = 2 * h) := by have := hh.out; unfold Hid; omega
  rw [hh.out]
  obtain ⟨n1, hn1⟩ : ∃ n1, Hid (n - 1 = n1) := ⟨_, rfl⟩
  have HN1 : Hid (n = n1 + 1) := by have := hn1.out; unfold Hid; omega
  have hsub : (n : Int) - 1 = (n1 : Int) := by have := hn1.out; omega
  have hn16 : n1 ≤ 15 := by have := hn1.out; omega
  have hh8 : h ≤ 8 := by have := HN2.out; omega
  clear hev
  rw [hn1.out]
  go_enter Try.func7, Try.ntmps7
  go_upto_region 5 with (go_at_call 25; refine HIR.out.mono ?_; rintro e w4 ⟨rfl, hw4⟩; replace hw4 := hw4.symm; subst hw4; try dsimp only)
  go_loopw [4, 16] (fun s4 s16 wr => ∃ r : Nat, r ≤ n1 ∧ s16 = .int .i64 (r : Int) ∧ Hid (SchR wr w.heap.size s4 r h (cir n)) ∧ Hid (Below w.heap.size w wr)) (fun _ s16 _ => n1 - (intOf s16).toNat)
  case atStart => exact ⟨0, by omega, rfl, SchR.nil _ _ _ _, Below.refl _ _⟩
  case round =>
    obtain ⟨r, hr, rfl, hS, hB⟩ := hrel
    obtain ⟨p4, c4, rfl⟩ := hS.out.isSlice
    by_cases hrn : r < n1
    · have g1 : (r : Int) < (n1 : Int) := by omega
      have g0 : (0 : Int) ≤ (r : Int) := by omega
      obtain ⟨wo, hwo⟩ : ∃ wo, Hid (wo = wr) := ⟨_, rfl⟩
      rw [← hwo.out] at hS hB ⊢
      clear hwo
      by_cases hodd : r % 2 = 1
      · have hrem : Int.tmod (r : Int) 2 = 1 := by rw [Int.tmod_eq_emod_of_nonneg (by omega)]; omega
        go_upto_region 12 with (fail)
        have HQ0 := Lib.hid (qrow_new2 (wo.alloc (.cells #[.int .i64 (r : Int), .int .i64 (n1 : Int)] 28)) 28 (.int .i64 (r : Int)) (.int .i64 (n1 : Int)) (base := wo.heap.size) (by simp))
        have HBX : Hid (Below wo.heap.size wo ((wo.alloc (.cells #[.int .i64 (r : Int), .int .i64 (n1 : Int)] 28)).alloc (.cells #[.int .i64 (r : Int), .int .i64 (n1 : Int)] 28))) := ((Below.refl _ _).alloc (Nat.le_refl _) _).alloc (by simp) _
        have HSZ : Hid ((wo.alloc (.cells #[.int .i64 (r : Int), .int .i64 (n1 : Int)] 28)).heap.size = wo.heap.size + 1) := by unfold Hid; simp
        rw [HSZ.out] at HQ0
        generalize ((wo.alloc (.cells #[.int .i64 (r : Int), .int .i64 (n1 : Int)] 28)).alloc (.cells #[.int .i64 (r : Int), .int .i64 (n1 : Int)] 28)) = X at *
        clear HSZ
        have HQ1 : Hid (QRow X wo.heap.size 28 2 (.slice (some ⟨wo.heap.size + 1, 0, none⟩) 1 1) 1 (pairCells (rowL (cir n) r 1))) := by
          rw [show rowL (cir n) r 1 = [(((r : Nat) : Int), ((n1 : Nat) : Int))] by unfold rowL; rw [show List.range 1 = [0] from rfl]; simp only [List.map_cons, List.map_nil]; rw [cir_0 hodd, hn1.out]]
          exact HQ0.out
        clear HQ0
        go_loopw [7, 8] (fun s7 s8 wr => ∃ k : Nat, 1 ≤ k ∧ k ≤ h ∧ s8 = .int .i64 (k : Int) ∧ Hid (QRow wr wo.heap.size 28 2 s7 k (pairCells (rowL (cir n) r k))) ∧ Hid (Below wo.heap.size wo wr)) (fun _ s8 _ => h - (intOf s8).toNat)
        case atStart => exact ⟨1, by omega, by have := HN2.out; omega, rfl, HQ1, HBX⟩
        case round =>
          clear HQ1 HBX hrem
          obtain ⟨k, hk1, hk, rfl, hQ, hBo⟩ := hrel
          obtain ⟨p7, c7, rfl⟩ := hQ.out.isSlice
          have hwo : wo.heap.size ≤ wr.heap.size := hBo.out.size
          by_cases hkh : k < h
          · have g2 : (k : Int) < (h : Int) := by omega
            have HE1 : Hid (Int.tmod ((r : Int) + (k : Int)) (n1 : Int) = (((r + k) % n1 : Nat) : Int)) := by unfold Hid; rw [Int.tmod_eq_emod_of_nonneg (by omega)]; rfl
            have HE2 : Hid (Int.tmod ((r : Int) - (k : Int) + (n : Int) - 1) (n1 : Int) = (((r + n1 - k) % n1 : Nat) : Int)) := by
              have h1 := HN1.out
              have h2 := HN2.out
              unfold Hid
              rw [show (r : Int) - (k : Int) + (n : Int) - 1 = ((r + n1 - k : Nat) : Int) by omega, Int.tmod_eq_emod_of_nonneg (by omega)]; rfl
            have e1 := HE1.out
            have e2 := HE2.out
            have HCE : Hid (k % 2 = 0 → cir n r k = ((r + n1 - k) % n1, (r + k) % n1)) := fun h => by rw [cir_e (by omega) h, hn1.out]
            have HCO : Hid (¬ k % 2 = 0 → cir n r k = ((r + k) % n1, (r + n1 - k) % n1)) := fun h => by rw [cir_o (by omega) h, hn1.out]
            have ha : (r + k) % n1 < n1 := Nat.mod_lt _ (by omega)
            have hb : (r + n1 - k) % n1 < n1 := Nat.mod_lt _ (by omega)
            have hn0 : ((n1 : Int) == 0) = false := by rw [beq_eq_false_iff_ne]; omega
            have hn0' : (n1 : Int) ≠ 0 := by omega
            generalize (r + k) % n1 = a at *
            generalize (r + n1 - k) % n1 = b at *
            clear HE1 HE2
            go_wp2
            go_quiet (fail)
            have hQ' : Hid (QRow (wr.drewN nq) wo.heap.size 28 2 (.slice p7 k c7) k (pairCells (rowL (cir n) r k))) := hQ.out
            have hBo' := Lib.hid (below_dr hBo.out nq)
            clear hQ hBo hwo
            have hQ := hQ'
            have hBo := hBo'
            clear hQ' hBo'
            generalize wr.drewN nq = wA at *
            have hwo : wo.heap.size ≤ wA.heap.size := hBo.out.size
            clear e1 e2
            have HLT := Lib.hid (fun kk (e : _ = some kk) => (hQ.out.lt kk e).1)
            by_cases hev : k % 2 = 0
            · have hrem : Int.tmod (k : Int) 2 = 0 := by rw [Int.tmod_eq_emod_of_nonneg (by omega)]; omega
              have HSN : Hid (pairCells (rowL (cir n) r (k + 1)) = pairCells (rowL (cir n) r k) ++ [.int .i64 (b : Int), .int .i64 (a : Int)]) := by rw [cells_snoc2, HCE.out hev]; rfl
              have HQA := Lib.hid (hQ.out.alloc (.cells #[.int .i64 (b : Int), .int .i64 (a : Int)] 28))
              clear HCE HCO hev
              go_wp2_with (at_builtin; go_must (refine wpList_append_q _ rfl (.tmp 58) (.tmp 62) 22 rfl wo.heap.size 28 i0 _ 2 16 underR hi0 hz0 hz1 hz2 rfl (by decide) _ k (pairCells (rowL (cir n) r k)) rfl HQA.out ⟨wA.heap.size, 0, none⟩ 1 1 [.int .i64 (b : Int), .int .i64 (a : Int)] rfl rfl (cells_newB _ _ _ _) (by simp [Value.oneCell']) (by unfold maxLen; omega) (by omega) (by simp; omega) ?_); intro v7 w7 hq7 hg7 ho7; have HQ7 : Hid (QRow w7 wo.heap.size 28 2 v7 (k + 1) (pairCells (rowL (cir n) r (k + 1)))) := (by rw [HSN.out]; exact hq7); have HB7 : Hid (Below wo.heap.size wo w7) := Below.grown (hBo.out.alloc hwo _) hg7 (by simp; omega) (fun kk e => HLT.out kk e); clear hq7 hg7 ho7)
              exact ⟨⟨k + 1, by omega, by omega, int_eq (by omega), HQ7, HB7⟩, by simp [intOf]; omega⟩
            · have hrem : Int.tmod (k : Int) 2 = 1 := by rw [Int.tmod_eq_emod_of_nonneg (by omega)]; omega
              have HSN : Hid (pairCells (rowL (cir n) r (k + 1)) = pairCells (rowL (cir n) r k) ++ [.int .i64 (a : Int), .int .i64 (b : Int)]) := by rw [cells_snoc2, HCO.out hev]; rfl
              have HQA := Lib.hid (hQ.out.alloc (.cells #[.int .i64 (a : Int), .int .i64 (b : Int)] 28))
              clear HCE HCO hev
              go_wp2_with (at_builtin; go_must (refine wpList_append_q _ rfl (.tmp 58) (.tmp 62) 22 rfl wo.heap.size 28 i0 _ 2 16 underR hi0 hz0 hz1 hz2 rfl (by decide) _ k (pairCells (rowL (cir n) r k)) rfl HQA.out ⟨wA.heap.size, 0, none⟩ 1 1 [.int .i64 (a : Int), .int .i64 (b : Int)] rfl rfl (cells_newB _ _ _ _) (by simp [Value.oneCell']) (by unfold maxLen; omega) (by omega) (by simp; omega) ?_); intro v7 w7 hq7 hg7 ho7; have HQ7 : Hid (QRow w7 wo.heap.size 28 2 v7 (k + 1) (pairCells (rowL (cir n) r (k + 1)))) := (by rw [HSN.out]; exact hq7); have HB7 : Hid (Below wo.heap.size wo w7) := Below.grown (hBo.out.alloc hwo _) hg7 (by simp; omega) (fun kk e => HLT.out kk e); clear hq7 hg7 ho7)
              exact ⟨⟨k + 1, by omega, by omega, int_eq (by omega), HQ7, HB7⟩, by simp [intOf]; omega⟩
          · have g2 : ¬ (k : Int) < (h : Int) := by omega
            obtain rfl : h = k := by omega
            clear g2 hkh hk hk1
            obtain ⟨xs, h1o, h2o, h5o⟩ := hS.out
            have HBW := Lib.hid (hB.out.trans (hBo.out.mono hB.out.size))
            have hww : w.heap.size ≤ wr.heap.size := HBW.out.size
            have h1 := h1o.below hBo.out (fun k' hk' => (h1o.lt k' hk').2)
            have HDD := Lib.hid h5o
            have HNN : Hid (∀ r' x b, r' < r → xs[r']? = some x → x.ownBlock = some b → (Value.slice p7 h c7).ownBlock ≠ some b) := fun r' x b hr' hx hb e => by
              obtain ⟨p, c, e1, e2⟩ := h2o r' hr'
              rw [hx] at e1
              cases e1
              have h6 := (e2.lt b hb).2
              have h7 := (hQ.out.lt b e).1
              omega
            have H1A := Lib.hid (h1.alloc (.cells #[.slice p7 h c7] 22))
            have H2A : Hid (∀ r', r' < r → ∃ p c, xs[r']? = some (.slice p h c) ∧ QRow (wr.alloc (.cells #[.slice p7 h c7] 22)) w.heap.size 28 2 (.slice p h c) h (pairCells (rowL (cir n) r' h))) := fun r' hr' => by
              obtain ⟨p, c, e1, e2⟩ := h2o r' hr'
              exact ⟨p, c, e1, (e2.below hBo.out (fun k' hk' => (e2.lt k' hk').2)).alloc _⟩
            have HQA := Lib.hid ((hQ.out.mono hB.out.size).alloc (.cells #[.slice p7 h c7] 22))
            have HLT := Lib.hid (fun kk (e : _ = some kk) => (h1.lt kk e).1)
            clear h1 h1o h2o h5o
            go_wp2_with (at_builtin; go_must (refine wpList_append_q _ rfl (.tmp 64) (.tmp 66) 24 rfl w.heap.size 22 i1 (.slice none 0 0) 1 24 underS hi1 hy0 hy1 hy2 rfl (by decide) _ r xs rfl H1A.out ⟨_, 0, none⟩ 1 1 [.slice p7 h c7] rfl rfl (cells_new1 _ _ _) (by simp [Value.oneCell']) (by unfold maxLen; omega) (by omega) (by simp; omega) ?_); intro v5 w5 hq5 hg5 ho5; have HR5 : Hid (SchR w5 w.heap.size v5 (r + 1) h (cir n)) := SchR.push H2A.out H1A.out HQA.out hg5 hq5 HDD.out HNN.out; have HB5 : Hid (Below w.heap.size w w5) := Below.grown (HBW.out.alloc hww _) hg5 (by simp; omega) (fun kk e => HLT.out kk e); clear hq5 hg5 ho5)
            exact ⟨⟨r + 1, by omega, int_eq (by omega), HR5, HB5⟩, by simp [intOf]; omega⟩
      · have hrem : Int.tmod (r : Int) 2 = 0 := by rw [Int.tmod_eq_emod_of_nonneg (by omega)]; omega
        go_upto_region 12 with (fail)
        have HQ0 := Lib.hid (qrow_new2 (wo.alloc (.cells #[.int .i64 (n1 : Int), .int .i64 (r : Int)] 28)) 28 (.int .i64 (n1 : Int)) (.int .i64 (r : Int)) (base := wo.heap.size) (by simp))
        have HBX : Hid (Below wo.heap.size wo ((wo.alloc (.cells #[.int .i64 (n1 : Int), .int .i64 (r : Int)] 28)).alloc (.cells #[.int .i64 (n1 : Int), .int .i64 (r : Int)] 28))) := ((Below.refl _ _).alloc (Nat.le_refl _) _).alloc (by simp) _
        have HSZ : Hid ((wo.alloc (.cells #[.int .i64 (n1 : Int), .int .i64 (r : Int)] 28)).heap.size = wo.heap.size + 1) := by unfold Hid; simp
        rw [HSZ.out] at HQ0
        generalize ((wo.alloc (.cells #[.int .i64 (n1 : Int), .int .i64 (r : Int)] 28)).alloc (.cells #[.int .i64 (n1 : Int), .int .i64 (r : Int)] 28)) = X at *
        clear HSZ
        have HQ1 : Hid (QRow X wo.heap.size 28 2 (.slice (some ⟨wo.heap.size + 1, 0, none⟩) 1 1) 1 (pairCells (rowL (cir n) r 1))) := by
          rw [show rowL (cir n) r 1 = [(((n1 : Nat) : Int), ((r : Nat) : Int))] by unfold rowL; rw [show List.range 1 = [0] from rfl]; simp only [List.map_cons, List.map_nil]; rw [cir_0' hodd, hn1.out]]
          exact HQ0.out
        clear HQ0
        go_loopw [7, 8] (fun s7 s8 wr => ∃ k : Nat, 1 ≤ k ∧ k ≤ h ∧ s8 = .int .i64 (k : Int) ∧ Hid (QRow wr wo.heap.size 28 2 s7 k (pairCells (rowL (cir n) r k))) ∧ Hid (Below wo.heap.size wo wr)) (fun _ s8 _ => h - (intOf s8).toNat)
        case atStart => exact ⟨1, by omega, by have := HN2.out; omega, rfl, HQ1, HBX⟩
        case round =>
          clear HQ1 HBX hrem
          obtain ⟨k, hk1, hk, rfl, hQ, hBo⟩ := hrel
          obtain ⟨p7, c7, rfl⟩ := hQ.out.isSlice
          have hwo : wo.heap.size ≤ wr.heap.size := hBo.out.size
          by_cases hkh : k < h
          · have g2 : (k : Int) < (h : Int) := by omega
            have HE1 : Hid (Int.tmod ((r : Int) + (k : Int)) (n1 : Int) = (((r + k) % n1 : Nat) : Int)) := by unfold Hid; rw [Int.tmod_eq_emod_of_nonneg (by omega)]; rfl
            have HE2 : Hid (Int.tmod ((r : Int) - (k : Int) + (n : Int) - 1) (n1 : Int) = (((r + n1 - k) % n1 : Nat) : Int)) := by
              have h1 := HN1.out
              have h2 := HN2.out
              unfold Hid
              rw [show (r : Int) - (k : Int) + (n : Int) - 1 = ((r + n1 - k : Nat) : Int) by omega, Int.tmod_eq_emod_of_nonneg (by omega)]; rfl
            have e1 := HE1.out
            have e2 := HE2.out
            have HCE : Hid (k % 2 = 0 → cir n r k = ((r + n1 - k) % n1, (r + k) % n1)) := fun h => by rw [cir_e (by omega) h, hn1.out]
            have HCO : Hid (¬ k % 2 = 0 → cir n r k = ((r + k) % n1, (r + n1 - k) % n1)) := fun h => by rw [cir_o (by omega) h, hn1.out]
            have ha : (r + k) % n1 < n1 := Nat.mod_lt _ (by omega)
            have hb : (r + n1 - k) % n1 < n1 := Nat.mod_lt _ (by omega)
            have hn0 : ((n1 : Int) == 0) = false := by rw [beq_eq_false_iff_ne]; omega
            have hn0' : (n1 : Int) ≠ 0 := by omega
            generalize (r + k) % n1 = a at *
            generalize (r + n1 - k) % n1 = b at *
            clear HE1 HE2
            go_wp2
            go_quiet (fail)
            have hQ' : Hid (QRow (wr.drewN nq) wo.heap.size 28 2 (.slice p7 k c7) k (pairCells (rowL (cir n) r k))) := hQ.out
            have hBo' := Lib.hid (below_dr hBo.out nq)
            clear hQ hBo hwo
            have hQ := hQ'
            have hBo := hBo'
            clear hQ' hBo'
            generalize wr.drewN nq = wA at *
            have hwo : wo.heap.size ≤ wA.heap.size := hBo.out.size
            clear e1 e2
            have HLT := Lib.hid (fun kk (e : _ = some kk) => (hQ.out.lt kk e).1)
            by_cases hev : k % 2 = 0
            · have hrem : Int.tmod (k : Int) 2 = 0 := by rw [Int.tmod_eq_emod_of_nonneg (by omega)]; omega
              have HSN : Hid (pairCells (rowL (cir n) r (k + 1)) = pairCells (rowL (cir n) r k) ++ [.int .i64 (b : Int), .int .i64 (a : Int)]) := by rw [cells_snoc2, HCE.out hev]; rfl
              have HQA := Lib.hid (hQ.out.alloc (.cells #[.int .i64 (b : Int), .int .i64 (a : Int)] 28))
              clear HCE HCO hev
              go_wp2_with (at_builtin; go_must (refine wpList_append_q _ rfl (.tmp 58) (.tmp 62) 22 rfl wo.heap.size 28 i0 _ 2 16 underR hi0 hz0 hz1 hz2 rfl (by decide) _ k (pairCells (rowL (cir n) r k)) rfl HQA.out ⟨wA.heap.size, 0, none⟩ 1 1 [.int .i64 (b : Int), .int .i64 (a : Int)] rfl rfl (cells_newB _ _ _ _) (by simp [Value.oneCell']) (by unfold maxLen; omega) (by omega) (by simp; omega) ?_); intro v7 w7 hq7 hg7 ho7; have HQ7 : Hid (QRow w7 wo.heap.size 28 2 v7 (k + 1) (pairCells (rowL (cir n) r (k + 1)))) := (by rw [HSN.out]; exact hq7); have HB7 : Hid (Below wo.heap.size wo w7) := Below.grown (hBo.out.alloc hwo _) hg7 (by simp; omega) (fun kk e => HLT.out kk e); clear hq7 hg7 ho7)
              exact ⟨⟨k + 1, by omega, by omega, int_eq (by omega), HQ7, HB7⟩, by simp [intOf]; omega⟩
            · have hrem : Int.tmod (k : Int) 2 = 1 := by rw [Int.tmod_eq_emod_of_nonneg (by omega)]; omega
              have HSN : Hid (pairCells (rowL (cir n) r (k + 1)) = pairCells (rowL (cir n) r k) ++ [.int .i64 (a : Int), .int .i64 (b : Int)]) := by rw [cells_snoc2, HCO.out hev]; rfl
              have HQA := Lib.hid (hQ.out.alloc (.cells #[.int .i64 (a : Int), .int .i64 (b : Int)] 28))
              clear HCE HCO hev
              go_wp2_with (at_builtin; go_must (refine wpList_append_q _ rfl (.tmp 58) (.tmp 62) 22 rfl wo.heap.size 28 i0 _ 2 16 underR hi0 hz0 hz1 hz2 rfl (by decide) _ k (pairCells (rowL (cir n) r k)) rfl HQA.out ⟨wA.heap.size, 0, none⟩ 1 1 [.int .i64 (a : Int), .int .i64 (b : Int)] rfl rfl (cells_newB _ _ _ _) (by simp [Value.oneCell']) (by unfold maxLen; omega) (by omega) (by simp; omega) ?_); intro v7 w7 hq7 hg7 ho7; have HQ7 : Hid (QRow w7 wo.heap.size 28 2 v7 (k + 1) (pairCells (rowL (cir n) r (k + 1)))) := (by rw [HSN.out]; exact hq7); have HB7 : Hid (Below wo.heap.size wo w7) := Below.grown (hBo.out.alloc hwo _) hg7 (by simp; omega) (fun kk e => HLT.out kk e); clear hq7 hg7 ho7)
              exact ⟨⟨k + 1, by omega, by omega, int_eq (by omega), HQ7, HB7⟩, by simp [intOf]; omega⟩
          · have g2 : ¬ (k : Int) < (h : Int) := by omega
            obtain rfl : h = k := by omega
            clear g2 hkh hk hk1
            obtain ⟨xs, h1o, h2o, h5o⟩ := hS.out
            have HBW := Lib.hid (hB.out.trans (hBo.out.mono hB.out.size))
            have hww : w.heap.size ≤ wr.heap.size := HBW.out.size
            have h1 := h1o.below hBo.out (fun k' hk' => (h1o.lt k' hk').2)
            have HDD := Lib.hid h5o
            have HNN : Hid (∀ r' x b, r' < r → xs[r']? = some x → x.ownBlock = some b → (Value.slice p7 h c7).ownBlock ≠ some b) := fun r' x b hr' hx hb e => by
              obtain ⟨p, c, e1, e2⟩ := h2o r' hr'
              rw [hx] at e1
              cases e1
              have h6 := (e2.lt b hb).2
              have h7 := (hQ.out.lt b e).1
              omega
            have H1A := Lib.hid (h1.alloc (.cells #[.slice p7 h c7] 22))
            have H2A : Hid (∀ r', r' < r → ∃ p c, xs[r']? = some (.slice p h c) ∧ QRow (wr.alloc (.cells #[.slice p7 h c7] 22)) w.heap.size 28 2 (.slice p h c) h (pairCells (rowL (cir n) r' h))) := fun r' hr' => by
              obtain ⟨p, c, e1, e2⟩ := h2o r' hr'
              exact ⟨p, c, e1, (e2.below hBo.out (fun k' hk' => (e2.lt k' hk').2)).alloc _⟩
            have HQA := Lib.hid ((hQ.out.mono hB.out.size).alloc (.cells #[.slice p7 h c7] 22))
            have HLT := Lib.hid (fun kk (e : _ = some kk) => (h1.lt kk e).1)
            clear h1 h1o h2o h5o
            go_wp2_with (at_builtin; go_must (refine wpList_append_q _ rfl (.tmp 64) (.tmp 66) 24 rfl w.heap.size 22 i1 (.slice none 0 0) 1 24 underS hi1 hy0 hy1 hy2 rfl (by decide) _ r xs rfl H1A.out ⟨_, 0, none⟩ 1 1 [.slice p7 h c7] rfl rfl (cells_new1 _ _ _) (by simp [Value.oneCell']) (by unfold maxLen; omega) (by omega) (by simp; omega) ?_); intro v5 w5 hq5 hg5 ho5; have HR5 : Hid (SchR w5 w.heap.size v5 (r + 1) h (cir n)) := SchR.push H2A.out H1A.out HQA.out hg5 hq5 HDD.out HNN.out; have HB5 : Hid (Below w.heap.size w w5) := Below.grown (HBW.out.alloc hww _) hg5 (by simp; omega) (fun kk e => HLT.out kk e); clear hq5 hg5 ho5)
            exact ⟨⟨r + 1, by omega, int_eq (by omega), HR5, HB5⟩, by simp [intOf]; omega⟩
    · have g1 : ¬ (r : Int) < (n1 : Int) := by omega
      obtain rfl : n1 = r := by omega
      go_wp2
      refine bodyPost_ret (v := .tuple #[.slice p4 n1 c4, .int .i64 0]) (by simp [results, Try.f7, go_sem]) rfl ?_
      exact ⟨_, rfl, hS.out, hB.out⟩
end Go.Proofs.Ytbioondlmgolkaa
namespace Go.Proofs.Ytbioondlmgolkaa
open Go.RowKit Go.Shelf
attribute [local go_sem] Oper.semAt_some

/-- a schedule as it lies in memory, all of it below K -/
def SchK (W : World) (K : Nat) (p : Option Addr) (k h : Nat) (m : Nat → Nat → Nat × Nat) : Prop :=
  K ≤ W.heap.size ∧ (k ≠ 0 → ∃ b o, p = some ⟨b, o, none⟩ ∧ b < K ∧ ∀ r, r < k → ∃ q c, W.cell? ⟨b, o + r, none⟩ = some (.slice q h c) ∧
    (h ≠ 0 → ∃ b' o', q = some ⟨b', o', none⟩ ∧ b' < K ∧ ∀ i, i < h → W.cell? ⟨b', o' + i * 2, none⟩ = some (.int .i64 ((m r i).1 : Int)) ∧ W.cell? ⟨b', o' + i * 2 + 1, none⟩ = some (.int .i64 ((m r i).2 : Int))))
def KeepsM (K : Nat) (A A' : World) : Prop := A.heap.size ≤ A'.heap.size ∧ ∀ j, j < K → A'.heap[j]? = A.heap[j]?
theorem KeepsM.refl {K : Nat} (W : World) : KeepsM K W W := ⟨Nat.le_refl _, fun _ _ => rfl⟩
theorem keepsM_t {K : Nat} {A B C : World} (h : KeepsM K A B) (k : KeepsM K B C) : KeepsM K A C := ⟨Nat.le_trans h.1 k.1, fun j hj => (k.2 j hj).trans (h.2 j hj)⟩
theorem KeepsM.of_below {K n : Nat} {A B : World} (h : Below n A B) (hK : K ≤ n) : KeepsM K A B := ⟨h.size, fun j hj => h.block j (by omega)⟩
theorem keepsM_b {K : Nat} {w : World} (h1 : K ≤ w.heap.size) (W : World) (l : Nat) (o o' : Obj) (hl : w.heap.size ≤ l) (_h : W.heap[l]? = some o) (_ : o.isCells = false) (_ : o.isWalk = false) : KeepsM K W (W.putObj l o') := by
  have hg := grownBy_putObj' W l o'
  exact ⟨hg.size, fun j hj => by
    by_cases e : j < W.heap.size
    · exact hg.block j e (fun e2 => by cases e2; omega)
    · exact absurd (Array.getElem?_eq_some_iff.1 _h).1 (by omega)⟩
/-- and one more block -/
def KeepsG (K Bg : Nat) (A A' : World) : Prop := KeepsM K A A' ∧ A'.heap[Bg]? = A.heap[Bg]?
theorem keepsG_t {K Bg : Nat} {A B C : World} (h : KeepsG K Bg A B) (k : KeepsG K Bg B C) : KeepsG K Bg A C := ⟨keepsM_t h.1 k.1, k.2.trans h.2⟩
theorem KeepsG.of_below {K Bg n : Nat} {A B : World} (h : Below n A B) (hK : K ≤ n) (hB : Bg < n) : KeepsG K Bg A B := ⟨KeepsM.of_below h hK, h.block Bg hB⟩
theorem keepsG_b {K Bg : Nat} {w : World} (h1 : K ≤ w.heap.size) (h2 : Bg < w.heap.size) (W : World) (l : Nat) (o o' : Obj) (hl : w.heap.size ≤ l) (_h : W.heap[l]? = some o) (e1 : o.isCells = false) (e2 : o.isWalk = false) : KeepsG K Bg W (W.putObj l o') :=
  ⟨keepsM_b h1 W l o o' hl _h e1 e2, by
    have hg := grownBy_putObj' W l o'
    have := (Array.getElem?_eq_some_iff.1 _h).1
    exact hg.block Bg (by omega) (fun e2 => by cases e2; omega)⟩
theorem SchK.keep {W W' : World} {K : Nat} {p : Option Addr} {k h : Nat} {m : Nat → Nat → Nat × Nat} (H : SchK W K p k h m) (hk : KeepsM K W W') : SchK W' K p k h m := by
  refine ⟨Nat.le_trans H.1 hk.1, fun h0 => ?_⟩
  obtain ⟨b, o, e, hb, hr⟩ := H.2 h0
  refine ⟨b, o, e, hb, fun r hr' => ?_⟩
  obtain ⟨q, c, h1, h2⟩ := hr r hr'
  refine ⟨q, c, (World.cell?_of_block (a := ⟨b, o + r, none⟩) (hk.2 b hb)).trans h1, fun hh => ?_⟩
  obtain ⟨b', o', e', hb', h3⟩ := h2 hh
  exact ⟨b', o', e', hb', fun i hi => ⟨(World.cell?_of_block (a := ⟨b', o' + i * 2, none⟩) (hk.2 b' hb')).trans (h3 i hi).1, (World.cell?_of_block (a := ⟨b', o' + i * 2 + 1, none⟩) (hk.2 b' hb')).trans (h3 i hi).2⟩⟩
/-- what the iterator reads -/
structure MtIn (Bg K : Nat) (p : Option Addr) (c k h : Nat) (m : Nat → Nat → Nat × Nat) (W : World) : Prop where
  sch : SchK W K p k h m
  box : W.cell? ⟨Bg, 0, none⟩ = some (.slice p k c)
  lt : Bg < W.heap.size
theorem MtIn.keep {Bg K : Nat} {p : Option Addr} {c k h : Nat} {m : Nat → Nat → Nat × Nat} {W W' : World} (H : MtIn Bg K p c k h m W) (hk : KeepsG K Bg W W') : MtIn Bg K p c k h m W' :=
  ⟨H.sch.keep hk.1, (World.cell?_of_block (a := ⟨Bg, 0, none⟩) hk.2).trans H.box, Nat.lt_of_lt_of_le H.lt hk.1.1⟩
abbrev MtX (k h : Nat) : Type := {q : Nat × Nat // q.1 < k ∧ q.2 < h}
def mtE (m : Nat → Nat → Nat × Nat) {k h : Nat} (x : MtX k h) : Array Value := #[.int .i64 (x.1.1 : Int), .agg #[.int .i64 ((m x.1.1 x.1.2).1 : Int), .int .i64 ((m x.1.1 x.1.2).2 : Int)]]
/-- rounds and places in order -/
def allQ (k h : Nat) : List (Nat × Nat) := (List.range k).flatMap fun r => (List.range h).map fun i => (r, i)
theorem allQ_succ (k h : Nat) : allQ (k + 1) h = allQ k h ++ (List.range h).map fun i => (k, i) := by unfold allQ; rw [List.range_succ, List.flatMap_append]; simp
/-- a beginning of all matches -/
def VP {k h : Nat} (pre : List (MtX k h)) : Prop := ∃ s, allQ k h = pre.map (·.1) ++ s
theorem allQ_nodup (k h : Nat) : (allQ k h).Nodup := by
  unfold allQ List.Nodup
  rw [List.pairwise_flatMap]
  refine ⟨fun r hr => ?_, ?_⟩
  · rw [List.pairwise_map]
    exact List.Pairwise.imp (fun hab e => hab (by simpa using e)) List.nodup_range
  · refine List.Pairwise.imp ?_ List.nodup_range
    intro a b hab x hx y hy e
    obtain ⟨i, _, rfl⟩ := List.mem_map.1 hx
    obtain ⟨j, _, rfl⟩ := List.mem_map.1 hy
    exact hab (by simpa using congrArg Prod.fst e)
theorem VP.init {k h : Nat} {pre : List (MtX k h)} {x : MtX k h} (H : VP (pre ++ [x])) : VP pre := by
  obtain ⟨s, e⟩ := H
  exact ⟨x.1 :: s, by rw [e]; simp⟩
theorem VP.fresh {k h : Nat} {pre : List (MtX k h)} {x : MtX k h} (H : VP (pre ++ [x])) : x.1 ∉ pre.map (·.1) := fun hm => by
  obtain ⟨s, e⟩ := H
  have hn := allQ_nodup k h
  rw [e, List.map_append, List.append_assoc] at hn
  exact (List.nodup_append.1 hn).2.2 _ hm _ (by simp) rfl
theorem allQ_pre {k h r i : Nat} (hr : r < k) (hi : i ≤ h) : ∃ s, allQ k h = (allQ r h ++ (List.range i).map fun i => (r, i)) ++ s := by
  have h1 : ∀ d, ∃ s, allQ (r + 1 + d) h = allQ (r + 1) h ++ s := by
    intro d
    induction d with
    | zero => exact ⟨[], by simp⟩
    | succ d ih =>
      obtain ⟨s, e⟩ := ih
      exact ⟨s ++ (List.range h).map fun i => (r + 1 + d, i), by rw [show r + 1 + (d + 1) = r + 1 + d + 1 from rfl, allQ_succ, e, List.append_assoc]⟩
  obtain ⟨s, e⟩ := h1 (k - (r + 1))
  rw [show r + 1 + (k - (r + 1)) = k by omega] at e
  refine ⟨((List.range h).drop i).map (fun i => (r, i)) ++ s, ?_⟩
  rw [e, allQ_succ]
  simp only [List.append_assoc]
  congr 1
  rw [← List.append_assoc]
  congr 1
  rw [← List.map_append]
  congr 1
  rw [show List.range i = (List.range h).take i by rw [List.take_range, Nat.min_eq_left hi], List.take_append_drop]
set_option maxRecDepth 100000 in
set_option maxHeartbeats 4000000 in
theorem mt_in (N : Nat) (hN : 1 ≤ N) (l Bg K c k h : Nat) (p : Option Addr) (m : Nat → Nat → Nat × Nat) (hk : k ≤ 15) (hh : h ≤ 8) (J Jx : List (MtX k h) → World → Prop)
    (hOwn : ∀ pre (A A' : World), J pre A → Below A.heap.size A A' → J pre A')
    (hY : ∀ pre x W, J pre W → pre.length < 200 → YieldAt Fence.wide (N - 1) Try.prog l (mtE m x) W fun e W' =>
      (e = .returned (.bool true) ∧ J (pre ++ [x]) W' ∧ KeepsG K Bg W W') ∨ (e = .returned (.bool false) ∧ Jx (pre ++ [x]) W'))
    (W : World) (hI : MtIn Bg K p c k h m W) (h0 : J [] W) :
    CallsIn Fence.wide N Try.prog 87 #[.func (.yield l) #[] #[], .pointer (some ⟨Bg, 0, none⟩)] W fun e W' => (∃ v, e = .returned v) ∧
      ((∃ ys : List (MtX k h), ys.map (·.1) = allQ k h ∧ J ys W') ∨ (∃ pre, VP pre ∧ Jx pre W')) := by
  have HOWN := Lib.hid hOwn
  clear hOwn
  refine callsIn_of_wp Try.func87 rfl trivial ?_ rfl
  simp only [Try.ntmps87, List.size_toArray, List.length_cons, List.length_nil, Nat.reduceAdd, Nat.reduceSub, Array.replicate_succ, Array.replicate_zero, List.push_toArray, List.append_toArray, List.nil_append, List.cons_append]
  have r0 := hI.box
  gi_wp2
  gi_loopw [9] (fun s9 wr => ∃ (r : Nat) (pre : List (MtX k h)), r ≤ k ∧ s9 = .int .i64 (r : Int) ∧ J pre wr ∧ Hid (pre.map (·.1) = allQ r h) ∧ pre.length ≤ r * 8 ∧ Hid (MtIn Bg K p c k h m wr)) (fun s9 _ => k - (intOf s9).toNat)
  case atStart => exact ⟨0, [], by omega, rfl, h0, rfl, Nat.zero_le _, hI⟩
  case round =>
    clear r0 hI h0
    obtain ⟨r, pre, hr, rfl, hJ, hS, hlen, hIn⟩ := hrel
    by_cases hrk : r < k
    · have g1 : (r : Int) < (k : Int) := by omega
      have g0 : (0 : Int) ≤ (r : Int) := by omega
      obtain ⟨b, o, rfl, hb, hrows⟩ := hIn.out.sch.2 (by omega)
      obtain ⟨q, cq, k1, _⟩ := hrows r hrk
      clear hrows
      obtain ⟨wo, hwo⟩ : ∃ wo, Hid (wo = wr) := ⟨_, rfl⟩
      rw [← hwo.out] at hJ hIn k1 ⊢
      clear hwo
      have HQ0 : Hid (∀ W, MtIn Bg K (some ⟨b, o, none⟩) c k h m W → W.cell? ⟨b, o + r, none⟩ = some (.slice q h cq) → h ≠ 0 → ∃ b' o', q = some ⟨b', o', none⟩ ∧ b' < K ∧ ∀ i, i < h → W.cell? ⟨b', o' + i * 2, none⟩ = some (.int .i64 ((m r i).1 : Int)) ∧ W.cell? ⟨b', o' + i * 2 + 1, none⟩ = some (.int .i64 ((m r i).2 : Int))) := fun W hW hc hh0 => by
        obtain ⟨b1, o1, e1, _, hr1⟩ := hW.sch.2 (by omega)
        cases e1
        obtain ⟨q2, c2, h1, h2⟩ := hr1 r hrk
        rw [h1] at hc
        cases hc
        exact h2 hh0
      have HBK : Hid (∀ W W', KeepsM K W W' → W.cell? ⟨b, o + r, none⟩ = some (.slice q h cq) → W'.cell? ⟨b, o + r, none⟩ = some (.slice q h cq)) := fun W W' hkp hc => (World.cell?_of_block (a := ⟨b, o + r, none⟩) (hkp.2 b hb)).trans hc
      have HK1 := Lib.hid k1
      gi_wp2
      gi_loopw [16] (fun s16 wq => ∃ (i : Nat) (pre : List (MtX k h)), i ≤ h ∧ s16 = .int .i64 (i : Int) ∧ J pre wq ∧ Hid (pre.map (·.1) = allQ r h ++ (List.range i).map fun i => (r, i)) ∧ pre.length ≤ r * 8 + i ∧ Hid (MtIn Bg K (some ⟨b, o, none⟩) c k h m wq) ∧ Hid (wq.cell? ⟨b, o + r, none⟩ = some (.slice q h cq))) (fun s16 _ => h - (intOf s16).toNat)
      case atStart => exact ⟨0, pre, by omega, rfl, hJ, by unfold Hid; rw [hS.out]; simp, by omega, hIn, HK1⟩
      case round =>
        clear hJ hS hIn hlen k1 HK1
        obtain ⟨i, pre, hi, rfl, hJ, hS, hlen, hIn, HK1⟩ := hrel
        by_cases hih : i < h
        · have g2 : (i : Int) < (h : Int) := by omega
          have g3 : (0 : Int) ≤ (i : Int) := by omega
          obtain ⟨b', o', rfl, hb', hcs⟩ := HQ0.out wr hIn.out HK1.out (by omega)
          have c1 := (hcs i hih).1
          have c2 := (hcs i hih).2
          have HJA : Hid (J pre (wr.alloc (.cells #[.int .i64 ((m r i).1 : Int), .int .i64 ((m r i).2 : Int)] 28))) := HOWN.out pre wr _ hJ ((Below.refl _ _).alloc (Nat.le_refl _) _)
          have HIA : Hid (MtIn Bg K (some ⟨b, o, none⟩) c k h m (wr.alloc (.cells #[.int .i64 ((m r i).1 : Int), .int .i64 ((m r i).2 : Int)] 28))) := hIn.out.keep (KeepsG.of_below ((Below.refl wr.heap.size wr).alloc (Nat.le_refl _) _) hIn.out.sch.1 hIn.out.lt)
          have HKA := Lib.hid (HBK.out wr (wr.alloc (.cells #[.int .i64 ((m r i).1 : Int), .int .i64 ((m r i).2 : Int)] 28)) (KeepsM.of_below ((Below.refl wr.heap.size wr).alloc (Nat.le_refl _) _) hIn.out.sch.1) HK1.out)
          obtain ⟨fn, tmps, assign, body, hyl, hR⟩ := hY pre ⟨(r, i), hrk, hih⟩ _ HJA.out (by omega)
          have HR := Lib.hid hR
          have hy2 : (Instr.yield l #[.int .i64 (r : Int), .agg #[.int .i64 ((m r i).1 : Int), .int .i64 ((m r i).2 : Int)]]).run Try.prog (wr.alloc (.cells #[.int .i64 ((m r i).1 : Int), .int .i64 ((m r i).2 : Int)] 28)) = .ok (.round l fn tmps assign body) (wr.alloc (.cells #[.int .i64 ((m r i).1 : Int), .int .i64 ((m r i).2 : Int)] 28)) := hyl
          have HSN : Hid ((pre ++ [(⟨(r, i), hrk, hih⟩ : MtX k h)]).map (·.1) = allQ r h ++ (List.range (i + 1)).map fun i => (r, i)) := by
            unfold Hid; rw [List.map_append, hS.out, List.range_succ, List.map_append, List.append_assoc]; rfl
          have HVP : Hid (VP (pre ++ [(⟨(r, i), hrk, hih⟩ : MtX k h)])) := by
            obtain ⟨s, e⟩ := allQ_pre (h := h) hrk (show i + 1 ≤ h by omega)
            exact ⟨s, by rw [e, HSN.out]⟩
          have hlen2 : (pre ++ [(⟨(r, i), hrk, hih⟩ : MtX k h)]).length ≤ r * 8 + (i + 1) := by simp; omega
          generalize (⟨(r, i), hrk, hih⟩ : MtX k h) = xx at *
          clear hyl hR hS hJ hIn hcs HK1
          generalize (m r i).1 = u at *
          generalize (m r i).2 = v at *
          gi_wp2
          refine HR.out.mono ?_
          rintro e W3 (⟨rfl, hJ3, hk3⟩ | ⟨rfl, hJx3⟩)
          · have hI3 := Lib.hid (HIA.out.keep hk3)
            have hK3 := Lib.hid (HBK.out _ _ hk3.1 HKA.out)
            clear c1 c2 hy2
            gi_wp2
            exact ⟨⟨i + 1, pre ++ [xx], by omega, int_eq (by omega), hJ3, HSN, hlen2, hI3, hK3⟩, by simp [intOf]; omega⟩
          · clear c1 c2 hy2
            gi_wp2
            refine bodyPost_ret (results_none rfl _ _ _) rfl ?_
            exact ⟨⟨_, rfl⟩, .inr ⟨_, HVP.out, hJx3⟩⟩
        · have g2 : ¬ (i : Int) < (h : Int) := by omega
          obtain rfl : h = i := by omega
          have HSN : Hid (pre.map (·.1) = allQ (r + 1) h) := by rw [allQ_succ]; exact hS
          gi_wp2
          exact ⟨⟨r + 1, pre, by omega, int_eq (by omega), hJ, HSN, by omega, hIn⟩, by simp [intOf]; omega⟩
    · have g1 : ¬ (r : Int) < (k : Int) := by omega
      obtain rfl : k = r := by omega
      gi_wp2
      go_end0
      exact ⟨⟨_, rfl⟩, .inl ⟨pre, hS.out, hJ⟩⟩
theorem matchesf_any (p : Option Addr) (k c : Nat) (w : World) :
    Calls Try.prog 56 #[.slice p k c] w fun e w' => e = .returned (.func (.func 87) #[] #[.pointer (some ⟨w.heap.size, 0, none⟩)]) ∧ w' = w.alloc (.cells #[.slice p k c] 24) := by
  go_enter Try.func56, Try.ntmps56
  go_wp2
  go_ret
  exact ⟨by simp, rfl⟩
theorem mt_stops (N : Nat) (hN : 1 ≤ N) (Bg K c k h : Nat) (p : Option Addr) (m : Nat → Nat → Nat × Nat) (hk : k ≤ 15) (hh : h ≤ 8) (w : World) (hI : MtIn Bg K p c k h m w) :
    SeqStopsK Fence.wide N Try.prog 87 #[.pointer (some ⟨Bg, 0, none⟩)] (mtE m (k := k) (h := h)) (KeepsG K Bg) (fun ys => ys.map (·.1) = allQ k h) VP 200 w := fun l J Jx W hW hJ _ hY h0 =>
  mt_in N hN l Bg K c k h p m hk hh J Jx (fun pre A A' h hB => hJ pre A A' none h ⟨hB.os, hB.tape, hB.output, hB.size, fun k hk _ => hB.block k hk⟩ (fun r e => by cases e)) hY W (hI.keep (KeepsG.of_below hW hI.sch.1 hI.lt)) h0
/-- the law of a loop over the matches whose match is boxed -/
theorem rf_box2 {k h : Nat} {m : Nat → Nat → Nat × Nat} {n : Nat} {g : Operand} {t1 t2 d1 d2 : Nat} {i1 i2 : Nat} {ty1 ty2 ty3 : TypeId} {p1 p2 p3 : String} {aft1 : Array Edge} {e1 e2 : Edge} {body : Code} {Q : Exit → Act → World → Prop} {a : Act} {w : World}
    (h1 : 1 ≤ n) {gf : Nat} {lb : Array Value} (hg : a.eval g = .func (.func gf) #[] lb) (eg : ∀ args w, (callFunc gf args).run Try.prog w = .ok (.enter gf args) w)
    {K Bg : Nat} {S Sp : List (MtX k h) → Prop} {N : Nat} (hseq : SeqStopsK Fence.wide (n - 1) Try.prog gf lb (mtE m (k := k) (h := h)) (KeepsG K Bg) S Sp N w) (hKw : K ≤ w.heap.size) (hBw : Bg < w.heap.size)
    (ht1 : t1 < a.tmps.size) (ht2 : t2 < a.tmps.size) (hd2 : d2 < a.tmps.size) (ht12 : t1 ≠ t2) (htd : t2 ≠ d1) (htd2 : t2 ≠ d2) (I : List (MtX k h) → World → Prop) (Ix : Code → List (MtX k h) → World → Prop) (hI : OwnFrom w.heap.size I) (hIx : ∀ c, OwnFrom w.heap.size (Ix c)) (hIs : ∀ pre W, I pre W → w.heap.size ≤ W.heap.size) (h0 : I [] w)
    (hbody : ∀ (l : Nat) (pre : List (MtX k h)) (x : MtX k h) (W : World) (B8 : Nat), I pre W → w.heap.size ≤ B8 → BoxN W B8 28 #[.int .i64 ((m x.1.1 x.1.2).1 : Int), .int .i64 ((m x.1.1 x.1.2).2 : Int)] → pre.length < N →
      body.wpIn (Fence.wide.inRound l) (n - 1 - 1) Try.prog (ownPostG w.heap.size (KeepsG K Bg) I Ix (pre ++ [x]) W) { tmps := (((a.tmps.setIfInBounds t1 (.int .i64 (x.1.1 : Int))).setIfInBounds t2 (.agg #[.int .i64 ((m x.1.1 x.1.2).1 : Int), .int .i64 ((m x.1.1 x.1.2).2 : Int)])).setIfInBounds d1 (.int .i64 (x.1.1 : Int))).setIfInBounds d2 (.pointer (some ⟨B8, 0, none⟩)), defers := [] } W)
    (hdone : ∀ (D : Nat) (xs : List (MtX k h)) (W : World), w.heap.size ≤ D → S xs → I xs W → W.heap[D]? = some (.deferred (some [])) → Q .normal { a with defers := { target := .collected D, args := #[] } :: a.defers } W)
    (hstop : ∀ (D : Nat) (c : Code) (pre : List (MtX k h)) (W : World), w.heap.size ≤ D → Sp pre → Ix c pre W → W.heap[D]? = some (.deferred (some [])) → c.wpIn Fence.wide n Try.prog Q { a with defers := { target := .collected D, args := #[] } :: a.defers } W) :
    (Code.rangeFunc g #[t1, t2] ((Code.region i1 #[{ dst := some d1, op := Op.assign (Operand.tmp t1), type := ty1, pos := p1, after := aft1, guard := none }] false).seq (Code.region i2 #[{ dst := some d2, op := Op.alloc 28, type := ty2, pos := p2, after := #[], guard := none }, { dst := none, op := Op.store 28 (Operand.tmp d2) (Operand.tmp t2), type := ty3, pos := p3, after := #[e1, e2], guard := none }] false)) body).wpIn Fence.wide n Try.prog Q a w := by
  refine wpIn_rangeFunc_ownH rfl h1 hg trivial eg hseq (fun h k => keepsG_t h k) (keepsG_b hKw hBw) (Below.refl _ _) (fun _ => rfl) I Ix hI hIx h0
    (fun x a' W => ∃ B8, a' = { tmps := (((a.tmps.setIfInBounds t1 (.int .i64 (x.1.1 : Int))).setIfInBounds t2 (.agg #[.int .i64 ((m x.1.1 x.1.2).1 : Int), .int .i64 ((m x.1.1 x.1.2).2 : Int)])).setIfInBounds d1 (.int .i64 (x.1.1 : Int))).setIfInBounds d2 (.pointer (some ⟨B8, 0, none⟩)), defers := [] } ∧ w.heap.size ≤ B8 ∧ BoxN W B8 28 #[.int .i64 ((m x.1.1 x.1.2).1 : Int), .int .i64 ((m x.1.1 x.1.2).2 : Int)])
    (fun x a' _ A C row hs hg hr => ?_) ?_ (fun l pre x a' W _ _ hi ha hl => ?_) hdone hstop
  · obtain ⟨B8, e, hb, hx⟩ := hs
    refine ⟨B8, e, hb, hx.kept hg (fun e2 => ?_)⟩
    obtain ⟨_, o, ho, hc⟩ := hr B8 e2.symm
    rw [show A.heap[B8]? = _ from hx] at ho
    cases ho
    cases hc
  · intro l pre x W KK hi hK
    have hsz := hIs pre W hi
    obtain ⟨u, hu⟩ : ∃ u, (m x.1.1 x.1.2).1 = u := ⟨_, rfl⟩
    obtain ⟨v, hv⟩ : ∃ v, (m x.1.1 x.1.2).2 = v := ⟨_, rfl⟩
    have e : (Array.zip #[t1, t2] (mtE m x)).foldl (fun t (p, v) => t.setIfInBounds p v) a.tmps = (a.tmps.setIfInBounds t1 (.int .i64 (x.1.1 : Int))).setIfInBounds t2 (.agg #[.int .i64 (u : Int), .int .i64 (v : Int)]) := by unfold mtE; rw [hu, hv]; simp
    rw [e]
    rw [hu, hv] at hK
    have hv1 : ((a.tmps.setIfInBounds t1 (Value.int .i64 (x.1.1 : Int))).setIfInBounds t2 (.agg #[.int .i64 (u : Int), .int .i64 (v : Int)])).getD t1 undef = .int .i64 (x.1.1 : Int) := by
      rw [Array.getD_eq_getD_getElem?, Array.getElem?_setIfInBounds_ne ht12.symm, Array.getElem?_setIfInBounds_self_of_lt ht1]; rfl
    have hv2 : ∀ q : Value, ((((a.tmps.setIfInBounds t1 (Value.int .i64 (x.1.1 : Int))).setIfInBounds t2 (.agg #[.int .i64 (u : Int), .int .i64 (v : Int)])).setIfInBounds d1 (.int .i64 (x.1.1 : Int))).setIfInBounds d2 q).getD t2 undef = .agg #[.int .i64 (u : Int), .int .i64 (v : Int)] := fun q => by
      rw [Array.getD_eq_getD_getElem?, Array.getElem?_setIfInBounds_ne htd2.symm, Array.getElem?_setIfInBounds_ne htd.symm, Array.getElem?_setIfInBounds_self_of_lt (by simpa using ht2)]; rfl
    have hv3 : ∀ q : Value, ((((a.tmps.setIfInBounds t1 (Value.int .i64 (x.1.1 : Int))).setIfInBounds t2 (.agg #[.int .i64 (u : Int), .int .i64 (v : Int)])).setIfInBounds d1 (.int .i64 (x.1.1 : Int))).setIfInBounds d2 q).getD d2 undef = q := fun q => by
      rw [Array.getD_eq_getD_getElem?, Array.getElem?_setIfInBounds_self_of_lt (by simpa using hd2)]; rfl
    have hKA := Lib.hid (hK _ (W.alloc (.cells #[.int .i64 (u : Int), .int .i64 (v : Int)] 28)) ⟨by simp, fun kk o _ ho _ => (World.grownBy_alloc W _ none).block kk (Array.getElem?_eq_some_iff.1 ho).1 (by simp) |>.trans ho⟩ (KeepsG.of_below ((Below.refl W.heap.size W).alloc (Nat.le_refl _) _) (by omega) (by omega)) (hI.alloc _ hi) ⟨W.heap.size, rfl, by omega, BoxN.new rfl⟩)
    clear hK
    gi_wp2
    exact hKA.out
  · obtain ⟨B8, rfl, hb, hx⟩ := ha
    exact hbody l pre x W B8 hi hb hx hl
end Go.Proofs.Ytbioondlmgolkaa
namespace Go.Proofs.Ytbioondlmgolkaa
open Go.RowKit

theorem nodup_sub {α : Type} [DecidableEq α] : ∀ (a b : List α), a.Nodup → (∀ x ∈ a, x ∈ b) → a.length ≤ b.length
  | [], _, _, _ => Nat.zero_le _
  | x :: a, b, hn, hs => by
    rw [List.nodup_cons] at hn
    have hx := hs x List.mem_cons_self
    have h1 := nodup_sub a (b.erase x) hn.2 fun y hy => by
      have hne : y ≠ x := fun e => hn.1 (by rw [← e]; exact hy)
      exact (List.mem_erase_of_ne hne).2 (hs y (List.mem_cons_of_mem _ hy))
    rw [List.length_erase_of_mem hx] at h1
    have := List.length_pos_of_mem hx
    rw [List.length_cons]
    omega
/-- how many of the first n -/
def cnt (p : Nat → Bool) : Nat → Nat
  | 0 => 0
  | n + 1 => cnt p n + (p n).toNat
theorem cnt_filter (p : Nat → Bool) : ∀ n, cnt p n = ((List.range n).filter p).length
  | 0 => rfl
  | n + 1 => by
    rw [List.range_succ, List.filter_append, List.length_append]
    unfold cnt
    rw [cnt_filter p n]
    cases h : p n <;> simp [h]
theorem cnt_le (p : Nat → Bool) : ∀ n, cnt p n ≤ n
  | 0 => Nat.le_refl _
  | n + 1 => by
    have := cnt_le p n
    unfold cnt
    cases p n <;> simp <;> omega
theorem cnt_congr {p q : Nat → Bool} : ∀ {n}, (∀ i, i < n → p i = q i) → cnt p n = cnt q n
  | 0, _ => rfl
  | n + 1, h => by unfold cnt; rw [cnt_congr fun i hi => h i (by omega), h n (by omega)]
structure TourP (n : Nat) (t : Nat → Nat → Bool) : Prop where
  irr : ∀ i, i < n → t i i = false
  tot : ∀ i j, i < n → j < n → i ≠ j → t i j = !t j i
theorem sum_pairs {n : Nat} {t : Nat → Nat → Bool} (h : TourP n t) : ∀ σ : List Nat, σ.Nodup → (∀ x ∈ σ, x < n) → 2 * (σ.map fun i => (σ.filter (t i)).length).sum = σ.length * (σ.length - 1)
  | [], _, _ => rfl
  | x :: σ, hn, hl => by
    rw [List.nodup_cons] at hn
    have ih := sum_pairs h σ hn.2 fun y hy => hl y (List.mem_cons_of_mem _ hy)
    have hx := hl x List.mem_cons_self
    have e1 : ((x :: σ).filter (t x)).length = (σ.filter (t x)).length := by
      rw [List.filter_cons, h.irr x hx]; simp
    have e2 : ∀ τ : List Nat, (∀ y ∈ τ, y ∈ σ) → (τ.map fun i => ((x :: σ).filter (t i)).length).sum = (τ.map fun i => (σ.filter (t i)).length).sum + (τ.filter fun i => t i x).length := by
      intro τ
      induction τ with
      | nil => intro _; rfl
      | cons y τ ihτ =>
        intro hs
        have := ihτ fun z hz => hs z (List.mem_cons_of_mem _ hz)
        rw [List.map_cons, List.sum_cons, List.map_cons, List.sum_cons, this, List.filter_cons, List.filter_cons]
        cases hh : t y x <;> simp <;> omega
    have e3 : ∀ τ : List Nat, (∀ y ∈ τ, y ∈ σ) → (τ.filter (t x)).length + (τ.filter fun i => t i x).length = τ.length := by
      intro τ
      induction τ with
      | nil => intro _; rfl
      | cons y τ ihτ =>
        intro hs
        have := ihτ fun z hz => hs z (List.mem_cons_of_mem _ hz)
        have hy := hs y List.mem_cons_self
        have hne : y ≠ x := fun e => hn.1 (by rw [← e]; exact hy)
        have ht := h.tot y x (hl y (List.mem_cons_of_mem _ hy)) hx hne
        rw [List.filter_cons, List.filter_cons, List.length_cons, ht]
        cases hh : t x y <;> simp <;> omega
    rw [List.map_cons, List.sum_cons, e1, e2 σ fun y hy => hy, List.length_cons]
    have h3 := e3 σ fun y hy => hy
    have h4 : (σ.length + 1) * (σ.length + 1 - 1) = σ.length * (σ.length - 1) + 2 * σ.length := by
      cases σ.length with
      | zero => rfl
      | succ k =>
        simp only [Nat.add_sub_cancel]
        simp only [Nat.add_mul, Nat.mul_add, Nat.mul_one, Nat.one_mul]
        omega
    omega
/-- the scores of any boats -/
theorem landau {n : Nat} {t : Nat → Nat → Bool} (h : TourP n t) (σ : List Nat) (hn : σ.Nodup) (hl : ∀ x ∈ σ, x < n) : σ.length * (σ.length - 1) ≤ 2 * (σ.map fun i => cnt (t i) n).sum := by
  rw [← sum_pairs h σ hn hl]
  have : ∀ τ : List Nat, (τ.map fun i => (σ.filter (t i)).length).sum ≤ (τ.map fun i => cnt (t i) n).sum := by
    intro τ
    induction τ with
    | nil => exact Nat.le_refl _
    | cons y τ ih =>
      rw [List.map_cons, List.sum_cons, List.map_cons, List.sum_cons]
      have : (σ.filter (t y)).length ≤ cnt (t y) n := by
        rw [cnt_filter]
        refine nodup_sub _ _ (hn.sublist List.filter_sublist) fun z hz => ?_
        rw [List.mem_filter] at hz ⊢
        exact ⟨List.mem_range.2 (hl z hz.1), hz.2⟩
      omega
  have := this σ
  omega
theorem landau_all {n : Nat} {t : Nat → Nat → Bool} (h : TourP n t) : 2 * ((List.range n).map fun i => cnt (t i) n).sum = n * (n - 1) := by
  have := sum_pairs h (List.range n) List.nodup_range fun x hx => List.mem_range.1 hx
  rw [List.length_range] at this
  rw [← this]
  congr 2
  exact List.map_congr_left fun i _ => cnt_filter _ _
theorem perm_map_inv {α β : Type} (f : α → β) {a b : List β} (h : a.Perm b) : ∀ m : List α, b = m.map f → ∃ σ : List α, σ.Perm m ∧ a = σ.map f := by
  induction h with
  | nil =>
    intro m hm
    exact ⟨[], by rw [List.map_eq_nil_iff.1 hm.symm], rfl⟩
  | cons x _ ih =>
    intro m hm
    cases m with
    | nil => cases hm
    | cons y m =>
      rw [List.map_cons, List.cons.injEq] at hm
      obtain ⟨σ, h1, h2⟩ := ih m hm.2
      exact ⟨y :: σ, h1.cons y, by rw [List.map_cons, hm.1, h2]⟩
  | swap x y l =>
    intro m hm
    match m, hm with
    | u :: v :: m, hm =>
      simp only [List.map_cons, List.cons.injEq] at hm
      exact ⟨v :: u :: m, List.Perm.swap _ _ _, by simp only [List.map_cons]; rw [hm.1, hm.2.1, hm.2.2]⟩
  | trans _ _ ih1 ih2 =>
    intro m hm
    obtain ⟨σ, h1, h2⟩ := ih2 m hm
    obtain ⟨τ, h3, h4⟩ := ih1 σ h2
    exact ⟨τ, h3.trans h1, h4⟩
/-- a sorted list's beginnings are scores of so many boats -/
theorem landau_take {n k : Nat} {t : Nat → Nat → Bool} {ys : List Nat} (h : TourP n t) (hp : ys.Perm ((List.range n).map fun i => cnt (t i) n)) (hk : k ≤ n) : k * (k - 1) ≤ 2 * (ys.take k).sum := by
  obtain ⟨σ, h1, h2⟩ := perm_map_inv _ hp (List.range n) rfl
  subst h2
  have hl : σ.length = n := by rw [h1.length_eq, List.length_range]
  have := landau h (σ.take k) ((h1.nodup_iff.2 List.nodup_range).sublist (List.take_sublist k σ)) fun x hx => List.mem_range.1 (h1.mem_iff.1 (List.mem_of_mem_take hx))
  rw [List.length_take, hl, Nat.min_eq_left hk] at this
  rw [← List.map_take]
  exact this
theorem landau_sum {n : Nat} {t : Nat → Nat → Bool} {ys : List Nat} (h : TourP n t) (hp : ys.Perm ((List.range n).map fun i => cnt (t i) n)) : 2 * ys.sum = n * (n - 1) := by
  rw [hp.sum_nat, landau_all h]
end Go.Proofs.Ytbioondlmgolkaa
namespace Go.Proofs.Ytbioondlmgolkaa
open Go.RowKit

/-- all matches, round by round -/
def msL (n : Nat) (m : Nat → Nat → Nat × Nat) : List (Nat × Nat) := (List.range (n - 1)).flatMap fun r => (List.range (n / 2)).map (m r)
theorem mem_ms {n : Nat} {m : Nat → Nat → Nat × Nat} {p : Nat × Nat} : p ∈ msL n m ↔ ∃ r k, r < n - 1 ∧ k < n / 2 ∧ m r k = p := by
  unfold msL
  rw [List.mem_flatMap]
  constructor
  · rintro ⟨r, hr, hp⟩
    obtain ⟨k, hk, e⟩ := List.mem_map.1 hp
    exact ⟨r, k, List.mem_range.1 hr, List.mem_range.1 hk, e⟩
  · rintro ⟨r, k, hr, hk, e⟩
    exact ⟨r, List.mem_range.2 hr, List.mem_map.2 ⟨k, List.mem_range.2 hk, e⟩⟩
theorem ms_nodup {n : Nat} {m : Nat → Nat → Nat × Nat} (h : SchP n m) : (msL n m).Nodup := by
  unfold msL List.Nodup
  rw [List.pairwise_flatMap]
  refine ⟨fun r hr => ?_, ?_⟩
  · rw [List.pairwise_map]
    refine List.Pairwise.imp_of_mem ?_ List.nodup_range
    intro a b ha hb hab e
    exact hab (h.met r a r b (List.mem_range.1 hr) (List.mem_range.1 ha) (List.mem_range.1 hr) (List.mem_range.1 hb) (by rw [e])).2
  · refine List.Pairwise.imp_of_mem ?_ List.nodup_range
    intro a b ha hb hab x hx y hy e
    obtain ⟨k, hk, rfl⟩ := List.mem_map.1 hx
    obtain ⟨k', hk', rfl⟩ := List.mem_map.1 hy
    exact hab (h.met a k b k' (List.mem_range.1 ha) (List.mem_range.1 hk) (List.mem_range.1 hb) (List.mem_range.1 hk') (by rw [e])).1
/-- i is at home against j -/
def tabM (n : Nat) (m : Nat → Nat → Nat × Nat) (i j : Nat) : Bool := decide ((i, j) ∈ msL n m)
theorem tabM_iff {n : Nat} {m : Nat → Nat → Nat × Nat} {i j : Nat} : tabM n m i j = true ↔ (i, j) ∈ msL n m := by unfold tabM; simp
theorem home_cnt {n : Nat} {m : Nat → Nat → Nat × Nat} (h : SchP n m) (i : Nat) : cnt (tabM n m i) n = ((msL n m).filter fun p => decide (p.1 = i)).length := by
  rw [cnt_filter]
  have hB : (((msL n m).filter fun p => decide (p.1 = i)).map (·.2)).Nodup := by
    unfold List.Nodup
    rw [List.pairwise_map]
    refine List.Pairwise.imp_of_mem ?_ ((ms_nodup h).sublist List.filter_sublist)
    intro a b ha hb hab e
    rw [List.mem_filter] at ha hb
    have h1 : a.1 = i := by simpa using ha.2
    have h2 : b.1 = i := by simpa using hb.2
    exact hab (Prod.ext (h1.trans h2.symm) e)
  refine Nat.le_antisymm ?_ ?_
  · rw [show ((msL n m).filter fun p => decide (p.1 = i)).length = (((msL n m).filter fun p => decide (p.1 = i)).map (·.2)).length by rw [List.length_map]]
    refine nodup_sub _ _ (List.nodup_range.sublist List.filter_sublist) fun j hj => ?_
    rw [List.mem_filter] at hj
    exact List.mem_map.2 ⟨(i, j), List.mem_filter.2 ⟨tabM_iff.1 hj.2, by simp⟩, rfl⟩
  · rw [show ((msL n m).filter fun p => decide (p.1 = i)).length = (((msL n m).filter fun p => decide (p.1 = i)).map (·.2)).length by rw [List.length_map]]
    refine nodup_sub _ _ hB fun j hj => ?_
    obtain ⟨p, hp, rfl⟩ := List.mem_map.1 hj
    rw [List.mem_filter] at hp
    have h1 : p.1 = i := by simpa using hp.2
    obtain ⟨r, k, hr, hk, e⟩ := mem_ms.1 hp.1
    rw [List.mem_filter]
    refine ⟨List.mem_range.2 ?_, tabM_iff.2 ?_⟩
    · rw [← e]; exact (h.rng r k hr hk).2.1
    · rw [← h1]; exact hp.1
/-- every two boats meet -/
def AllP (n : Nat) (m : Nat → Nat → Nat × Nat) : Prop := ∀ i j, i < j → j < n → ∃ r k, r < n - 1 ∧ k < n / 2 ∧ unord (m r k) = (i, j)
theorem AllP.turn {n : Nat} {m m' : Nat → Nat → Nat × Nat} (h : AllP n m) (t : TurnP m m') : AllP n m' := fun i j hi hj => by
  obtain ⟨r, k, hr, hk, e⟩ := h i j hi hj
  exact ⟨r, k, hr, hk, by rw [t.un, e]⟩
theorem unord_cases {p : Nat × Nat} {i j : Nat} (h : unord p = (i, j)) : p = (i, j) ∨ p = (j, i) := by
  obtain ⟨a, b⟩ := p
  unfold unord at h
  simp only [Prod.mk.injEq] at h ⊢
  omega
theorem tabM_tour {n : Nat} {m : Nat → Nat → Nat × Nat} (h : SchP n m) (ha : AllP n m) : TourP n (tabM n m) where
  irr := fun i hi => by
    cases e : tabM n m i i with
    | false => rfl
    | true =>
      obtain ⟨r, k, hr, hk, e2⟩ := mem_ms.1 (tabM_iff.1 e)
      have := (h.rng r k hr hk).2.2
      rw [e2] at this
      exact absurd rfl this
  tot := fun i j hi hj hne => by
    have key : ∀ i j, i < n → j < n → i ≠ j → tabM n m i j = true → tabM n m j i = true → False := fun i j hi hj hne h1 h2 => by
      obtain ⟨r, k, hr, hk, e1⟩ := mem_ms.1 (tabM_iff.1 h1)
      obtain ⟨r', k', hr', hk', e2⟩ := mem_ms.1 (tabM_iff.1 h2)
      have := h.met r k r' k' hr hk hr' hk' (by rw [e1, e2]; exact unord_turn (j, i))
      rw [this.1, this.2, e2, Prod.mk.injEq] at e1
      exact hne e1.1.symm
    have some : ∀ i j, i < j → j < n → tabM n m i j = true ∨ tabM n m j i = true := fun i j hij hj => by
      obtain ⟨r, k, hr, hk, e⟩ := ha i j hij hj
      rcases unord_cases e with e | e
      · exact .inl (tabM_iff.2 (mem_ms.2 ⟨r, k, hr, hk, e⟩))
      · exact .inr (tabM_iff.2 (mem_ms.2 ⟨r, k, hr, hk, e⟩))
    have hs : tabM n m i j = true ∨ tabM n m j i = true := by
      rcases Nat.lt_or_gt_of_ne hne with hlt | hlt
      · exact some i j hlt hj
      · exact (some j i hlt hi).symm
    cases e1 : tabM n m i j with
    | false => rcases hs with h1 | h1
               · rw [e1] at h1; cases h1
               · rw [h1]; rfl
    | true => cases e2 : tabM n m j i with
      | false => rfl
      | true => exact absurd (key i j hi hj hne e1 e2) (fun h => h)
def allB2 (n : Nat) : Bool := allN n fun j => allN j fun i => (List.range (n - 1)).any fun r => (List.range (n / 2)).any fun k => decide (min (cir n r k).1 (cir n r k).2 = i) && decide (max (cir n r k).1 (cir n r k).2 = j)
theorem allB2_all {n : Nat} (h : allB2 n = true) : AllP n (cir n) := fun i j hij hj => by
  have := (allN_iff.1 ((allN_iff.1 h) j hj)) i hij
  simp only [List.any_eq_true, List.mem_range, Bool.and_eq_true, decide_eq_true_eq] at this
  obtain ⟨r, hr, k, hk, h1, h2⟩ := this
  exact ⟨r, k, hr, hk, by unfold unord; rw [h1, h2]⟩
set_option maxRecDepth 100000 in
theorem cir_all {n : Nat} (h : n = 2 ∨ n = 4 ∨ n = 6 ∨ n = 8 ∨ n = 10 ∨ n = 12) : AllP n (cir n) := by
  rcases h with e | e | e | e | e | e
  · subst e; exact allB2_all (by decide +kernel)
  · subst e; exact allB2_all (by decide +kernel)
  · subst e; exact allB2_all (by decide +kernel)
  · subst e; exact allB2_all (by decide +kernel)
  · subst e; exact allB2_all (by decide +kernel)
  · subst e; exact allB2_all (by decide +kernel)
/-- a boat's pattern: 'H' and 'A' -/
def patB (ms : List (Nat × Nat)) (i : Nat) : List Nat := ms.filterMap fun p => if p.1 = i then some 72 else if p.2 = i then some 65 else none
theorem patB_snoc (ms : List (Nat × Nat)) (p : Nat × Nat) (i : Nat) : patB (ms ++ [p]) i = patB ms i ++ (if p.1 = i then [72] else if p.2 = i then [65] else []) := by
  unfold patB
  rw [List.filterMap_append]
  congr 1
  by_cases h1 : p.1 = i
  · simp [h1]
  · by_cases h2 : p.2 = i
    · simp [h1, h2]
    · simp [h1, h2]
theorem patB_H (ms : List (Nat × Nat)) (i : Nat) : ((patB ms i).filter fun b => decide (b = 72)).length = (ms.filter fun p => decide (p.1 = i)).length := by
  induction ms with
  | nil => rfl
  | cons p ms ih =>
    unfold patB at *
    rw [List.filterMap_cons, List.filter_cons]
    by_cases h1 : p.1 = i
    · simp [h1, ih]
    · by_cases h2 : p.2 = i
      · simp [h1, h2, ih]
      · simp [h1, h2, ih]
theorem patB_len (ms : List (Nat × Nat)) (i : Nat) : (patB ms i).length ≤ ms.length := List.length_filterMap_le _ _
theorem ms_len (n : Nat) (m : Nat → Nat → Nat × Nat) : (msL n m).length = (n - 1) * (n / 2) := by
  unfold msL
  rw [List.length_flatMap]
  have : ∀ k, ((List.range k).map fun r => ((List.range (n / 2)).map (m r)).length).sum = k * (n / 2) := by
    intro k
    induction k with
    | zero => simp
    | succ k ih => rw [List.range_succ, List.map_append, List.sum_append, ih, Nat.succ_mul]; simp
  exact this (n - 1)
end Go.Proofs.Ytbioondlmgolkaa
namespace Go.Proofs.Ytbioondlmgolkaa
open Go.RowKit Go.Shelf

/-- the program's regatta in memory -/
structure RegAt (W : World) (B n : Nat) (t : Nat → Nat → Bool) : Prop where
  lt : B < W.heap.size
  cn : W.cell? ⟨B, 0, none⟩ = some (.int .i64 (n : Int))
  cb : ∀ i, i < n → W.cell? ⟨B, 1 + i, none⟩ = some (.int .i64 ((bs (t i) n : Nat) : Int))
theorem RegAt.block {W W' : World} {B n : Nat} {t : Nat → Nat → Bool} (h : RegAt W B n t) (h1 : W'.heap[B]? = W.heap[B]?) (hs : W.heap.size ≤ W'.heap.size) : RegAt W' B n t :=
  ⟨Nat.lt_of_lt_of_le h.lt hs, (World.cell?_of_block h1).trans h.cn, fun i hi => (World.cell?_of_block h1).trans (h.cb i hi)⟩
theorem RegAt.below {W W' : World} {B n k : Nat} {t : Nat → Nat → Bool} (h : RegAt W B n t) (hB : Below k W W') (hk : B < k) : RegAt W' B n t := h.block (hB.block B hk) hB.size
theorem RegAt.dr {W : World} {B n : Nat} {t : Nat → Nat → Bool} (h : RegAt W B n t) (q : Nat) : RegAt (W.drewN q) B n t := ⟨h.lt, h.cn, h.cb⟩
/-- row i behind x rows and y of the next -/
def rgP (n : Nat) (t : Nat → Nat → Bool) (x y i : Nat) : Nat := if i < x then bs (t i) n else if i = x then bs (t i) y else 0
theorem rgP_low {n : Nat} {t : Nat → Nat → Bool} {x y i : Nat} (h : i < x) : rgP n t x y i = bs (t i) n := by unfold rgP; rw [if_pos h]
theorem rgP_here (n : Nat) (t : Nat → Nat → Bool) (x y : Nat) : rgP n t x y x = bs (t x) y := by unfold rgP; rw [if_neg (by omega), if_pos rfl]
theorem rgP_high {n : Nat} {t : Nat → Nat → Bool} {x y i : Nat} (h : x < i) : rgP n t x y i = 0 := by unfold rgP; rw [if_neg (by omega), if_neg (by omega)]
theorem rgP_row (n : Nat) (t : Nat → Nat → Bool) (x i : Nat) : rgP n t x n i = rgP n t (x + 1) 0 i := by
  rcases Nat.lt_trichotomy i x with h | h | h
  · rw [rgP_low h, rgP_low (by omega)]
  · subst h; rw [rgP_here, rgP_low (by omega)]
  · rw [rgP_high h]
    by_cases e : i = x + 1
    · subst e; rw [rgP_here]; rfl
    · rw [rgP_high (by omega)]
theorem rgP_no {n : Nat} {t : Nat → Nat → Bool} {x y : Nat} (h : t x y = false) (i : Nat) : rgP n t x (y + 1) i = rgP n t x y i := by
  rcases Nat.lt_trichotomy i x with h1 | h1 | h1
  · rw [rgP_low h1, rgP_low h1]
  · subst h1; rw [rgP_here, rgP_here]; show bs (t i) y ||| _ = _; rw [h]; simp
  · rw [rgP_high h1, rgP_high h1]
theorem rgP_yes {n : Nat} {t : Nat → Nat → Bool} {x y : Nat} (h : t x y = true) (i : Nat) : rgP n t x (y + 1) i = if i = x then rgP n t x y x ||| pw y else rgP n t x y i := by
  rcases Nat.lt_trichotomy i x with h1 | h1 | h1
  · rw [rgP_low h1, if_neg (by omega), rgP_low h1]
  · subst h1; rw [rgP_here, if_pos rfl, rgP_here]; show bs (t i) y ||| _ = _; rw [h]; simp [pw]
  · rw [rgP_high h1, if_neg (by omega), rgP_high h1]
theorem rgP_sm {n : Nat} {t : Nat → Nat → Bool} {x y : Nat} (hn : n ≤ 12) (hy : y ≤ n) (i : Nat) : Sm (rgP n t x y i) := by
  have hb : ∀ m, m ≤ 12 → Sm (bs (t i) m) := fun m hm => Nat.lt_of_lt_of_le (bs_lt _ m) (show 2 ^ m ≤ 2 ^ 20 from Nat.pow_le_pow_right (by decide) (by omega))
  unfold rgP
  split
  · exact hb n hn
  · split
    · exact hb y (by omega)
    · exact sm_of (by decide)
/-- the cells of a regatta under way -/
def RegCells (vs : Array Value) (n : Nat) (f : Nat → Nat) : Prop := vs.size = 13 ∧ vs[0]? = some (.int .i64 (n : Int)) ∧ ∀ i, i < 12 → vs[1 + i]? = some (.int .i64 (f i : Int))
theorem RegCells.congr {vs : Array Value} {n : Nat} {f f' : Nat → Nat} (h : RegCells vs n f) (e : ∀ i, f i = f' i) : RegCells vs n f' := ⟨h.1, h.2.1, fun i hi => by rw [← e]; exact h.2.2 i hi⟩
theorem RegCells.set {vs : Array Value} {n x v : Nat} {f : Nat → Nat} (h : RegCells vs n f) (hx : x < 12) : RegCells (vs.setIfInBounds (1 + x) (.int .i64 (v : Int))) n (fun i => if i = x then v else f i) := by
  refine ⟨by simpa using h.1, ?_, fun i hi => ?_⟩
  · rw [Array.getElem?_setIfInBounds_ne (by omega)]; exact h.2.1
  · by_cases e : i = x
    · subst e; rw [Array.getElem?_setIfInBounds_self_of_lt (by rw [h.1]; omega)]; simp
    · rw [Array.getElem?_setIfInBounds_ne (by omega)]; simp only [if_neg e]; exact h.2.2 i hi
set_option maxRecDepth 100000 in
theorem lensco_any (p la : Option Addr) (m n c lc b1 : Nat) (w : World) (h1 : w.cell? ⟨b1, 0, none⟩ = some (.slice la n lc)) :
    Calls Try.prog 61 #[.slice p m c, .pointer (some ⟨b1, 0, none⟩)] w fun e w' => e = .returned (.bool ((m : Int) != (n : Int))) ∧ w' = w := by
  generalize hb : ((m : Int) != (n : Int)) = b
  go_enter Try.func61, Try.ntmps61
  go_wp2
  go_ret
  exact ⟨rfl, rfl⟩
set_option maxRecDepth 100000 in
set_option maxHeartbeats 1000000 in
theorem indexsco_any (la : Option Addr) (n lc b1 : Nat) (r : Nat → Nat → Bool) (w : World) (hn : n ≤ 1099511627776) (hT : TblI w la n (fun _ => n) r) (h1 : w.cell? ⟨b1, 0, none⟩ = some (.slice la n lc)) :
    Calls Try.prog 89 #[.slice la n lc, .func (.func 61) #[] #[.pointer (some ⟨b1, 0, none⟩)]] w fun e w' => e = .returned (.int .i64 (-1)) ∧ w' = w := by
  have HT := Lib.hid hT
  have HC := Lib.hid (fun p m c => lensco_any p la m n c lc b1 w h1)
  clear hT h1
  go_enter Try.func89, Try.ntmps89
  go_upto_region 2 with (fail)
  go_loopw [8] (fun s8 wr => ∃ j : Nat, j ≤ n ∧ s8 = .int .i64 (j : Int) ∧ Hid (wr.heap = w.heap ∧ wr = w)) (fun s8 _ => n - (intOf s8).toNat)
  case atStart => exact ⟨0, by omega, rfl, rfl, rfl⟩
  case round =>
    obtain ⟨j, hj, rfl, hw⟩ := hrel
    obtain ⟨_, hw⟩ := hw.out
    replace hw := hw.symm
    subst hw
    by_cases hjm : j < n
    · have g1 : (j : Int) < (n : Int) := by omega
      have g0 : (0 : Int) ≤ (j : Int) := by omega
      obtain ⟨b, o, e0, hb, hc⟩ := HT.out (by omega)
      obtain ⟨p, c, k1, _⟩ := hc j hjm
      have HCJ := Lib.hid (HC.out p n c)
      subst e0
      clear hc
      have hd : (((n : Nat) : Int) != (n : Int)) = false := by simp
      rw [hd] at HCJ
      clear hd HC
      go_wp2_with (go_at_call 61; refine HCJ.out.mono ?_; rintro e w4 ⟨rfl, hw4⟩; replace hw4 := hw4.symm; subst hw4; try dsimp only)
      exact ⟨⟨j + 1, by omega, int_eq (by omega), (by first | exact ⟨rfl, rfl⟩ | exact ⟨trivial, trivial⟩)⟩, by simp [intOf]; omega⟩
    · have g1 : ¬ (j : Int) < (n : Int) := by omega
      go_wp2
      go_ret
      exact ⟨rfl, rfl⟩
set_option maxRecDepth 100000 in
theorem containssco_any (la : Option Addr) (n lc b1 : Nat) (r : Nat → Nat → Bool) (w : World) (hn : n ≤ 1099511627776) (hT : TblI w la n (fun _ => n) r) (h1 : w.cell? ⟨b1, 0, none⟩ = some (.slice la n lc)) :
    Calls Try.prog 60 #[.slice la n lc, .func (.func 61) #[] #[.pointer (some ⟨b1, 0, none⟩)]] w fun e w' => e = .returned (.bool false) ∧ w' = w := by
  have HI := Lib.hid (indexsco_any la n lc b1 r w hn hT h1)
  clear hT h1
  go_enter Try.func60, Try.ntmps60
  go_wp2_with (go_at_call 89; refine HI.out.mono ?_; rintro e w4 ⟨rfl, hw4⟩; replace hw4 := hw4.symm; subst hw4; try dsimp only)
  go_ret
  exact ⟨rfl, rfl⟩
set_option maxRecDepth 100000 in
set_option maxHeartbeats 8000000 in
/-- a tournament's regatta -/
theorem sopen_ok (la : Option Addr) (n lc : Nat) (t : Nat → Nat → Bool) (w : World) (hn1 : 1 ≤ n) (hn12 : n ≤ 12) (hP : TourP n t) (hT : TblI w la n (fun _ => n) t) :
    Calls Try.prog 28 #[.slice la n lc] w fun e w' => ∃ B, e = .returned (.tuple #[.pointer (some ⟨B, 0, none⟩), .int .i64 0]) ∧ w.heap.size ≤ B ∧ RegAt w' B n t ∧ Below w.heap.size w w' := by
  have HB0 : Hid (Below w.heap.size w (w.alloc (.cells #[.slice la n lc] 32))) := (Below.refl _ _).alloc (Nat.le_refl _) _
  have HX0 : Hid (BoxN (w.alloc (.cells #[.slice la n lc] 32)) w.heap.size 32 #[.slice la n lc]) := BoxN.new rfl
  have HT0 := Lib.hid (hT.below HB0.out (Nat.le_refl _))
  have HP := Lib.hid hP
  clear hT hP
  go_enter Try.func28, Try.ntmps28
  go_upto_region 1 with (fail)
  obtain ⟨b1, hb1⟩ : ∃ b1, Hid (b1 = w.heap.size) := ⟨_, rfl⟩
  rw [← hb1.out] at HX0
  simp only [← hb1.out]
  generalize w.alloc (.cells #[.slice la n lc] 32) = X at *
  have hbx : b1 < X.heap.size := HX0.out.lt
  have hwX : w.heap.size ≤ X.heap.size := HB0.out.size
  have c0 := HX0.out.cell 0
  have g1 : ¬ (n : Int) < 1 := by omega
  have g2 : ¬ (12 : Int) < (n : Int) := by omega
  have HY0 : Hid (BoxN (X.alloc (.cells #[.int .i64 (n : Int), .int .i64 0, .int .i64 0, .int .i64 0, .int .i64 0, .int .i64 0, .int .i64 0, .int .i64 0, .int .i64 0, .int .i64 0, .int .i64 0, .int .i64 0, .int .i64 0] 95)) X.heap.size 95 #[.int .i64 (n : Int), .int .i64 0, .int .i64 0, .int .i64 0, .int .i64 0, .int .i64 0, .int .i64 0, .int .i64 0, .int .i64 0, .int .i64 0, .int .i64 0, .int .i64 0, .int .i64 0]) := BoxN.new rfl
  have HBY : Hid (Below w.heap.size w (X.alloc (.cells #[.int .i64 (n : Int), .int .i64 0, .int .i64 0, .int .i64 0, .int .i64 0, .int .i64 0, .int .i64 0, .int .i64 0, .int .i64 0, .int .i64 0, .int .i64 0, .int .i64 0, .int .i64 0] 95))) := HB0.out.alloc hwX _
  have HXY : Hid (BoxN (X.alloc (.cells #[.int .i64 (n : Int), .int .i64 0, .int .i64 0, .int .i64 0, .int .i64 0, .int .i64 0, .int .i64 0, .int .i64 0, .int .i64 0, .int .i64 0, .int .i64 0, .int .i64 0, .int .i64 0] 95)) b1 32 #[.slice la n lc]) := HX0.out.alloc _
  have HRC : Hid (RegCells #[.int .i64 (n : Int), .int .i64 0, .int .i64 0, .int .i64 0, .int .i64 0, .int .i64 0, .int .i64 0, .int .i64 0, .int .i64 0, .int .i64 0, .int .i64 0, .int .i64 0, .int .i64 0] n (rgP n t 0 0)) := ⟨rfl, rfl, fun i hi => by
    have e : rgP n t 0 0 i = 0 := by
      by_cases h : i = 0
      · subst h; rw [rgP_here]; rfl
      · rw [rgP_high (by omega)]
    rw [e]
    rcases (show i = 0 ∨ i = 1 ∨ i = 2 ∨ i = 3 ∨ i = 4 ∨ i = 5 ∨ i = 6 ∨ i = 7 ∨ i = 8 ∨ i = 9 ∨ i = 10 ∨ i = 11 by omega) with rfl | rfl | rfl | rfl | rfl | rfl | rfl | rfl | rfl | rfl | rfl | rfl <;> rfl⟩
  have HBX : Hid (X.heap.size < (X.alloc (.cells #[.int .i64 (n : Int), .int .i64 0, .int .i64 0, .int .i64 0, .int .i64 0, .int .i64 0, .int .i64 0, .int .i64 0, .int .i64 0, .int .i64 0, .int .i64 0, .int .i64 0, .int .i64 0] 95)).heap.size ∧ w.heap.size ≤ X.heap.size ∧ b1 < X.heap.size) := ⟨by simp, hwX, hbx⟩
  have HXB : Hid (Below X.heap.size X (X.alloc (.cells #[.int .i64 (n : Int), .int .i64 0, .int .i64 0, .int .i64 0, .int .i64 0, .int .i64 0, .int .i64 0, .int .i64 0, .int .i64 0, .int .i64 0, .int .i64 0, .int .i64 0, .int .i64 0] 95))) := (Below.refl _ _).alloc (Nat.le_refl _) _
  go_upto_region 2 with (fail)
  obtain ⟨B, hBe⟩ : ∃ B, Hid (B = X.heap.size) := ⟨_, rfl⟩
  rw [← hBe.out] at HY0 HBX ⊢
  generalize hlit : (#[.int .i64 (n : Int), .int .i64 0, .int .i64 0, .int .i64 0, .int .i64 0, .int .i64 0, .int .i64 0, .int .i64 0, .int .i64 0, .int .i64 0, .int .i64 0, .int .i64 0, .int .i64 0] : Array Value) = vs0 at *
  clear hlit
  generalize X.alloc (.cells vs0 95) = Y at *
  have c0 := HXY.out.cell 0
  have HC := Lib.hid (containssco_any la n lc b1 t Y (by omega) (HT0.out.below HXB.out (Nat.le_refl _)) c0)
  go_upto_region 5 with (go_at_call 60; refine HC.out.mono ?_; rintro e w4 ⟨rfl, hw4⟩; replace hw4 := hw4.symm; subst hw4; try dsimp only)
  have hne : b1 ≠ B := by have := HBX.out; omega
  go_loopw [26] (fun s26 wr => ∃ (x : Nat) (vs : Array Value), x ≤ n ∧ s26 = .int .i64 (x : Int) ∧ Hid (BoxN wr B 95 vs) ∧ Hid (RegCells vs n (rgP n t x 0)) ∧ Hid (Ag (· = B) Y wr)) (fun s26 _ => n - (intOf s26).toNat)
  case atStart => exact ⟨0, vs0, by omega, rfl, HY0, HRC, Ag.refl _ _⟩
  case round =>
    obtain ⟨x, vs, hx, rfl, hbox, hcc, hA⟩ := hrel
    by_cases hxn : x < n
    · have g5 : (x : Int) < (n : Int) := by omega
      have g6 : (0 : Int) ≤ (x : Int) := by omega
      obtain ⟨wo, hwo⟩ : ∃ wo, Hid (wo = wr) := ⟨_, rfl⟩
      rw [← hwo.out] at hbox hA ⊢
      clear hwo
      have c1 := (hA.out.boxN HXY.out hne).cell 0
      go_upto_region 8 with (fail)
      go_loopw [31] (fun s31 wq => ∃ (y : Nat) (vs : Array Value), y ≤ n ∧ s31 = .int .i64 (y : Int) ∧ Hid (BoxN wq B 95 vs) ∧ Hid (RegCells vs n (rgP n t x y)) ∧ Hid (Ag (· = B) Y wq)) (fun s31 _ => n - (intOf s31).toNat)
      case atStart => exact ⟨0, vs, by omega, rfl, hbox, hcc, hA⟩
      case round =>
        clear hbox hcc hA c1
        obtain ⟨y, vs, hy, rfl, hbox, hcc, hA⟩ := hrel
        by_cases hyn : y < n
        · have g7 : (y : Int) < (n : Int) := by omega
          have g8 : (0 : Int) ≤ (y : Int) := by omega
          have c1 := (hA.out.boxN HXY.out hne).cell 0
          have HXW : Hid (Below X.heap.size X wr) := hA.out.below HXB.out HXB.out.size (fun k hk e => by have := hBe.out; omega)
          have HTW := Lib.hid (HT0.out.below HXW.out (Nat.le_refl _))
          obtain ⟨bt, ot, rfl, hbt, hct⟩ := HTW.out (by omega)
          obtain ⟨px, cx, kx, sx⟩ := hct x hxn
          obtain ⟨py, cy, ky, sy⟩ := hct y hyn
          obtain ⟨bx, ox, rfl, hbx', hcx⟩ := sx (by show n ≠ 0; omega)
          obtain ⟨by_, oy, rfl, hby, hcy⟩ := sy (by show n ≠ 0; omega)
          have ax := hcx y hyn
          have ay := hcy x hxn
          have l1 := hbox.out.cell (1 + x)
          rw [hcc.out.2.2 x (by omega)] at l1
          have lf1 := hbox.out.frozen (1 + x)
          have hsm := rgP_sm (t := t) (x := x) hn12 (by omega : y ≤ n) x
          have hx12 : (x : Int) < 12 := by omega
          have hy20 : y < 20 := by omega
          clear hct sx sy hcx hcy hbx
          by_cases hxy : x = y
          · subst hxy
            have htf := HP.out.irr x hxn
            have HCN := Lib.hid (hcc.out.congr fun i => (rgP_no (n := n) (t := t) (x := x) (y := x) htf i).symm)
            rw [htf] at ax ay
            have q1 : ((x : Int) == (x : Int)) = true := by simp
            have q2 : ((x : Int) != (x : Int)) = false := by simp
            clear htf l1 lf1 hsm hcc
            go_wp2
            go_quiet (fail)
            have HAD := Lib.hid (hA.out.drewN nq)
            have HBD : Hid (BoxN (wr.drewN nq) B 95 vs) := hbox.out
            clear hA hbox
            go_wp2
            exact ⟨⟨x + 1, vs, by omega, int_eq (by omega), HBD, HCN, HAD⟩, by simp [intOf]; omega⟩
          · have htt := HP.out.tot x y hxn hyn hxy
            have q1 : ((x : Int) == (y : Int)) = false := by rw [beq_eq_false_iff_ne]; omega
            have q2 : ((x : Int) != (y : Int)) = true := by rw [bne_iff_ne]; omega
            cases htx : t x y with
            | false =>
              rw [htx] at htt
              have hty : t y x = true := by simpa using htt
              have HCN := Lib.hid (hcc.out.congr fun i => (rgP_no (n := n) (t := t) (x := x) (y := y) htx i).symm)
              rw [htx] at ax
              rw [hty] at ay
              clear htx hty htt l1 lf1 hsm hcc hxy
              go_wp2
              go_quiet (fail)
              have HAD := Lib.hid (hA.out.drewN nq)
              have HBD : Hid (BoxN (wr.drewN nq) B 95 vs) := hbox.out
              clear hA hbox
              go_wp2
              exact ⟨⟨y + 1, vs, by omega, int_eq (by omega), HBD, HCN, HAD⟩, by simp [intOf]; omega⟩
            | true =>
              rw [htx] at htt
              have hty : t y x = false := by simpa using htt
              have HCN := Lib.hid ((hcc.out.set (v := rgP n t x y x ||| pw y) (show x < 12 by omega)).congr fun i => (rgP_yes (n := n) (t := t) (x := x) (y := y) htx i).symm)
              rw [htx] at ax
              rw [hty] at ay
              clear htx hty htt hcc hxy
              generalize rgP n t x y x = gx at *
              go_wp2
              go_quiet (fail)
              have HAD := Lib.hid (hA.out.drewN nq)
              have HBD : Hid (BoxN (wr.drewN nq) B 95 vs) := hbox.out
              clear hA hbox
              go_wp2
              go_region
              go_wp2
              go_roundw
              case rel => exact ⟨y + 1, _, by omega, by go_num, HBD.out.set (1 + x) _, HCN, (HAD.out.set ⟨B, 1 + x, none⟩ _ (.inr rfl)).drewN 1⟩
              case measure => simp [intOf]; omega
        · have g7 : ¬ (y : Int) < (n : Int) := by omega
          obtain rfl : n = y := by omega
          have HCN := Lib.hid (hcc.out.congr (rgP_row n t x))
          go_wp2
          exact ⟨⟨x + 1, vs, by omega, int_eq (by omega), hbox, HCN, hA⟩, by simp [intOf]; omega⟩
    · have g5 : ¬ (x : Int) < (n : Int) := by omega
      obtain rfl : n = x := by omega
      have H95 : Hid (RegAt wr B n t) := ⟨hbox.out.lt, (hbox.out.cell 0).trans hcc.out.2.1, fun i hi => by rw [hbox.out.cell, hcc.out.2.2 i (by omega), rgP_low hi]⟩
      have HBZ : Hid (Below w.heap.size w wr) := hA.out.below HBY.out HBY.out.size (fun k hk e => by have := HBX.out; omega)
      go_wp2
      refine bodyPost_ret (v := .tuple #[.pointer (some ⟨B, 0, none⟩), .int .i64 0]) (by simp [results, Try.f28, go_sem]) rfl ?_
      exact ⟨B, rfl, by have := HBX.out; omega, H95.out, HBZ.out⟩
end Go.Proofs.Ytbioondlmgolkaa
