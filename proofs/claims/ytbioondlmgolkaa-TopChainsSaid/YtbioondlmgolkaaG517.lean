/- The document's check of an order: a walk. An order out of any table: plain; and a table of marks whose rows are written. The document's sets in order: a walk. The document's tests of four elements: walks. The document's count of ascent lists: plain words, rows of int64. A law's walk: ShiftAscents. Small functions: small, isRight. Tournaments in plain text: any k boats have k (k - 1) / 2 wins or more (Landau). The program's regatta is made out of a tournament's table: walks. Insertion sort of a few integers, and a sorted copy: walks. -/
import Derived.Deep.Grids
import Derived.BigQuiet
import Derived.Test.YtbioondlmgolkaaG512
import Derived.Test.YtbioondlmgolkaaG513
import Derived.Test.YtbioondlmgolkaaOb
import Derived.Test.YtbioondlmgolkaaTq
import Derived.Test.YtbioondlmgolkaaEq
import Derived.Test.YtbioondlmgolkaaLo
import Derived.Test.YtbioondlmgolkaaG508
import Derived.Test.YtbioondlmgolkaaG502
import Derived.BigRegion
import Derived.Test.YtbioondlmgolkaaG505
set_option linter.unusedVariables false
set_option linter.unusedSimpArgs false
namespace Go.Proofs.Ytbioondlmgolkaa
open Go.RowKit Go.Shelf

def ChkA (n : Nat) (ln : Nat → Nat) (r : Nat → Nat → Bool) (e : Ending) : Prop := (e = .returned (.int .i64 0) ∧ TabOK n ln r) ∨ (e = .returned (.int .i64 100) ∧ ¬ TabOK n ln r)
end Go.Proofs.Ytbioondlmgolkaa
namespace Go.Proofs.Ytbioondlmgolkaa
open Go.RowKit Go.Shelf

/-- another name -/
def nm5 (n x : Nat) : Nat := (5 * x + 1) % n
theorem nm5_inj : ∀ n, n ≤ 12 → n % 5 ≠ 0 → ∀ x, x < n → ∀ y, y < n → nm5 n x = nm5 n y → x = y := by
  intro n hn h5 x hx y hy e
  unfold nm5 at e
  have hc : n = 0 ∨ n = 1 ∨ n = 2 ∨ n = 3 ∨ n = 4 ∨ n = 6 ∨ n = 7 ∨ n = 8 ∨ n = 9 ∨ n = 11 ∨ n = 12 := by omega
  rcases hc with rfl | rfl | rfl | rfl | rfl | rfl | rfl | rfl | rfl | rfl | rfl <;> omega
/-- all pairs go from lesser to greater numbers by other names -/
def UpN (n : Nat) (R : Nat → Nat → Bool) : Prop := ∀ a b, R a b = true → n % 5 ≠ 0 ∧ ∃ x y, x < y ∧ y < n ∧ nm5 n x = a ∧ nm5 n y = b
theorem UpN.irr {n : Nat} {R : Nat → Nat → Bool} (h : UpN n R) (hn : n ≤ 12) (a : Nat) : R a a = false := by
  cases e : R a a with
  | false => rfl
  | true =>
    obtain ⟨h5, x, y, hxy, hy, e1, e2⟩ := h a a e
    have := nm5_inj n hn h5 x (by omega) y hy (e1.trans e2.symm)
    omega
/-- a round of the closing, up to (x, y) -/
def phR (R : Nat → Nat → Bool) (z x y i j : Nat) : Bool := R i j || ((decide (i < x) || (decide (i = x) && decide (j < y))) && (R i z && R z j))
theorem UpN.add {n : Nat} {R : Nat → Nat → Bool} (h : UpN n R) {x y : Nat} (hxy : x < y) (hy : y < n) (h5 : n % 5 ≠ 0) : UpN n (fun i j => R i j || (decide (i = nm5 n x) && decide (j = nm5 n y))) := fun a b hab => by
  simp only [Bool.or_eq_true, Bool.and_eq_true, decide_eq_true_eq] at hab
  rcases hab with hab | ⟨rfl, rfl⟩
  · exact h a b hab
  · exact ⟨h5, x, y, hxy, hy, rfl, rfl⟩
theorem nm5_lt {n x : Nat} (h : 0 < n) : nm5 n x < n := Nat.mod_lt _ h
theorem nm5_int (n x : Nat) : Int.tmod (5 * (x : Int) + 1) (n : Int) = ((nm5 n x : Nat) : Int) := by
  rw [Int.tmod_eq_emod_of_nonneg (by omega)]; unfold nm5; simp
theorem phR_zero (R : Nat → Nat → Bool) (z : Nat) : phR R z 0 0 = R := by
  funext i j; unfold phR; simp
theorem phR_up {n : Nat} {R : Nat → Nat → Bool} (h : UpN n R) (hn : n ≤ 12) (z x y : Nat) : UpN n (phR R z x y) := fun a b hab => by
  unfold phR at hab
  simp only [Bool.or_eq_true, Bool.and_eq_true] at hab
  rcases hab with hab | ⟨_, h1, h2⟩
  · exact h a b hab
  · obtain ⟨h5, x1, y1, hxy1, hy1, e1, e2⟩ := h a z h1
    obtain ⟨_, x2, y2, hxy2, hy2, e3, e4⟩ := h z b h2
    have := nm5_inj n hn h5 y1 hy1 x2 (by omega) (e2.trans e3.symm)
    exact ⟨h5, x1, y2, by omega, hy2, e1, e4⟩
theorem phR_col {R : Nat → Nat → Bool} {z : Nat} (h : R z z = false) (x y i : Nat) : phR R z x y i z = R i z := by
  unfold phR; rw [h]; simp
theorem phR_row {R : Nat → Nat → Bool} {z : Nat} (h : R z z = false) (x y j : Nat) : phR R z x y z j = R z j := by
  unfold phR; rw [h]; simp
theorem phR_next {R : Nat → Nat → Bool} {z x y : Nat} (hc : (R x z && R z y) = true) : phR R z x (y + 1) = fun i j => phR R z x y i j || (decide (i = x) && decide (j = y)) := by
  funext i j
  unfold phR
  by_cases hi : i = x
  · subst hi
    by_cases hj : j = y
    · subst hj
      rw [hc]; simp
    · have : decide (j < y + 1) = decide (j < y) := by simp only [decide_eq_decide]; omega
      rw [this]; simp [hj]
  · simp [hi]
theorem phR_skip {R : Nat → Nat → Bool} {z x y : Nat} (hc : (R x z && R z y) = false) : phR R z x (y + 1) = phR R z x y := by
  funext i j
  unfold phR
  by_cases hi : i = x
  · subst hi
    by_cases hj : j = y
    · subst hj
      rw [hc]; simp
    · have : decide (j < y + 1) = decide (j < y) := by simp only [decide_eq_decide]; omega
      rw [this]
  · simp [hi]
theorem phR_line {R : Nat → Nat → Bool} {z x n : Nat} (i j : Nat) (hj : j < n) : phR R z x n i j = phR R z (x + 1) 0 i j := by
  unfold phR
  congr 2
  by_cases h1 : i < x
  · have h2 : i < x + 1 := by omega
    simp [h1, h2]
  · by_cases h2 : i = x
    · subst h2
      simp [hj]
    · have h3 : ¬ i < x + 1 := by omega
      simp [h1, h2, h3]
/-- closed by the numbers below k -/
def ClN (n k : Nat) (R : Nat → Nat → Bool) : Prop := ∀ z, z < k → ∀ x, x < n → ∀ y, y < n → R x z = true → R z y = true → R x y = true
theorem ClN.congr {n k : Nat} {R S : Nat → Nat → Bool} (hk : k ≤ n) (h : ClN n k R) (e : ∀ i j, i < n → j < n → R i j = S i j) : ClN n k S := fun z hz x hx y hy h1 h2 => by
  rw [← e x y hx hy]
  exact h z hz x hx y hy (by rw [e x z hx (by omega)]; exact h1) (by rw [e z y (by omega) hy]; exact h2)
theorem ClN.step {n z : Nat} {R : Nat → Nat → Bool} (h : ClN n z R) (hz : z < n) (hR : R z z = false) : ClN n (z + 1) (phR R z n 0) := by
  intro k hk x hx y hy h1 h2
  have ph : ∀ i j, i < n → (phR R z n 0 i j = true ↔ R i j = true ∨ (R i z = true ∧ R z j = true)) := fun i j hi => by
    unfold phR; simp [hi]
  rw [ph x k hx] at h1
  rw [ph k y (by omega)] at h2
  rw [ph x y hx]
  by_cases e : k = z
  · subst e
    have a1 : R x k = true := h1.elim id fun h => h.1
    have a2 : R k y = true := h2.elim id fun h => h.2
    exact .inr ⟨a1, a2⟩
  · have hkz : k < z := by omega
    rcases h1 with h1 | ⟨h1, h3⟩
    · rcases h2 with h2 | ⟨h2, h4⟩
      · exact .inl (h k hkz x hx y hy h1 h2)
      · exact .inr ⟨h k hkz x hx z hz h1 h2, h4⟩
    · rcases h2 with h2 | ⟨h2, h4⟩
      · exact .inr ⟨h1, h k hkz z hz y hy h3 h2⟩
      · exact .inr ⟨h1, h4⟩
theorem UpN.congr {n : Nat} {R S : Nat → Nat → Bool} (h : UpN n R) (e : ∀ i j, S i j = true → R i j = true) : UpN n S := fun a b hab => h a b (e a b hab)
theorem UpN.tab {n : Nat} {R : Nat → Nat → Bool} (h : UpN n R) (h1 : 1 ≤ n) (hn : n ≤ 12) (hc : ClN n n R) : TabOK n (fun _ => n) R :=
  ⟨h1, hn, fun _ _ => rfl, ⟨fun x _ => h.irr hn x, fun x y z hx hy hz h1 h2 => hc y hy x hx z hz h1 h2⟩⟩
/-- a row of marks in memory -/
def RowM (W : World) (B n : Nat) (f : Nat → Bool) : Prop := ∃ vs, BoxN W B 4 vs ∧ vs.size = n ∧ ∀ j, j < n → vs[j]? = some (.bool (f j))
theorem RowM.lt {W : World} {B n : Nat} {f : Nat → Bool} (h : RowM W B n f) : B < W.heap.size := h.elim fun _ h => h.1.lt
theorem RowM.cell {W : World} {B n : Nat} {f : Nat → Bool} (h : RowM W B n f) {x : Nat} (hx : x < n) : W.cell? ⟨B, x, none⟩ = some (.bool (f x)) := by
  obtain ⟨vs, h1, h2, h3⟩ := h
  rw [h1.cell]; exact h3 x hx
theorem RowM.frozen {W : World} {B n : Nat} {f : Nat → Bool} (h : RowM W B n f) (x : Nat) : W.frozen? ⟨B, x, none⟩ = false := by
  obtain ⟨vs, h1, _⟩ := h
  exact h1.frozen x
theorem RowM.kept {W W' : World} {row : Option Nat} {B n : Nat} {f : Nat → Bool} (h : RowM W B n f) (hg : W.grownBy W' row) (hne : some B ≠ row) : RowM W' B n f := by
  obtain ⟨vs, h1, h2⟩ := h
  exact ⟨vs, h1.kept hg hne, h2⟩
theorem RowM.set {W : World} {B n : Nat} {f : Nat → Bool} (h : RowM W B n f) {x : Nat} (_hx : x < n) (v : Bool) : RowM (W.setCell ⟨B, x, none⟩ (.bool v)) B n (fun j => if j = x then v else f j) := by
  obtain ⟨vs, h1, h2, h3⟩ := h
  refine ⟨_, h1.set x (.bool v), by simpa using h2, fun j hj => ?_⟩
  by_cases e : j = x
  · subst e; rw [Array.getElem?_setIfInBounds_self_of_lt (by omega)]; simp
  · rw [Array.getElem?_setIfInBounds_ne (Ne.symm e)]; simp only [if_neg e]; exact h3 j hj
theorem RowM.other {W : World} {B n : Nat} {f : Nat → Bool} (h : RowM W B n f) {a : Addr} (hne : B ≠ a.block) (x : Value) : RowM (W.setCell a x) B n f := by
  obtain ⟨vs, h1, h2⟩ := h
  exact ⟨vs, h1.other hne x, h2⟩
theorem RowM.congr {W : World} {B n : Nat} {f g : Nat → Bool} (h : RowM W B n f) (e : ∀ j, j < n → f j = g j) : RowM W B n g := by
  obtain ⟨vs, h1, h2, h3⟩ := h
  exact ⟨vs, h1, h2, fun j hj => by rw [h3 j hj, e j hj]⟩
/-- k rows of n marks that the call has made, each its own -/
structure TabW (W : World) (base : Nat) (v : Value) (k n : Nat) (rb : Nat → Nat) (R : Nat → Nat → Bool) : Prop where
  q : QRow W base 33 1 v k ((List.range k).map fun i => .slice (some ⟨rb i, 0, none⟩) n n)
  rows : ∀ i, i < k → RowM W (rb i) n (R i)
  inj : ∀ i j, i < j → j < k → rb i ≠ rb j
  low : ∀ i, i < k → base ≤ rb i
theorem TabW.ne {W : World} {base : Nat} {v : Value} {k n : Nat} {rb : Nat → Nat} {R : Nat → Nat → Bool} (h : TabW W base v k n rb R) {i : Nat} (hi : i < k) : v.ownBlock ≠ some (rb i) := fun hv => by
  rcases h.q.2 with ⟨rfl, _⟩ | ⟨g, o, cap, cur, rfl, _, hg, _⟩
  · cases hv
  · cases hv
    obtain ⟨vs, h1, _⟩ := h.rows i hi
    rw [show W.heap[rb i]? = _ from h1] at hg
    cases hg
theorem TabW.at {W : World} {base : Nat} {v : Value} {k n : Nat} {rb : Nat → Nat} {R : Nat → Nat → Bool} (h : TabW W base v k n rb R) (hk : 0 < k) : ∃ g o c, v = .slice (some ⟨g, o, none⟩) k c ∧ base ≤ g ∧ g < W.heap.size ∧ (∀ i, i < k → W.cell? ⟨g, o + i, none⟩ = some (.slice (some ⟨rb i, 0, none⟩) n n)) ∧ ∀ i, i < k → g ≠ rb i := by
  obtain ⟨g, o, c, e, h1, h2, _, _, h3, _⟩ := h.q.at (by omega)
  refine ⟨g, o, c, e, h1, h2, fun i hi => ?_, fun i hi e2 => h.ne hi (by rw [e, e2]; rfl)⟩
  rw [h3 i (by omega), List.getElem?_map, List.getElem?_range hi]; rfl
theorem TabW.hdr {W : World} {base g o c : Nat} {k n : Nat} {rb : Nat → Nat} {R : Nat → Nat → Bool} (h : TabW W base (.slice (some ⟨g, o, none⟩) k c) k n rb R) {i : Nat} (hi : i < k) : W.cell? ⟨g, o + i, none⟩ = some (.slice (some ⟨rb i, 0, none⟩) n n) := by
  obtain ⟨g', o', c', e, _, _, h3, _⟩ := h.at (by omega)
  cases e
  exact h3 i hi
theorem TabW.tbl {W : World} {base : Nat} {p : Option Addr} {c n : Nat} {rb : Nat → Nat} {R : Nat → Nat → Bool} (h : TabW W base (.slice p n c) n n rb R) : TblI W p n (fun _ => n) R := fun hm => by
  obtain ⟨g, o, c', e, _, h2, h3, _⟩ := h.at (by omega)
  cases e
  refine ⟨g, o, rfl, h2, fun i hi => ⟨_, _, h3 i hi, fun _ => ⟨rb i, 0, rfl, (h.rows i hi).lt, fun j hj => ?_⟩⟩⟩
  rw [Nat.zero_add]; exact (h.rows i hi).cell hj
theorem TabW.set {W : World} {base : Nat} {v : Value} {k n : Nat} {rb : Nat → Nat} {R : Nat → Nat → Bool} (h : TabW W base v k n rb R) {a b : Nat} (ha : a < k) (hb : b < n) : TabW (W.setCell ⟨rb a, b, none⟩ (.bool true)) base v k n rb (fun i j => R i j || (decide (i = a) && decide (j = b))) where
  q := h.q.other (fun kk e h2 => h.ne ha (by rw [e, h2])) _
  rows := fun i hi => by
    by_cases e : i = a
    · subst e
      refine ((h.rows i hi).set hb true).congr fun j hj => ?_
      by_cases e2 : j = b
      · simp [e2]
      · simp [e2]
    · refine ((h.rows i hi).other (a := ⟨rb a, b, none⟩) (fun e2 => ?_) _).congr fun j hj => by simp [e]
      rcases Nat.lt_or_gt_of_ne e with h3 | h3
      · exact h.inj i a h3 ha e2
      · exact h.inj a i h3 hi e2.symm
  inj := h.inj
  low := h.low
theorem TabW.dr {W : World} {base : Nat} {v : Value} {k n : Nat} {rb : Nat → Nat} {R : Nat → Nat → Bool} (h : TabW W base v k n rb R) (q : Nat) : TabW (W.drewN q) base v k n rb R := ⟨h.q, h.rows, h.inj, h.low⟩
theorem TabW.congr {W : World} {base : Nat} {v : Value} {k n : Nat} {rb : Nat → Nat} {R S : Nat → Nat → Bool} (h : TabW W base v k n rb R) (e : ∀ i j, i < k → j < n → R i j = S i j) : TabW W base v k n rb S :=
  ⟨h.q, fun i hi => (h.rows i hi).congr fun j hj => e i j hi hj, h.inj, h.low⟩
theorem TabW.push {W W' : World} {base n i : Nat} {v v' : Value} {rb : Nat → Nat} {vs : Array Value} {o : Obj} (h : TabW W base v i n rb (fun _ _ => false)) (hb : base ≤ W.heap.size) (hv : vs.size = n ∧ ∀ j, j < n → vs[j]? = some (.bool false))
    (hg : ((W.alloc (.cells vs 4)).alloc o).grownBy W' v.ownBlock) (hq : QRow W' base 33 1 v' (i + 1) ((List.range i).map (fun i => .slice (some ⟨rb i, 0, none⟩) n n) ++ [.slice (some ⟨W.heap.size, 0, none⟩) n n])) :
    TabW W' base v' (i + 1) n (fun j => if j = i then W.heap.size else rb j) (fun _ _ => false) where
  q := by
    rw [List.range_succ, List.map_append]
    have e1 : (List.range i).map (fun j => Value.slice (some ⟨if j = i then W.heap.size else rb j, 0, none⟩) n n) = (List.range i).map (fun i => Value.slice (some ⟨rb i, 0, none⟩) n n) := by
      apply List.map_congr_left
      intro j hj
      rw [if_neg (by have := List.mem_range.1 hj; omega)]
    rw [e1]
    simpa using hq
  rows := fun j hj => by
    by_cases e : j = i
    · subst e
      simp only [if_true]
      have h1 : RowM (W.alloc (.cells vs 4)) W.heap.size n (fun _ => false) := ⟨vs, BoxN.new rfl, hv.1, hv.2⟩
      exact (h1.kept (World.grownBy_alloc _ o none) (by simp)).kept hg (fun e => by have := (h.q.lt _ e.symm).2; omega)
    · simp only [if_neg e]
      have h1 := h.rows j (by omega)
      exact ((h1.kept (World.grownBy_alloc _ (.cells vs 4) none) (by simp)).kept (World.grownBy_alloc _ o none) (by simp)).kept hg (fun e2 => h.ne (by omega) e2.symm)
  inj := fun a b hab hb2 => by
    have ha := (h.rows a (by omega)).lt
    by_cases e : b = i
    · rw [if_pos e, if_neg (by omega)]; omega
    · rw [if_neg e, if_neg (by omega)]; exact h.inj a b hab (by omega)
  low := fun j hj => by
    by_cases e : j = i
    · rw [if_pos e]; exact hb
    · rw [if_neg e]; exact h.low j (by omega)
theorem make_33 (n : Nat) (hn : n ≤ 20) : ∃ vs : Array Value, vs.size = n ∧ (∀ j, j < n → vs[j]? = some (.bool false)) ∧
    ∀ W, Sem.run Try.prog (Instr.makeSlice 33 (.int .i64 (n : Int)) (.int .i64 (n : Int))) W = .ok (.slice (some ⟨W.heap.size, 0, none⟩) n n) (W.alloc (.cells vs 4)) := by
  obtain ⟨i0, hi, hz0, hz1, hz2⟩ := info_parts info4
  refine ⟨madeCells #[.bool false] n, size_madeCells _ _, fun j hj => ?_, fun W => ?_⟩
  · rw [← Array.getElem?_toList, toList_madeCells_one, List.getElem?_replicate, if_pos hj]
  · have := run_make (P := Try.prog) W 33 4 i0 _ under33 hi hz0 .i64 .i64 (n : Int) (n : Int) (by omega) (Int.le_refl _) (by rw [hz2]; omega) (by omega)
    rw [hz1, show (Value.bool false).cells = #[.bool false] from rfl] at this
    simpa using this
end Go.Proofs.Ytbioondlmgolkaa
namespace Go.Proofs.Ytbioondlmgolkaa
open Go.RowKit Go.Shelf

theorem iv_app (a b : List Nat) : iv (a ++ b) = iv a ++ iv b := by simp [iv]
theorem src_take {w : World} {base : Nat} {p : Option Addr} {m c k : Nat} {L : List Nat} (h : QRow w base 3 1 (.slice p m c) m (iv L)) (hm : L.length = m) (hk : k ≤ m) : Src w p k 1 (iv (L.take k)) := by
  refine ⟨by rw [iv_length, List.length_take]; omega, fun h0 => ?_⟩
  obtain ⟨b, o, cap, e, _, _, _, _, hc, _⟩ := h.at (by omega)
  cases e
  refine ⟨_, rfl, fun j u hu => ?_⟩
  have hj := (List.getElem?_eq_some_iff.1 hu).1
  rw [iv_length, List.length_take] at hj
  rw [Addr.add_lit, hc j (by omega), ← hu]
  unfold iv
  rw [List.getElem?_map, List.getElem?_map, List.getElem?_take, if_pos (by omega)]
theorem src_drop {w : World} {base : Nat} {b o m c k : Nat} {L : List Nat} (h : QRow w base 3 1 (.slice (some ⟨b, o, none⟩) m c) m (iv L)) (hm : L.length = m) (hk : k ≤ m) : Src w (some ⟨b, o + k, none⟩) (m - k) 1 (iv (L.drop k)) := by
  refine ⟨by rw [iv_length, List.length_drop]; omega, fun h0 => ?_⟩
  obtain ⟨b', o', cap, e, _, _, _, _, hc, _⟩ := h.at (by omega)
  cases e
  refine ⟨_, rfl, fun j u hu => ?_⟩
  have hj := (List.getElem?_eq_some_iff.1 hu).1
  rw [iv_length, List.length_drop] at hj
  rw [Addr.add_lit, Nat.add_assoc, hc (k + j) (by omega), ← hu]
  unfold iv
  rw [List.getElem?_map, List.getElem?_map, List.getElem?_drop]
end Go.Proofs.Ytbioondlmgolkaa
namespace Go.Proofs.Ytbioondlmgolkaa
open Go.RowKit Go.Shelf

/-- one element of a table -/
theorem TblI.at {W : World} {la : Option Addr} {n : Nat} {r : Nat → Nat → Bool} (h : TblI W la n (fun _ => n) r) {x : Nat} (hx : x < n) : ∃ b o p o2 c, la = some ⟨b, o, none⟩ ∧ b < W.heap.size ∧ p < W.heap.size ∧ W.cell? ⟨b, o + x, none⟩ = some (.slice (some ⟨p, o2, none⟩) n c) ∧ ∀ y, y < n → W.cell? ⟨p, o2 + y, none⟩ = some (.bool (r x y)) := by
  obtain ⟨b, o, e, hb, hr⟩ := h (by omega)
  obtain ⟨p, c, h1, h2⟩ := hr x hx
  obtain ⟨b2, o2, rfl, hb2, hc⟩ := h2 (by show n ≠ 0; omega)
  exact ⟨b, o, b2, o2, c, e, hb, hb2, h1, hc⟩
end Go.Proofs.Ytbioondlmgolkaa
namespace Go.Proofs.Ytbioondlmgolkaa
open Go.RowKit Go.Shelf

/-- the endings in a square of n by n, with how often each is in D -/
def gl (n : Nat) (D : List (Nat × Nat)) (J : Nat) : List ((Nat × Nat) × Nat) := (List.range J).map fun j => ((j / n, j % n), D.count (j / n, j % n))
/-- what has been put into the next table -/
def part (n : Nat) (D : List (Nat × Nat)) (J x : Nat) : List (Nat × Nat) := (gl n D J).flatMap stC ++ ((nexts (J / n, J % n)).take x).flatMap fun e => List.replicate (D.count (J / n, J % n)) e
end Go.Proofs.Ytbioondlmgolkaa
namespace Go.Proofs.Ytbioondlmgolkaa
open Go.RowKit Go.Shelf

/-- uint(z) % uint(m) -/
def um (z : Int) (m : Nat) : Nat := ((IntKind.u64.wrap z).tmod (m : Int)).toNat
theorem u64_nonneg (z : Int) : 0 ≤ IntKind.u64.wrap z := by rw [IntKind.wrap_u64]; omega
theorem um_eq (z : Int) (m : Nat) : (IntKind.u64.wrap z).tmod (m : Int) = ((um z m : Nat) : Int) := by
  unfold um
  have := Int.tmod_nonneg (m : Int) (u64_nonneg z)
  omega
theorem um_lt (z : Int) {m : Nat} (hm : 1 ≤ m) : um z m < m := by
  have h := um_eq z m
  rw [Int.tmod_eq_emod_of_nonneg (u64_nonneg z)] at h
  have := Int.emod_lt_of_pos (IntKind.u64.wrap z) (show (0 : Int) < (m : Int) by omega)
  omega
/-- a row of integers, one of which is written -/
theorem QRow.fits {W : World} {base : Nat} {e : TypeId} {size : Nat} {p : Option Addr} {m c : Nat} {xs : List Value} (h : QRow W base e size (.slice p m c) m xs) : m ≤ c ∧ c ≤ maxLen := by
  rcases h.2 with ⟨e, h0⟩ | ⟨g, o, cap, cur, e, _, _, h5, h6, _⟩
  · cases e; exact ⟨by omega, by decide⟩
  · cases e; exact ⟨h5, h6⟩
theorem QRow.put {W : World} {base : Nat} {g o m c k : Nat} {f : Nat → Int} (h : QRow W base 3 1 (.slice (some ⟨g, o, none⟩) m c) m (ivI f m)) (hk : k < m) (z : Int) :
    W.frozen? ⟨g, o + k, none⟩ = false ∧ QRow (W.setCell ⟨g, o + k, none⟩ (.int .i64 z)) base 3 1 (.slice (some ⟨g, o, none⟩) m c) m (ivI (fun j => if j = k then z else f j) m) := by
  rcases h.2 with ⟨e, _⟩ | ⟨g', o', cap, cur, e, h1, h2, h3, h4, h5, h6⟩
  · cases e
  · cases e
    have hb : BoxN W g 3 cur := h2
    refine ⟨hb.frozen _, by rw [ivI_len]; omega, .inr ⟨g, o, c, _, rfl, h1, hb.set (o + k) (.int .i64 z), h3, h4, by simpa using h5, fun j hj => ?_⟩⟩
    have hj' : j < m := by omega
    rw [ivI_get _ _ _ hj']
    by_cases e : j = k
    · subst e
      rw [Array.getElem?_setIfInBounds_self_of_lt (by omega)]; simp
    · rw [Array.getElem?_setIfInBounds_ne (by omega), if_neg e, h6 j hj, ivI_get _ _ _ hj']
end Go.Proofs.Ytbioondlmgolkaa
namespace Go.Proofs.Ytbioondlmgolkaa
open Go.RowKit Go.Shelf

/-- a number brought into the range from 0 to m - 1 -/
theorem small_any (z : Int) (m : Nat) (w : World) (hm : 1 ≤ m) (h9 : m ≤ 1000) :
    Calls Try.prog 6 #[.int .i64 z, .int .i64 ((m : Int) - 1)] w fun e w' => e = .returned (.int .i64 (um z m : Nat)) ∧ w' = w := by
  have hum := um_eq z m
  have hlt := um_lt z (m := m) hm
  generalize um z m = uu at *
  have z1 : IntKind.u64.wrap (m : Int) = (m : Int) := u64_same _ (by omega)
  have z2 : IntKind.i64.wrap (uu : Int) = (uu : Int) := IntWalk.i64_in _ (by omega)
  have z3 : (m : Int) - 1 + 1 = (m : Int) := by omega
  have g1 : 0 < (m : Int) := by omega
  go_enter Try.func6, Try.ntmps6
  go_wp2
  go_ret
  exact ⟨rfl, rfl⟩
theorem isRight_yes (n : Nat) (w : World) (h2 : 2 ≤ n) (h16 : n ≤ 16) (hev : n % 2 = 0) :
    Calls Try.prog 25 #[.int .i64 (n : Int)] w fun e w' => e = .returned (.bool true) ∧ w' = w := by
  have g1 : (2 : Int) ≤ (n : Int) := by omega
  have g2 : (n : Int) ≤ 16 := by omega
  have g3 : Int.tmod (n : Int) 2 = 0 := by rw [Int.tmod_eq_emod_of_nonneg (by omega)]; omega
  go_enter Try.func25, Try.ntmps25
  go_wp2
  go_ret
  exact ⟨rfl, rfl⟩
end Go.Proofs.Ytbioondlmgolkaa
namespace Go.Proofs.Ytbioondlmgolkaa
open Go.RowKit

theorem nodup_sub {α : Type} [DecidableEq α] : ∀ (a b : List α), a.Nodup → (∀ x ∈ a, x ∈ b) → a.length ≤ b.length
  | [], _, _, _ => Nat.zero_le _
  | x :: a, b, hn, hs => by
    rw [List.nodup_cons] at hn
    have hx := hs x List.mem_cons_self
    have h1 := nodup_sub a (b.erase x) hn.2 fun y hy => by
      have hne : y ≠ x := fun e => hn.1 (by rw [← e]; exact hy)
      exact (List.mem_erase_of_ne hne).2 (hs y (List.mem_cons_of_mem _ hy))
    rw [List.length_erase_of_mem hx] at h1
    have := List.length_pos_of_mem hx
    rw [List.length_cons]
    omega
/-- how many of the first n -/
def cnt (p : Nat → Bool) : Nat → Nat
  | 0 => 0
  | n + 1 => cnt p n + (p n).toNat
theorem cnt_filter (p : Nat → Bool) : ∀ n, cnt p n = ((List.range n).filter p).length
  | 0 => rfl
  | n + 1 => by
    rw [List.range_succ, List.filter_append, List.length_append]
    unfold cnt
    rw [cnt_filter p n]
    cases h : p n <;> simp [h]
theorem cnt_le (p : Nat → Bool) : ∀ n, cnt p n ≤ n
  | 0 => Nat.le_refl _
  | n + 1 => by
    have := cnt_le p n
    unfold cnt
    cases p n <;> simp <;> omega
theorem cnt_congr {p q : Nat → Bool} : ∀ {n}, (∀ i, i < n → p i = q i) → cnt p n = cnt q n
  | 0, _ => rfl
  | n + 1, h => by unfold cnt; rw [cnt_congr fun i hi => h i (by omega), h n (by omega)]
structure TourP (n : Nat) (t : Nat → Nat → Bool) : Prop where
  irr : ∀ i, i < n → t i i = false
  tot : ∀ i j, i < n → j < n → i ≠ j → t i j = !t j i
theorem sum_pairs {n : Nat} {t : Nat → Nat → Bool} (h : TourP n t) : ∀ σ : List Nat, σ.Nodup → (∀ x ∈ σ, x < n) → 2 * (σ.map fun i => (σ.filter (t i)).length).sum = σ.length * (σ.length - 1)
  | [], _, _ => rfl
  | x :: σ, hn, hl => by
    rw [List.nodup_cons] at hn
    have ih := sum_pairs h σ hn.2 fun y hy => hl y (List.mem_cons_of_mem _ hy)
    have hx := hl x List.mem_cons_self
    have e1 : ((x :: σ).filter (t x)).length = (σ.filter (t x)).length := by
      rw [List.filter_cons, h.irr x hx]; simp
    have e2 : ∀ τ : List Nat, (∀ y ∈ τ, y ∈ σ) → (τ.map fun i => ((x :: σ).filter (t i)).length).sum = (τ.map fun i => (σ.filter (t i)).length).sum + (τ.filter fun i => t i x).length := by
      intro τ
      induction τ with
      | nil => intro _; rfl
      | cons y τ ihτ =>
        intro hs
        have := ihτ fun z hz => hs z (List.mem_cons_of_mem _ hz)
        rw [List.map_cons, List.sum_cons, List.map_cons, List.sum_cons, this, List.filter_cons, List.filter_cons]
        cases hh : t y x <;> simp <;> omega
    have e3 : ∀ τ : List Nat, (∀ y ∈ τ, y ∈ σ) → (τ.filter (t x)).length + (τ.filter fun i => t i x).length = τ.length := by
      intro τ
      induction τ with
      | nil => intro _; rfl
      | cons y τ ihτ =>
        intro hs
        have := ihτ fun z hz => hs z (List.mem_cons_of_mem _ hz)
        have hy := hs y List.mem_cons_self
        have hne : y ≠ x := fun e => hn.1 (by rw [← e]; exact hy)
        have ht := h.tot y x (hl y (List.mem_cons_of_mem _ hy)) hx hne
        rw [List.filter_cons, List.filter_cons, List.length_cons, ht]
        cases hh : t x y <;> simp <;> omega
    rw [List.map_cons, List.sum_cons, e1, e2 σ fun y hy => hy, List.length_cons]
    have h3 := e3 σ fun y hy => hy
    have h4 : (σ.length + 1) * (σ.length + 1 - 1) = σ.length * (σ.length - 1) + 2 * σ.length := by
      cases σ.length with
      | zero => rfl
      | succ k =>
        simp only [Nat.add_sub_cancel]
        simp only [Nat.add_mul, Nat.mul_add, Nat.mul_one, Nat.one_mul]
        omega
    omega
/-- the scores of any boats -/
theorem landau {n : Nat} {t : Nat → Nat → Bool} (h : TourP n t) (σ : List Nat) (hn : σ.Nodup) (hl : ∀ x ∈ σ, x < n) : σ.length * (σ.length - 1) ≤ 2 * (σ.map fun i => cnt (t i) n).sum := by
  rw [← sum_pairs h σ hn hl]
  have : ∀ τ : List Nat, (τ.map fun i => (σ.filter (t i)).length).sum ≤ (τ.map fun i => cnt (t i) n).sum := by
    intro τ
    induction τ with
    | nil => exact Nat.le_refl _
    | cons y τ ih =>
      rw [List.map_cons, List.sum_cons, List.map_cons, List.sum_cons]
      have : (σ.filter (t y)).length ≤ cnt (t y) n := by
        rw [cnt_filter]
        refine nodup_sub _ _ (hn.sublist List.filter_sublist) fun z hz => ?_
        rw [List.mem_filter] at hz ⊢
        exact ⟨List.mem_range.2 (hl z hz.1), hz.2⟩
      omega
  have := this σ
  omega
theorem landau_all {n : Nat} {t : Nat → Nat → Bool} (h : TourP n t) : 2 * ((List.range n).map fun i => cnt (t i) n).sum = n * (n - 1) := by
  have := sum_pairs h (List.range n) List.nodup_range fun x hx => List.mem_range.1 hx
  rw [List.length_range] at this
  rw [← this]
  congr 2
  exact List.map_congr_left fun i _ => cnt_filter _ _
theorem perm_map_inv {α β : Type} (f : α → β) {a b : List β} (h : a.Perm b) : ∀ m : List α, b = m.map f → ∃ σ : List α, σ.Perm m ∧ a = σ.map f := by
  induction h with
  | nil =>
    intro m hm
    exact ⟨[], by rw [List.map_eq_nil_iff.1 hm.symm], rfl⟩
  | cons x _ ih =>
    intro m hm
    cases m with
    | nil => cases hm
    | cons y m =>
      rw [List.map_cons, List.cons.injEq] at hm
      obtain ⟨σ, h1, h2⟩ := ih m hm.2
      exact ⟨y :: σ, h1.cons y, by rw [List.map_cons, hm.1, h2]⟩
  | swap x y l =>
    intro m hm
    match m, hm with
    | u :: v :: m, hm =>
      simp only [List.map_cons, List.cons.injEq] at hm
      exact ⟨v :: u :: m, List.Perm.swap _ _ _, by simp only [List.map_cons]; rw [hm.1, hm.2.1, hm.2.2]⟩
  | trans _ _ ih1 ih2 =>
    intro m hm
    obtain ⟨σ, h1, h2⟩ := ih2 m hm
    obtain ⟨τ, h3, h4⟩ := ih1 σ h2
    exact ⟨τ, h3.trans h1, h4⟩
/-- a sorted list's beginnings are scores of so many boats -/
theorem landau_take {n k : Nat} {t : Nat → Nat → Bool} {ys : List Nat} (h : TourP n t) (hp : ys.Perm ((List.range n).map fun i => cnt (t i) n)) (hk : k ≤ n) : k * (k - 1) ≤ 2 * (ys.take k).sum := by
  obtain ⟨σ, h1, h2⟩ := perm_map_inv _ hp (List.range n) rfl
  subst h2
  have hl : σ.length = n := by rw [h1.length_eq, List.length_range]
  have := landau h (σ.take k) ((h1.nodup_iff.2 List.nodup_range).sublist (List.take_sublist k σ)) fun x hx => List.mem_range.1 (h1.mem_iff.1 (List.mem_of_mem_take hx))
  rw [List.length_take, hl, Nat.min_eq_left hk] at this
  rw [← List.map_take]
  exact this
theorem landau_sum {n : Nat} {t : Nat → Nat → Bool} {ys : List Nat} (h : TourP n t) (hp : ys.Perm ((List.range n).map fun i => cnt (t i) n)) : 2 * ys.sum = n * (n - 1) := by
  rw [hp.sum_nat, landau_all h]
end Go.Proofs.Ytbioondlmgolkaa
namespace Go.Proofs.Ytbioondlmgolkaa
open Go.RowKit Go.Shelf

/-- the program's regatta in memory -/
structure RegAt (W : World) (B n : Nat) (t : Nat → Nat → Bool) : Prop where
  lt : B < W.heap.size
  cn : W.cell? ⟨B, 0, none⟩ = some (.int .i64 (n : Int))
  cb : ∀ i, i < n → W.cell? ⟨B, 1 + i, none⟩ = some (.int .i64 ((bs (t i) n : Nat) : Int))
theorem RegAt.block {W W' : World} {B n : Nat} {t : Nat → Nat → Bool} (h : RegAt W B n t) (h1 : W'.heap[B]? = W.heap[B]?) (hs : W.heap.size ≤ W'.heap.size) : RegAt W' B n t :=
  ⟨Nat.lt_of_lt_of_le h.lt hs, (World.cell?_of_block h1).trans h.cn, fun i hi => (World.cell?_of_block h1).trans (h.cb i hi)⟩
theorem RegAt.below {W W' : World} {B n k : Nat} {t : Nat → Nat → Bool} (h : RegAt W B n t) (hB : Below k W W') (hk : B < k) : RegAt W' B n t := h.block (hB.block B hk) hB.size
theorem RegAt.dr {W : World} {B n : Nat} {t : Nat → Nat → Bool} (h : RegAt W B n t) (q : Nat) : RegAt (W.drewN q) B n t := ⟨h.lt, h.cn, h.cb⟩
/-- row i behind x rows and y of the next -/
def rgP (n : Nat) (t : Nat → Nat → Bool) (x y i : Nat) : Nat := if i < x then bs (t i) n else if i = x then bs (t i) y else 0
theorem rgP_low {n : Nat} {t : Nat → Nat → Bool} {x y i : Nat} (h : i < x) : rgP n t x y i = bs (t i) n := by unfold rgP; rw [if_pos h]
theorem rgP_here (n : Nat) (t : Nat → Nat → Bool) (x y : Nat) : rgP n t x y x = bs (t x) y := by unfold rgP; rw [if_neg (by omega), if_pos rfl]
theorem rgP_high {n : Nat} {t : Nat → Nat → Bool} {x y i : Nat} (h : x < i) : rgP n t x y i = 0 := by unfold rgP; rw [if_neg (by omega), if_neg (by omega)]
theorem rgP_row (n : Nat) (t : Nat → Nat → Bool) (x i : Nat) : rgP n t x n i = rgP n t (x + 1) 0 i := by
  rcases Nat.lt_trichotomy i x with h | h | h
  · rw [rgP_low h, rgP_low (by omega)]
  · subst h; rw [rgP_here, rgP_low (by omega)]
  · rw [rgP_high h]
    by_cases e : i = x + 1
    · subst e; rw [rgP_here]; rfl
    · rw [rgP_high (by omega)]
theorem rgP_no {n : Nat} {t : Nat → Nat → Bool} {x y : Nat} (h : t x y = false) (i : Nat) : rgP n t x (y + 1) i = rgP n t x y i := by
  rcases Nat.lt_trichotomy i x with h1 | h1 | h1
  · rw [rgP_low h1, rgP_low h1]
  · subst h1; rw [rgP_here, rgP_here]; show bs (t i) y ||| _ = _; rw [h]; simp
  · rw [rgP_high h1, rgP_high h1]
theorem rgP_yes {n : Nat} {t : Nat → Nat → Bool} {x y : Nat} (h : t x y = true) (i : Nat) : rgP n t x (y + 1) i = if i = x then rgP n t x y x ||| pw y else rgP n t x y i := by
  rcases Nat.lt_trichotomy i x with h1 | h1 | h1
  · rw [rgP_low h1, if_neg (by omega), rgP_low h1]
  · subst h1; rw [rgP_here, if_pos rfl, rgP_here]; show bs (t i) y ||| _ = _; rw [h]; simp [pw]
  · rw [rgP_high h1, if_neg (by omega), rgP_high h1]
theorem rgP_sm {n : Nat} {t : Nat → Nat → Bool} {x y : Nat} (hn : n ≤ 12) (hy : y ≤ n) (i : Nat) : Sm (rgP n t x y i) := by
  have hb : ∀ m, m ≤ 12 → Sm (bs (t i) m) := fun m hm => Nat.lt_of_lt_of_le (bs_lt _ m) (show 2 ^ m ≤ 2 ^ 20 from Nat.pow_le_pow_right (by decide) (by omega))
  unfold rgP
  split
  · exact hb n hn
  · split
    · exact hb y (by omega)
    · exact sm_of (by decide)
/-- the cells of a regatta under way -/
def RegCells (vs : Array Value) (n : Nat) (f : Nat → Nat) : Prop := vs.size = 13 ∧ vs[0]? = some (.int .i64 (n : Int)) ∧ ∀ i, i < 12 → vs[1 + i]? = some (.int .i64 (f i : Int))
theorem RegCells.congr {vs : Array Value} {n : Nat} {f f' : Nat → Nat} (h : RegCells vs n f) (e : ∀ i, f i = f' i) : RegCells vs n f' := ⟨h.1, h.2.1, fun i hi => by rw [← e]; exact h.2.2 i hi⟩
theorem RegCells.set {vs : Array Value} {n x v : Nat} {f : Nat → Nat} (h : RegCells vs n f) (hx : x < 12) : RegCells (vs.setIfInBounds (1 + x) (.int .i64 (v : Int))) n (fun i => if i = x then v else f i) := by
  refine ⟨by simpa using h.1, ?_, fun i hi => ?_⟩
  · rw [Array.getElem?_setIfInBounds_ne (by omega)]; exact h.2.1
  · by_cases e : i = x
    · subst e; rw [Array.getElem?_setIfInBounds_self_of_lt (by rw [h.1]; omega)]; simp
    · rw [Array.getElem?_setIfInBounds_ne (by omega)]; simp only [if_neg e]; exact h.2.2 i hi
set_option maxRecDepth 100000 in
theorem lensco_any (p la : Option Addr) (m n c lc b1 : Nat) (w : World) (h1 : w.cell? ⟨b1, 0, none⟩ = some (.slice la n lc)) :
    Calls Try.prog 61 #[.slice p m c, .pointer (some ⟨b1, 0, none⟩)] w fun e w' => e = .returned (.bool ((m : Int) != (n : Int))) ∧ w' = w := by
  generalize hb : ((m : Int) != (n : Int)) = b
  go_enter Try.func61, Try.ntmps61
  go_wp2
  go_ret
  exact ⟨rfl, rfl⟩
set_option maxRecDepth 100000 in
set_option maxHeartbeats 1000000 in
theorem indexsco_any (la : Option Addr) (n lc b1 : Nat) (r : Nat → Nat → Bool) (w : World) (hn : n ≤ 1099511627776) (hT : TblI w la n (fun _ => n) r) (h1 : w.cell? ⟨b1, 0, none⟩ = some (.slice la n lc)) :
    Calls Try.prog 89 #[.slice la n lc, .func (.func 61) #[] #[.pointer (some ⟨b1, 0, none⟩)]] w fun e w' => e = .returned (.int .i64 (-1)) ∧ w' = w := by
  have HT := Lib.hid hT
  have HC := Lib.hid (fun p m c => lensco_any p la m n c lc b1 w h1)
  clear hT h1
  go_enter Try.func89, Try.ntmps89
  go_upto_region 2 with (fail)
  go_loopw [8] (fun s8 wr => ∃ j : Nat, j ≤ n ∧ s8 = .int .i64 (j : Int) ∧ Hid (wr.heap = w.heap ∧ wr = w)) (fun s8 _ => n - (intOf s8).toNat)
  case atStart => exact ⟨0, by omega, rfl, rfl, rfl⟩
  case round =>
    obtain ⟨j, hj, rfl, hw⟩ := hrel
    obtain ⟨_, hw⟩ := hw.out
    replace hw := hw.symm
    subst hw
    by_cases hjm : j < n
    · have g1 : (j : Int) < (n : Int) := by omega
      have g0 : (0 : Int) ≤ (j : Int) := by omega
      obtain ⟨b, o, e0, hb, hc⟩ := HT.out (by omega)
      obtain ⟨p, c, k1, _⟩ := hc j hjm
      have HCJ := Lib.hid (HC.out p n c)
      subst e0
      clear hc
      have hd : (((n : Nat) : Int) != (n : Int)) = false := by simp
      rw [hd] at HCJ
      clear hd HC
      go_wp2_with (go_at_call 61; refine HCJ.out.mono ?_; rintro e w4 ⟨rfl, hw4⟩; replace hw4 := hw4.symm; subst hw4; try dsimp only)
      exact ⟨⟨j + 1, by omega, int_eq (by omega), (by first | exact ⟨rfl, rfl⟩ | exact ⟨trivial, trivial⟩)⟩, by simp [intOf]; omega⟩
    · have g1 : ¬ (j : Int) < (n : Int) := by omega
      go_wp2
      go_ret
      exact ⟨rfl, rfl⟩
set_option maxRecDepth 100000 in
theorem containssco_any (la : Option Addr) (n lc b1 : Nat) (r : Nat → Nat → Bool) (w : World) (hn : n ≤ 1099511627776) (hT : TblI w la n (fun _ => n) r) (h1 : w.cell? ⟨b1, 0, none⟩ = some (.slice la n lc)) :
    Calls Try.prog 60 #[.slice la n lc, .func (.func 61) #[] #[.pointer (some ⟨b1, 0, none⟩)]] w fun e w' => e = .returned (.bool false) ∧ w' = w := by
  have HI := Lib.hid (indexsco_any la n lc b1 r w hn hT h1)
  clear hT h1
  go_enter Try.func60, Try.ntmps60
  go_wp2_with (go_at_call 89; refine HI.out.mono ?_; rintro e w4 ⟨rfl, hw4⟩; replace hw4 := hw4.symm; subst hw4; try dsimp only)
  go_ret
  exact ⟨rfl, rfl⟩
set_option maxRecDepth 100000 in
set_option maxHeartbeats 8000000 in
/-- a tournament's regatta -/
theorem sopen_ok (la : Option Addr) (n lc : Nat) (t : Nat → Nat → Bool) (w : World) (hn1 : 1 ≤ n) (hn12 : n ≤ 12) (hP : TourP n t) (hT : TblI w la n (fun _ => n) t) :
    Calls Try.prog 28 #[.slice la n lc] w fun e w' => ∃ B, e = .returned (.tuple #[.pointer (some ⟨B, 0, none⟩), .int .i64 0]) ∧ w.heap.size ≤ B ∧ RegAt w' B n t ∧ Below w.heap.size w w' := by
  have HB0 : Hid (Below w.heap.size w (w.alloc (.cells #[.slice la n lc] 32))) := (Below.refl _ _).alloc (Nat.le_refl _) _
  have HX0 : Hid (BoxN (w.alloc (.cells #[.slice la n lc] 32)) w.heap.size 32 #[.slice la n lc]) := BoxN.new rfl
  have HT0 := Lib.hid (hT.below HB0.out (Nat.le_refl _))
  have HP := Lib.hid hP
  clear hT hP
  go_enter Try.func28, Try.ntmps28
  go_upto_region 1 with (fail)
  obtain ⟨b1, hb1⟩ : ∃ b1, Hid (b1 = w.heap.size) := ⟨_, rfl⟩
  rw [← hb1.out] at HX0
  simp only [← hb1.out]
  generalize w.alloc (.cells #[.slice la n lc] 32) = X at *
  have hbx : b1 < X.heap.size := HX0.out.lt
  have hwX : w.heap.size ≤ X.heap.size := HB0.out.size
  have c0 := HX0.out.cell 0
  have g1 : ¬ (n : Int) < 1 := by omega
  have g2 : ¬ (12 : Int) < (n : Int) := by omega
  have HY0 : Hid (BoxN (X.alloc (.cells #[.int .i64 (n : Int), .int .i64 0, .int .i64 0, .int .i64 0, .int .i64 0, .int .i64 0, .int .i64 0, .int .i64 0, .int .i64 0, .int .i64 0, .int .i64 0, .int .i64 0, .int .i64 0] 95)) X.heap.size 95 #[.int .i64 (n : Int), .int .i64 0, .int .i64 0, .int .i64 0, .int .i64 0, .int .i64 0, .int .i64 0, .int .i64 0, .int .i64 0, .int .i64 0, .int .i64 0, .int .i64 0, .int .i64 0]) := BoxN.new rfl
  have HBY : Hid (Below w.heap.size w (X.alloc (.cells #[.int .i64 (n : Int), .int .i64 0, .int .i64 0, .int .i64 0, .int .i64 0, .int .i64 0, .int .i64 0, .int .i64 0, .int .i64 0, .int .i64 0, .int .i64 0, .int .i64 0, .int .i64 0] 95))) := HB0.out.alloc hwX _
  have HXY : Hid (BoxN (X.alloc (.cells #[.int .i64 (n : Int), .int .i64 0, .int .i64 0, .int .i64 0, .int .i64 0, .int .i64 0, .int .i64 0, .int .i64 0, .int .i64 0, .int .i64 0, .int .i64 0, .int .i64 0, .int .i64 0] 95)) b1 32 #[.slice la n lc]) := HX0.out.alloc _
  have HRC : Hid (RegCells #[.int .i64 (n : Int), .int .i64 0, .int .i64 0, .int .i64 0, .int .i64 0, .int .i64 0, .int .i64 0, .int .i64 0, .int .i64 0, .int .i64 0, .int .i64 0, .int .i64 0, .int .i64 0] n (rgP n t 0 0)) := ⟨rfl, rfl, fun i hi => by
    have e : rgP n t 0 0 i = 0 := by
      by_cases h : i = 0
      · subst h; rw [rgP_here]; rfl
      · rw [rgP_high (by omega)]
    rw [e]
    rcases (show i = 0 ∨ i = 1 ∨ i = 2 ∨ i = 3 ∨ i = 4 ∨ i = 5 ∨ i = 6 ∨ i = 7 ∨ i = 8 ∨ i = 9 ∨ i = 10 ∨ i = 11 by omega) with rfl | rfl | rfl | rfl | rfl | rfl | rfl | rfl | rfl | rfl | rfl | rfl <;> rfl⟩
  have HBX : Hid (X.heap.size < (X.alloc (.cells #[.int .i64 (n : Int), .int .i64 0, .int .i64 0, .int .i64 0, .int .i64 0, .int .i64 0, .int .i64 0, .int .i64 0, .int .i64 0, .int .i64 0, .int .i64 0, .int .i64 0, .int .i64 0] 95)).heap.size ∧ w.heap.size ≤ X.heap.size ∧ b1 < X.heap.size) := ⟨by simp, hwX, hbx⟩
  have HXB : Hid (Below X.heap.size X (X.alloc (.cells #[.int .i64 (n : Int), .int .i64 0, .int .i64 0, .int .i64 0, .int .i64 0, .int .i64 0, .int .i64 0, .int .i64 0, .int .i64 0, .int .i64 0, .int .i64 0, .int .i64 0, .int .i64 0] 95))) := (Below.refl _ _).alloc (Nat.le_refl _) _
  go_upto_region 2 with (fail)
  obtain ⟨B, hBe⟩ : ∃ B, Hid (B = X.heap.size) := ⟨_, rfl⟩
  rw [← hBe.out] at HY0 HBX ⊢
  generalize hlit : (#[.int .i64 (n : Int), .int .i64 0, .int .i64 0, .int .i64 0, .int .i64 0, .int .i64 0, .int .i64 0, .int .i64 0, .int .i64 0, .int .i64 0, .int .i64 0, .int .i64 0, .int .i64 0] : Array Value) = vs0 at *
  clear hlit
  generalize X.alloc (.cells vs0 95) = Y at *
  have c0 := HXY.out.cell 0
  have HC := Lib.hid (containssco_any la n lc b1 t Y (by omega) (HT0.out.below HXB.out (Nat.le_refl _)) c0)
  go_upto_region 5 with (go_at_call 60; refine HC.out.mono ?_; rintro e w4 ⟨rfl, hw4⟩; replace hw4 := hw4.symm; subst hw4; try dsimp only)
  have hne : b1 ≠ B := by have := HBX.out; omega
  go_loopw [26] (fun s26 wr => ∃ (x : Nat) (vs : Array Value), x ≤ n ∧ s26 = .int .i64 (x : Int) ∧ Hid (BoxN wr B 95 vs) ∧ Hid (RegCells vs n (rgP n t x 0)) ∧ Hid (Ag (· = B) Y wr)) (fun s26 _ => n - (intOf s26).toNat)
  case atStart => exact ⟨0, vs0, by omega, rfl, HY0, HRC, Ag.refl _ _⟩
  case round =>
    obtain ⟨x, vs, hx, rfl, hbox, hcc, hA⟩ := hrel
    by_cases hxn : x < n
    · have g5 : (x : Int) < (n : Int) := by omega
      have g6 : (0 : Int) ≤ (x : Int) := by omega
      obtain ⟨wo, hwo⟩ : ∃ wo, Hid (wo = wr) := ⟨_, rfl⟩
      rw [← hwo.out] at hbox hA ⊢
      clear hwo
      have c1 := (hA.out.boxN HXY.out hne).cell 0
      go_upto_region 8 with (fail)
      go_loopw [31] (fun s31 wq => ∃ (y : Nat) (vs : Array Value), y ≤ n ∧ s31 = .int .i64 (y : Int) ∧ Hid (BoxN wq B 95 vs) ∧ Hid (RegCells vs n (rgP n t x y)) ∧ Hid (Ag (· = B) Y wq)) (fun s31 _ => n - (intOf s31).toNat)
      case atStart => exact ⟨0, vs, by omega, rfl, hbox, hcc, hA⟩
      case round =>
        clear hbox hcc hA c1
        obtain ⟨y, vs, hy, rfl, hbox, hcc, hA⟩ := hrel
        by_cases hyn : y < n
        · have g7 : (y : Int) < (n : Int) := by omega
          have g8 : (0 : Int) ≤ (y : Int) := by omega
          have c1 := (hA.out.boxN HXY.out hne).cell 0
          have HXW : Hid (Below X.heap.size X wr) := hA.out.below HXB.out HXB.out.size (fun k hk e => by have := hBe.out; omega)
          have HTW := Lib.hid (HT0.out.below HXW.out (Nat.le_refl _))
          obtain ⟨bt, ot, rfl, hbt, hct⟩ := HTW.out (by omega)
          obtain ⟨px, cx, kx, sx⟩ := hct x hxn
          obtain ⟨py, cy, ky, sy⟩ := hct y hyn
          obtain ⟨bx, ox, rfl, hbx', hcx⟩ := sx (by show n ≠ 0; omega)
          obtain ⟨by_, oy, rfl, hby, hcy⟩ := sy (by show n ≠ 0; omega)
          have ax := hcx y hyn
          have ay := hcy x hxn
          have l1 := hbox.out.cell (1 + x)
          rw [hcc.out.2.2 x (by omega)] at l1
          have lf1 := hbox.out.frozen (1 + x)
          have hsm := rgP_sm (t := t) (x := x) hn12 (by omega : y ≤ n) x
          have hx12 : (x : Int) < 12 := by omega
          have hy20 : y < 20 := by omega
          clear hct sx sy hcx hcy hbx
          by_cases hxy : x = y
          · subst hxy
            have htf := HP.out.irr x hxn
            have HCN := Lib.hid (hcc.out.congr fun i => (rgP_no (n := n) (t := t) (x := x) (y := x) htf i).symm)
            rw [htf] at ax ay
            have q1 : ((x : Int) == (x : Int)) = true := by simp
            have q2 : ((x : Int) != (x : Int)) = false := by simp
            clear htf l1 lf1 hsm hcc
            go_wp2
            go_quiet (fail)
            have HAD := Lib.hid (hA.out.drewN nq)
            have HBD : Hid (BoxN (wr.drewN nq) B 95 vs) := hbox.out
            clear hA hbox
            go_wp2
            exact ⟨⟨x + 1, vs, by omega, int_eq (by omega), HBD, HCN, HAD⟩, by simp [intOf]; omega⟩
          · have htt := HP.out.tot x y hxn hyn hxy
            have q1 : ((x : Int) == (y : Int)) = false := by rw [beq_eq_false_iff_ne]; omega
            have q2 : ((x : Int) != (y : Int)) = true := by rw [bne_iff_ne]; omega
            cases htx : t x y with
            | false =>
              rw [htx] at htt
              have hty : t y x = true := by simpa using htt
              have HCN := Lib.hid (hcc.out.congr fun i => (rgP_no (n := n) (t := t) (x := x) (y := y) htx i).symm)
              rw [htx] at ax
              rw [hty] at ay
              clear htx hty htt l1 lf1 hsm hcc hxy
              go_wp2
              go_quiet (fail)
              have HAD := Lib.hid (hA.out.drewN nq)
              have HBD : Hid (BoxN (wr.drewN nq) B 95 vs) := hbox.out
              clear hA hbox
              go_wp2
              exact ⟨⟨y + 1, vs, by omega, int_eq (by omega), HBD, HCN, HAD⟩, by simp [intOf]; omega⟩
            | true =>
              rw [htx] at htt
              have hty : t y x = false := by simpa using htt
              have HCN := Lib.hid ((hcc.out.set (v := rgP n t x y x ||| pw y) (show x < 12 by omega)).congr fun i => (rgP_yes (n := n) (t := t) (x := x) (y := y) htx i).symm)
              rw [htx] at ax
              rw [hty] at ay
              clear htx hty htt hcc hxy
              generalize rgP n t x y x = gx at *
              go_wp2
              go_quiet (fail)
              have HAD := Lib.hid (hA.out.drewN nq)
              have HBD : Hid (BoxN (wr.drewN nq) B 95 vs) := hbox.out
              clear hA hbox
              go_wp2
              go_region
              go_wp2
              go_roundw
              case rel => exact ⟨y + 1, _, by omega, by go_num, HBD.out.set (1 + x) _, HCN, (HAD.out.set ⟨B, 1 + x, none⟩ _ (.inr rfl)).drewN 1⟩
              case measure => simp [intOf]; omega
        · have g7 : ¬ (y : Int) < (n : Int) := by omega
          obtain rfl : n = y := by omega
          have HCN := Lib.hid (hcc.out.congr (rgP_row n t x))
          go_wp2
          exact ⟨⟨x + 1, vs, by omega, int_eq (by omega), hbox, HCN, hA⟩, by simp [intOf]; omega⟩
    · have g5 : ¬ (x : Int) < (n : Int) := by omega
      obtain rfl : n = x := by omega
      have H95 : Hid (RegAt wr B n t) := ⟨hbox.out.lt, (hbox.out.cell 0).trans hcc.out.2.1, fun i hi => by rw [hbox.out.cell, hcc.out.2.2 i (by omega), rgP_low hi]⟩
      have HBZ : Hid (Below w.heap.size w wr) := hA.out.below HBY.out HBY.out.size (fun k hk e => by have := HBX.out; omega)
      go_wp2
      refine bodyPost_ret (v := .tuple #[.pointer (some ⟨B, 0, none⟩), .int .i64 0]) (by simp [results, Try.f28, go_sem]) rfl ?_
      exact ⟨B, rfl, by have := HBX.out; omega, H95.out, HBZ.out⟩
end Go.Proofs.Ytbioondlmgolkaa
namespace Go.Proofs.Ytbioondlmgolkaa
open Go.RowKit Go.Shelf

theorem ivI_same {f f' : Nat → Int} {n : Nat} (h : ∀ k, k < n → f k = f' k) : ivI f n = ivI f' n := by
  unfold ivI
  exact List.map_congr_left fun k hk => by rw [h k (List.mem_range.1 hk)]
def SortedTo (f : Nat → Int) (i : Nat) : Prop := ∀ p q, p < q → q < i → f p ≤ f q
/-- position j is still to be put; the others up to i are in order -/
structure InsP (f : Nat → Int) (i j : Nat) : Prop where
  le : j ≤ i
  oth : ∀ p q, p < q → q ≤ i → p ≠ j → q ≠ j → f p ≤ f q
  hi : ∀ q, j < q → q ≤ i → f j ≤ f q
theorem InsP.start {f : Nat → Int} {i : Nat} (h : SortedTo f i) : InsP f i i := ⟨Nat.le_refl _, fun p q h1 h2 _ h4 => h p q h1 (by omega), fun q h1 h2 => by omega⟩
def swF (f : Nat → Int) (a b : Nat) : Nat → Int := fun k => if k = a then f b else if k = b then f a else f k
theorem InsP.swap {f : Nat → Int} {i j : Nat} (h : InsP f i (j + 1)) (hlt : f (j + 1) < f j) : InsP (swF f j (j + 1)) i j := by
  have hle := h.le
  refine ⟨by omega, fun p q h1 h2 h3 h4 => ?_, fun q h1 h2 => ?_⟩
  · unfold swF
    rw [if_neg h3, if_neg h4]
    by_cases e1 : p = j + 1
    · rw [if_pos e1, if_neg (by omega)]
      exact h.oth j q (by omega) h2 (by omega) (by omega)
    · rw [if_neg e1]
      by_cases e2 : q = j + 1
      · rw [if_pos e2]; exact h.oth p j (by omega) (by omega) (by omega) (by omega)
      · rw [if_neg e2]; exact h.oth p q h1 h2 e1 e2
  · unfold swF
    rw [if_pos rfl, if_neg (by omega)]
    by_cases e : q = j + 1
    · rw [if_pos e]; omega
    · rw [if_neg e]; exact h.hi q (by omega) h2
theorem InsP.stop {f : Nat → Int} {i j : Nat} (h : InsP f i j) (hs : j = 0 ∨ f (j - 1) ≤ f j) : SortedTo f (i + 1) := fun p q h1 h2 => by
  by_cases e1 : p = j
  · subst e1; exact h.hi q h1 (by omega)
  · by_cases e2 : q = j
    · subst e2
      rcases hs with hs | hs
      · omega
      · by_cases e3 : p = q - 1
        · subst e3; exact hs
        · exact Int.le_trans (h.oth p (q - 1) (by omega) (by have := h.le; omega) (by omega) (by omega)) hs
    · exact h.oth p q h1 (by omega) e1 e2
/-- the first n values -/
def vals (f : Nat → Int) (n : Nat) : List Int := (List.range n).map f
def trn (a b k : Nat) : Nat := if k = a then b else if k = b then a else k
theorem trn_trn (a b k : Nat) : trn a b (trn a b k) = k := by
  unfold trn
  by_cases h1 : k = a
  · rw [if_pos h1]
    by_cases h2 : b = a
    · rw [if_pos h2]; omega
    · rw [if_neg h2, if_pos rfl]; exact h1.symm
  · rw [if_neg h1]
    by_cases h2 : k = b
    · rw [if_pos h2, if_pos rfl]; exact h2.symm
    · rw [if_neg h2, if_neg h1, if_neg h2]
theorem trn_lt {a b k n : Nat} (ha : a < n) (hb : b < n) (hk : k < n) : trn a b k < n := by
  unfold trn
  split
  · exact hb
  · split
    · exact ha
    · exact hk
theorem vals_swap {f : Nat → Int} {n a b : Nat} (ha : a < n) (hb : b < n) : (vals (swF f a b) n).Perm (vals f n) := by
  have e : vals (swF f a b) n = ((List.range n).map (trn a b)).map f := by
    unfold vals
    rw [List.map_map]
    refine List.map_congr_left fun k _ => ?_
    show swF f a b k = f (trn a b k)
    unfold swF trn
    by_cases e1 : k = a
    · rw [if_pos e1, if_pos e1]
    · rw [if_neg e1, if_neg e1]
      by_cases e2 : k = b
      · rw [if_pos e2, if_pos e2]
      · rw [if_neg e2, if_neg e2]
  rw [e]
  unfold vals
  refine List.Perm.map f ?_
  refine (List.perm_ext_iff_of_nodup ?_ List.nodup_range).2 fun x => ?_
  · unfold List.Nodup
    rw [List.pairwise_map]
    exact List.Pairwise.imp (fun {x y} hxy e => hxy (by have := congrArg (trn a b) e; rwa [trn_trn, trn_trn] at this)) List.nodup_range
  · rw [List.mem_map, List.mem_range]
    constructor
    · rintro ⟨y, hy, rfl⟩
      exact trn_lt ha hb (List.mem_range.1 hy)
    · intro hx
      exact ⟨trn a b x, List.mem_range.2 (trn_lt ha hb hx), trn_trn a b x⟩
theorem ag_ofB {ex : Nat → Prop} {A B : World} (h : Below A.heap.size A B) : Ag ex A B := ⟨h.os, h.tape, h.output, h.size, fun k hk _ => h.block k hk⟩
theorem cmpI_lt {x y : Int} : cmpI x y < 0 ↔ x < y := by unfold cmpI; split <;> (try split) <;> omega
set_option maxRecDepth 100000 in
set_option maxHeartbeats 4000000 in
/-- insertion sort by cmp.Compare -/
theorem insort_any (base g o n c : Nat) (f0 : Nat → Int) (w : World) (hn : n ≤ 20) (hQ : QRow w base 3 1 (.slice (some ⟨g, o, none⟩) n c) n (ivI f0 n)) :
    Calls Try.prog 111 #[.slice (some ⟨g, o, none⟩) n c, .int .i64 0, .int .i64 (n : Int), .func (.func 65) #[] #[]] w fun e w' => e = .returned (.tuple #[]) ∧ (∃ f, QRow w' base 3 1 (.slice (some ⟨g, o, none⟩) n c) n (ivI f n) ∧ SortedTo f n ∧ (vals f n).Perm (vals f0 n)) ∧ Ag (· = g) w w' := by
  have HQ := Lib.hid hQ
  clear hQ
  go_enter Try.func111, Try.ntmps111
  go_upto_region 1 with (fail)
  go_loopw [8] (fun s8 wr => ∃ (i : Nat) (f : Nat → Int), 1 ≤ i ∧ s8 = .int .i64 (i : Int) ∧ Hid (QRow wr base 3 1 (.slice (some ⟨g, o, none⟩) n c) n (ivI f n)) ∧ Hid (SortedTo f (min i n)) ∧ Hid ((vals f n).Perm (vals f0 n)) ∧ Hid (Ag (· = g) w wr)) (fun s8 _ => n - (intOf s8).toNat)
  case atStart => exact ⟨1, f0, by omega, rfl, HQ, (fun p q h1 h2 => by omega), List.Perm.refl _, Ag.refl _ _⟩
  case round =>
    clear HQ
    obtain ⟨i, f, hi, rfl, hQ, hS, hP, hA⟩ := hrel
    by_cases hin : i < n
    · have g1 : (i : Int) < (n : Int) := by omega
      have HI0 : Hid (InsP f i i) := InsP.start (by have := hS.out; rw [Nat.min_eq_left (by omega)] at this; exact this)
      clear hS
      go_upto_region 4 with (fail)
      go_loopw [9] (fun s9 wr => ∃ (j : Nat) (f : Nat → Int), j ≤ i ∧ s9 = .int .i64 (j : Int) ∧ Hid (QRow wr base 3 1 (.slice (some ⟨g, o, none⟩) n c) n (ivI f n)) ∧ Hid (InsP f i j) ∧ Hid ((vals f n).Perm (vals f0 n)) ∧ Hid (Ag (· = g) w wr)) (fun s9 _ => (intOf s9).toNat)
      case atStart => exact ⟨i, f, by omega, rfl, hQ, HI0, hP, hA⟩
      case round =>
        clear hQ HI0 hP hA
        obtain ⟨j, f, hji, rfl, hQ, hI, hP, hA⟩ := hrel
        have HQB : Hid (∀ d : BW wr.heap.size wr, QRow d.w base 3 1 (.slice (some ⟨g, o, none⟩) n c) n (ivI f n)) := fun d => hQ.out.below d.b (fun k hk => (hQ.out.lt k hk).2)
        have HAB : Hid (∀ d : BW wr.heap.size wr, Ag (· = g) w d.w) := fun d => hA.out.trans (ag_ofB d.b)
        have NEXT : Hid (SortedTo f (i + 1) → ∀ d : BW wr.heap.size wr, ∃ (i_1 : Nat) (f : Nat → Int), 1 ≤ i_1 ∧ Value.int .i64 ((i : Int) + 1) = .int .i64 (i_1 : Int) ∧ Hid (QRow d.w base 3 1 (.slice (some ⟨g, o, none⟩) n c) n (ivI f n)) ∧ Hid (SortedTo f (min i_1 n)) ∧ Hid ((vals f n).Perm (vals f0 n)) ∧ Hid (Ag (· = g) w d.w)) := fun h d => ⟨i + 1, f, by omega, int_eq (by omega), HQB.out d, by rw [Nat.min_eq_left (by omega)]; exact h, hP, HAB.out d⟩
        by_cases hj0 : j = 0
        · have HS2 := Lib.hid (NEXT.out (hI.out.stop (.inl hj0)))
          have g2 : ¬ (0 : Int) < (j : Int) := by omega
          clear NEXT hQ hI hP hA
          go_wp2
          refine wp_region_bw (by kernel_rfl) (by kernel_rfl) ?_
          repeat (go_big_quiet_step (rfl))
          refine wpQuiet_nil ?_
          rintro _ ⟨d, rfl⟩
          go_wp2
          exact ⟨HS2.out d, by simp [intOf]; omega⟩
        · obtain ⟨jj, hjj⟩ : ∃ jj, Hid (j = jj + 1) := ⟨j - 1, by unfold Hid; omega⟩
          have g2 : 0 < j := by omega
          have g2d : decide (0 < j) = true := by simpa using g2
          have hjn : j < n := by omega
          have e0 : (j : Int) - 1 = (jj : Int) := by have := hjj.out; omega
          have hjjn : jj < n := by have := hjj.out; omega
          obtain ⟨gb, ob, cap2, e, hb1, hb2, _, _, hc, _⟩ := hQ.out.at (by omega)
          cases e
          have c1 := (hc j (by omega)).trans (ivI_get f n j hjn)
          have c2 := (hc jj (by omega)).trans (ivI_get f n jj hjjn)
          have r1 : ∀ d : BW wr.heap.size wr, d.w.cell? ⟨g, o + j, none⟩ = some (.int .i64 (f j)) := fun d => d.cell hb2 c1
          have r2 : ∀ d : BW wr.heap.size wr, d.w.cell? ⟨g, o + jj, none⟩ = some (.int .i64 (f jj)) := fun d => d.cell hb2 c2
          have HST : Hid (¬ f j < f jj → SortedTo f (i + 1)) := fun h => hI.out.stop (.inr (by rw [show j - 1 = jj by have := hjj.out; omega]; omega))
          have HSW : Hid (f j < f jj → InsP (swF f jj j) i jj) := fun h => by
            have h1 := hjj.out
            have h2 := hI.out
            rw [h1] at h2 h ⊢
            exact h2.swap h
          have HCL := Lib.hid (cmpI_lt (x := f j) (y := f jj))
          have HCM : Hid (∀ d : BW wr.heap.size wr, Calls Try.prog 65 #[.int .i64 (f j), .int .i64 (f jj)] d.w fun e w' => e = .returned (.int .i64 (cmpI (f j) (f jj))) ∧ ∃ d' : BW wr.heap.size wr, w' = d'.w) := fun d => Calls.bw ((compare_any (f j) (f jj) d.w).mono fun e w' h => ⟨h.1, by rw [h.2]; exact d.b⟩)
          have HPS : Hid ((vals (swF f jj j) n).Perm (vals f0 n)) := (vals_swap hjjn hjn).trans hP.out
          have HPT : Hid (∀ d : BW wr.heap.size wr, d.w.frozen? ⟨g, o + jj, none⟩ = false ∧ d.w.frozen? ⟨g, o + j, none⟩ = false ∧ QRow ((d.w.setCell ⟨g, o + j, none⟩ (.int .i64 (f jj))).setCell ⟨g, o + jj, none⟩ (.int .i64 (f j))) base 3 1 (.slice (some ⟨g, o, none⟩) n c) n (ivI (swF f jj j) n)) := fun d => by
            have h1 := (HQB.out d).put hjjn (f j)
            have h2 := (HQB.out d).put hjn (f jj)
            have h3 := h2.2.put hjjn (f j)
            refine ⟨h1.1, h2.1, ?_⟩
            rw [show ivI (swF f jj j) n = ivI (fun k => if k = jj then f j else (fun k => if k = j then f jj else f k) k) n from ivI_same fun k hk => by
              unfold swF
              by_cases e1 : k = jj
              · rw [if_pos e1]
              · rw [if_neg e1]]
            exact h3.2
          have hne : jj ≠ j := by have := hjj.out; omega
          clear hQ hI hP hA hc c1 c2
          generalize f j = z1 at *
          generalize f jj = z2 at *
          by_cases hlt : z1 < z2
          · have q1 : cmpI z1 z2 < 0 := HCL.out.2 hlt
            have HI2 := Lib.hid (HSW.out hlt)
            clear NEXT HST HSW HCL
            generalize cmpI z1 z2 = cz at *
            go_wp2
            refine wp_region_bw (by kernel_rfl) (by kernel_rfl) ?_
            repeat (go_big_quiet_step ((first
              | rfl
              | (go_at_call 65; with_reducible exact HCM.out _))))
            refine wpQuiet_nil ?_
            rintro _ ⟨d, rfl⟩
            have d1 := r1 d
            have d2 := r2 d
            have f1 := (HPT.out d).1
            have f2 := (HPT.out d).2.1
            have HQ3 := Lib.hid (HPT.out d).2.2
            have HA3 : Hid (Ag (· = g) w ((d.w.setCell ⟨g, o + j, none⟩ (.int .i64 z2)).setCell ⟨g, o + jj, none⟩ (.int .i64 z1))) := ((HAB.out d).set ⟨g, o + j, none⟩ _ (.inr rfl)).set ⟨g, o + jj, none⟩ _ (.inr rfl)
            clear r1 r2 HPT HQB HAB HCM
            obtain ⟨wA, hwA⟩ : ∃ wA, Hid (wA = d.w) := ⟨_, rfl⟩
            rw [← hwA.out] at d1 d2 f1 f2 HQ3 HA3 ⊢
            clear hwA
            have f3 : ∀ v, (wA.setCell ⟨g, o + j, none⟩ v).cell? ⟨g, o + jj, none⟩ = some (.int .i64 z2) := fun v => (World.cell?_setCell_other _ _ _ _ (fun e => by have := congrArg Addr.off e; simp at this; omega)).trans d2
            go_wp2
            go_region
            go_wp2
            go_roundw
            case rel => exact ⟨jj, swF f jj j, by omega, by go_num, HQ3.out, HI2, HPS, HA3.out.drewN 1⟩
            case measure => simp [intOf]; omega
          · have q1 : ¬ cmpI z1 z2 < 0 := fun h => hlt (HCL.out.1 h)
            have HS2 := Lib.hid (NEXT.out (HST.out hlt))
            clear NEXT HST HSW HCL HPT HPS
            generalize cmpI z1 z2 = cz at *
            go_wp2
            refine wp_region_bw (by kernel_rfl) (by kernel_rfl) ?_
            repeat (go_big_quiet_step ((first
              | rfl
              | (go_at_call 65; with_reducible exact HCM.out _))))
            refine wpQuiet_nil ?_
            rintro _ ⟨d, rfl⟩
            go_wp2
            exact ⟨HS2.out d, by simp [intOf]; omega⟩
    · have g1 : ¬ (i : Int) < (n : Int) := by omega
      have HS2 : Hid (SortedTo f n) := by have := hS.out; rw [Nat.min_eq_right (by omega)] at this; exact this
      clear hS
      go_wp2
      go_end0
      exact ⟨rfl, ⟨f, hQ.out, HS2.out, hP.out⟩, hA.out⟩
end Go.Proofs.Ytbioondlmgolkaa
