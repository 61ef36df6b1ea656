/- Claesson in plain text: the orders by masks, their keys, how many there are. Claesson: the law's ints, tables row by row, rows of keys in memory. A law's walk: ShiftClaesson. -/
import Derived.Test.YtgpijajgaclhfaaDoorG1120
import Derived.Test.YtgpijajgaclhfaaDoorG1119
set_option linter.unusedVariables false
set_option linter.unusedSimpArgs false
namespace Go.Proofs.YtgpijajgaclhfaaDoor
open Go.RowKit

def boff (n : Nat) : Nat → Nat
  | 0 => 0
  | x + 1 => boff n x + (n - 1 - x)
/-- the table of a mask -/
def cR (n s x y : Nat) : Bool := decide (x < y) && decide (y < n) && s.testBit (boff n x + (y - x - 1))
def allB (n : Nat) (p : Nat → Bool) : Bool := (List.range n).all p
theorem allB_iff {n : Nat} {p : Nat → Bool} : allB n p = true ↔ ∀ x, x < n → p x = true := by simp [allB]
def ordB (n : Nat) (r : Nat → Nat → Bool) : Bool := allB n fun x => !r x x && allB n fun y => allB n fun z => !(r x y && r y z) || r x z
theorem ordB_iff {n : Nat} {r : Nat → Nat → Bool} : ordB n r = true ↔ OrdP n r := by
  unfold ordB
  rw [allB_iff]
  constructor
  · intro h
    refine ⟨fun x hx => ?_, fun x y z hx hy hz h1 h2 => ?_⟩
    · have := h x hx
      rw [Bool.and_eq_true] at this
      simpa using this.1
    · have := h x hx
      rw [Bool.and_eq_true, allB_iff] at this
      have := this.2 y hy
      rw [allB_iff] at this
      have := this z hz
      rw [h1, h2] at this
      simpa using this
  · intro h x hx
    rw [Bool.and_eq_true, allB_iff]
    refine ⟨by rw [h.irr x hx]; rfl, fun y hy => ?_⟩
    rw [allB_iff]
    intro z hz
    cases h1 : r x y with
    | false => rfl
    | true => cases h2 : r y z with
      | false => rfl
      | true => rw [h.tr x y z hx hy hz h1 h2]; rfl
def no2B (n : Nat) (r : Nat → Nat → Bool) : Bool := allB n fun a => allB n fun b => !r a b || allB n fun c => allB n fun d => !(r c d && !r a d && !r c b)
theorem no2B_iff {n : Nat} {r : Nat → Nat → Bool} : no2B n r = true ↔ ∀ a b c d, ¬ TwoTwo n r a b c d := by
  unfold no2B
  rw [allB_iff]
  constructor
  · intro h a b c d ⟨ha, hb, hc, hd, h1, h2, h3, h4⟩
    have := h a ha
    rw [allB_iff] at this
    have := this b hb
    rw [h1] at this
    rw [Bool.not_true, Bool.false_or, allB_iff] at this
    have := this c hc
    rw [allB_iff] at this
    have := this d hd
    rw [h2, h3, h4] at this
    cases this
  · intro h a ha
    rw [allB_iff]
    intro b hb
    cases h1 : r a b with
    | false => rfl
    | true =>
      rw [Bool.not_true, Bool.false_or, allB_iff]
      intro c hc
      rw [allB_iff]
      intro d hd
      cases h2 : r c d with
      | false => rfl
      | true => cases h3 : r a d with
        | true => rfl
        | false => cases h4 : r c b with
          | true => rfl
          | false => exact absurd ⟨ha, hb, hc, hd, h1, h2, h3, h4⟩ (h a b c d)
def insS (s : Nat) : List Nat → List Nat
  | [] => [s]
  | t :: l => if size s < size t ∨ (size s = size t ∧ s < t) then s :: t :: l else if s = t then t :: l else t :: insS s l
theorem insS_mem (s : Nat) : ∀ (l : List Nat) (x : Nat), x ∈ insS s l ↔ x = s ∨ x ∈ l
  | [], x => by simp [insS]
  | t :: l, x => by
    unfold insS
    by_cases h1 : size s < size t ∨ (size s = size t ∧ s < t)
    · rw [if_pos h1, List.mem_cons]
    · rw [if_neg h1]
      by_cases h2 : s = t
      · rw [if_pos h2, h2, List.mem_cons]
        exact ⟨.inr, fun h => h.elim .inl id⟩
      · rw [if_neg h2, List.mem_cons, List.mem_cons, insS_mem s l x]
        exact ⟨fun h => h.elim (fun h => .inr (.inl h)) (fun h => h.elim .inl fun h => .inr (.inr h)), fun h => h.elim (fun h => .inr (.inl h)) (fun h => h.elim .inl fun h => .inr (.inr h))⟩
theorem insS_up (s : Nat) : ∀ (l : List Nat), l.Pairwise LtS → (insS s l).Pairwise LtS
  | [], _ => List.pairwise_singleton _ _
  | t :: l, h => by
    unfold insS
    have hc := List.pairwise_cons.1 h
    by_cases h1 : size s < size t ∨ (size s = size t ∧ s < t)
    · rw [if_pos h1]
      refine List.pairwise_cons.2 ⟨fun x hx => ?_, h⟩
      rcases List.mem_cons.1 hx with e | e
      · subst e; exact h1
      · exact ltS_trans (b := t) h1 (hc.1 x e)
    · rw [if_neg h1]
      by_cases h2 : s = t
      · rw [if_pos h2]; exact h
      · rw [if_neg h2]
        refine List.pairwise_cons.2 ⟨fun x hx => ?_, insS_up s l hc.2⟩
        rcases (insS_mem s l x).1 hx with e | e
        · subst e
          rcases ltS_tri x t with h3 | h3 | h3
          · exact absurd h3 h1
          · exact absurd h3 h2
          · exact h3
        · exact hc.1 x e
def cL (n : Nat) (r : Nat → Nat → Bool) : Nat → List Nat
  | 0 => []
  | x + 1 => insS (bef n r x) (cL n r x)
theorem cL_to (n : Nat) (r : Nat → Nat → Bool) : ∀ x, SetsTo n r x (cL n r x)
  | 0 => ⟨List.Pairwise.nil, fun s => Iff.intro (fun h => by cases h) (fun ⟨y, hy, _⟩ => by omega)⟩
  | x + 1 => by
    have ih := cL_to n r x
    refine ⟨insS_up _ _ ih.up, fun s => ?_⟩
    unfold cL
    rw [insS_mem, ih.mem]
    constructor
    · rintro (e | ⟨y, hy, e⟩)
      · exact ⟨x, by omega, e⟩
      · exact ⟨y, by omega, e⟩
    · rintro ⟨y, hy, e⟩
      by_cases h : y = x
      · subst h; exact .inl e
      · exact .inr ⟨y, by omega, e⟩
theorem cL_sets (n : Nat) (r : Nat → Nat → Bool) : SetsL n r (cL n r n) := (cL_to n r n).all
def insV (v : Nat) : List Nat → List Nat
  | [] => [v]
  | t :: l => if t ≤ v then t :: insV v l else v :: t :: l
theorem insV_at {v : Nat} : ∀ {l : List Nat} {m : Nat}, m ≤ l.length → (∀ j, j < m → nthN l j ≤ v) → (m < l.length → v < nthN l m) → l.take m ++ [v] ++ l.drop m = insV v l
  | [], m, hm, _, _ => by
    have : m = 0 := by simpa using hm
    subst this; rfl
  | t :: l, 0, _, _, h2 => by
    have := h2 (by simp)
    unfold nthN at this
    simp at this
    unfold insV
    rw [if_neg (by omega)]; rfl
  | t :: l, m + 1, hm, h1, h2 => by
    have h3 := h1 0 (by omega)
    unfold nthN at h3
    simp at h3
    unfold insV
    rw [if_pos h3]
    have ih := insV_at (v := v) (l := l) (m := m) (by simpa using hm) (fun j hj => by have := h1 (j + 1) (by omega); unfold nthN at this ⊢; simpa using this) (fun hl => by have := h2 (by simpa using hl); unfold nthN at this ⊢; simpa using this)
    rw [← ih]; rfl
theorem insV_len {v : Nat} : ∀ {l : List Nat}, (insV v l).length = l.length + 1
  | [] => rfl
  | t :: l => by
    unfold insV
    split
    · rw [List.length_cons, insV_len, List.length_cons]
    · rfl
theorem insV_le {v c : Nat} (hv : v ≤ c) : ∀ {l : List Nat}, (∀ x ∈ l, x ≤ c) → ∀ x ∈ insV v l, x ≤ c
  | [], _, x, hx => by
    unfold insV at hx
    rw [List.mem_singleton] at hx
    omega
  | t :: l, h, x, hx => by
    unfold insV at hx
    split at hx
    · rcases List.mem_cons.1 hx with e | e
      · subst e; exact h _ List.mem_cons_self
      · exact insV_le hv (fun y hy => h y (List.mem_cons_of_mem _ hy)) x e
    · rcases List.mem_cons.1 hx with e | e
      · omega
      · exact h x e
def kv (n : Nat) (r : Nat → Nat → Bool) (L : List Nat) (x : Nat) : Nat := 100 * lftS L (bef n r x) + rgtTo L x L.length
def ownTo (n : Nat) (r : Nat → Nat → Bool) (L : List Nat) : Nat → List Nat
  | 0 => []
  | x + 1 => insV (kv n r L x) (ownTo n r L x)
theorem ownTo_len {n : Nat} {r : Nat → Nat → Bool} {L : List Nat} : ∀ x, (ownTo n r L x).length = x
  | 0 => rfl
  | x + 1 => by unfold ownTo; rw [insV_len, ownTo_len x]
/-- the keys of an order without a two and two -/
def keysB (n s : Nat) : Option (List Nat) := if ordB n (cR n s) && no2B n (cR n s) then some (ownTo n (cR n s) (cL n (cR n s) n) n) else none
def stepS (S : List (List Nat)) : Option (List Nat) → List (List Nat)
  | none => S
  | some K => if K ∈ S then S else S ++ [K]
def seenT (n : Nat) : Nat → List (List Nat)
  | 0 => []
  | k + 1 => stepS (seenT n k) (keysB n k)
set_option maxRecDepth 100000 in
theorem seen1 : (seenT 1 1).length = (ascE 0).length := by decide +kernel
set_option maxRecDepth 100000 in
theorem seen2 : (seenT 2 2).length = (ascE 1).length := by decide +kernel
set_option maxRecDepth 100000 in
theorem seen3 : (seenT 3 8).length = (ascE 2).length := by decide +kernel
set_option maxRecDepth 100000 in
theorem seen4 : (seenT 4 64).length = (ascE 3).length := by decide +kernel
theorem seen_all {n : Nat} (h1 : 1 ≤ n) (h4 : n ≤ 4) : (seenT n (2 ^ (n * (n - 1) / 2))).length = (ascE (n - 1)).length := by
  rcases (by omega : n = 1 ∨ n = 2 ∨ n = 3 ∨ n = 4) with e | e | e | e
  · subst e; exact seen1
  · subst e; exact seen2
  · subst e; exact seen3
  · subst e; exact seen4
end Go.Proofs.YtgpijajgaclhfaaDoor
namespace Go.Proofs.YtgpijajgaclhfaaDoor
open Go.RowKit Go.Shelf

set_option maxRecDepth 100000 in
set_option maxHeartbeats 2000000 in
theorem ints_ne (p q : Option Addr) (m c d t : Nat) (f g : Nat → Int) (w : World) (hl : m ≤ 1000) (ht : t < m) (hne : f t ≠ g t) (heq : ∀ j, j < t → f j = g j) (hP : SrcI w p m f) (hQ : SrcI w q m g) :
    Calls Tryd.prog 35 #[.slice p m c, .slice q m d] w fun e w' => e = .returned (.bool false) ∧ ∃ z, w' = w.drewN z := by
  have HP := Lib.hid hP
  have HQ := Lib.hid hQ
  have HEQ := Lib.hid heq
  have HNE := Lib.hid hne
  clear hP hQ heq hne
  go_enter Tryd.func35, Tryd.ntmps35
  go_upto_region 4 with (fail)
  go_loopw [5] (fun s5 wr => ∃ i : Nat, i ≤ t ∧ s5 = .int .i64 (i : Int) ∧ ∃ z, Hid (wr = w.drewN z)) (fun s5 _ => m - (intOf s5).toNat)
  case atStart => exact ⟨0, by omega, rfl, 0, rfl⟩
  case round =>
    obtain ⟨i, hi, rfl, z, hw⟩ := hrel
    rw [hw.out]
    clear hw
    have him : i < m := by omega
    have g1 : (i : Int) < (m : Int) := by omega
    have g2 : (0 : Int) ≤ (i : Int) := by omega
    obtain ⟨b, o, rfl, hb, h1⟩ := HP.out (by omega)
    obtain ⟨b', o', rfl, hb', h2⟩ := HQ.out (by omega)
    have k1 := h1 i him
    have k2 := h2 i him
    clear h1 h2
    by_cases e : i = t
    · subst e
      have q1 : (f i != g i) = true := by rw [bne_iff_ne]; exact HNE.out
      generalize f i = x at *
      generalize g i = y at *
      go_wp2
      go_quiet (fail)
      go_wp2
      go_ret
      exact ⟨rfl, _, World.drewN_drewN _ _ _⟩
    · have q0 := HEQ.out i (by omega)
      rw [← q0] at k2
      generalize f i = x at *
      clear q0
      have q1 : (x != x) = false := by simp
      go_wp2
      go_quiet (fail)
      go_wp2
      exact ⟨⟨i + 1, by omega, int_eq (by omega), _, rfl⟩, by simp [intOf]; omega⟩
theorem first_diff (f g : Nat → Int) : ∀ m, (∀ j, j < m → f j = g j) ∨ ∃ t, t < m ∧ f t ≠ g t ∧ ∀ j, j < t → f j = g j
  | 0 => .inl fun j h => by omega
  | m + 1 => by
    rcases first_diff f g m with h | ⟨t, h1, h2, h3⟩
    · by_cases e : f m = g m
      · refine .inl fun j hj => ?_
        by_cases e2 : j = m
        · subst e2; exact e
        · exact h j (by omega)
      · exact .inr ⟨m, by omega, e, h⟩
    · exact .inr ⟨t, by omega, h2, h3⟩
theorem ints_keys (p q : Option Addr) (m c d : Nat) (K L : List Nat) (b : Bool) (w : World) (hl : m ≤ 1000) (hK : K.length = m) (hL : L.length = m) (hb : b = true ↔ K = L) (hP : SrcI w p m (natI K)) (hQ : SrcI w q m (natI L)) :
    Calls Tryd.prog 35 #[.slice p m c, .slice q m d] w fun e w' => e = .returned (.bool b) ∧ ∃ z, w' = w.drewN z := by
  rcases first_diff (natI K) (natI L) m with h | ⟨t, h1, h2, h3⟩
  · have e : K = L := List.ext_getElem? fun j => by
      by_cases hj : j < m
      · have := h j hj
        unfold natI nth at this
        rw [List.getElem?_eq_getElem (by omega), List.getElem?_eq_getElem (by omega)] at this ⊢
        simp only [Option.getD_some] at this
        have := Int.ofNat.inj this
        rw [this]
      · rw [List.getElem?_eq_none (by omega), List.getElem?_eq_none (by omega)]
    subst e
    obtain rfl : b = true := hb.2 rfl
    exact ints_any p q m c d _ w hl hP hQ
  · have e : K ≠ L := fun e => h2 (by rw [e])
    obtain rfl : b = false := by
      cases b with
      | false => rfl
      | true => exact absurd (hb.1 rfl) e
    exact ints_ne p q m c d t _ _ w hl h1 h2 h3 hP hQ
theorem QRow.keys {w : World} {base : Nat} {p : Option Addr} {m c : Nat} {K : List Nat} (h : QRow w base 3 1 (.slice p m c) m (iv K)) (hK : K.length = m) : SrcI w p m (natI K) :=
  h.srcI fun j hj => iv_get (by omega)
/-- a table under way: rows of n marks, each a block -/
def TabG (W : World) (base : Nat) (v : Value) (k n : Nat) (R : Nat → Nat → Bool) : Prop := ∃ xs, QRow W base 60 1 v k xs ∧ ∀ i, i < k → ∃ B, xs[i]? = some (.slice (some ⟨B, 0, none⟩) n n) ∧ RowM W B n (R i)
theorem TabG.nil (W : World) (base n : Nat) (R : Nat → Nat → Bool) : TabG W base (.slice none 0 0) 0 n R := ⟨[], QRow.nil _ _ _ _, fun i hi => by omega⟩
theorem TabG.isSlice {W : World} {base : Nat} {v : Value} {k n : Nat} {R : Nat → Nat → Bool} (h : TabG W base v k n R) : ∃ p c, v = .slice p k c := h.elim fun _ h => h.1.isSlice
theorem TabG.tbl {W : World} {base : Nat} {p : Option Addr} {c n : Nat} {R : Nat → Nat → Bool} (h : TabG W base (.slice p n c) n n R) : TblI W p n (fun _ => n) R := fun hm => by
  obtain ⟨xs, h1, h2⟩ := h
  obtain ⟨b, o, cap, e, _, hb, _, _, hc, _⟩ := h1.at (by omega)
  cases e
  refine ⟨b, o, rfl, hb, fun i hi => ?_⟩
  obtain ⟨B, h3, h4⟩ := h2 i hi
  refine ⟨_, _, (hc i (by omega)).trans h3, fun _ => ⟨B, 0, rfl, h4.lt, fun j hj => ?_⟩⟩
  rw [Nat.zero_add]; exact h4.cell hj
theorem RowM.ne {W : World} {base B n k : Nat} {v : Value} {xs : List Value} {f : Nat → Bool} (h : RowM W B n f) (hq : QRow W base 60 1 v k xs) : some B ≠ v.ownBlock := fun hv => by
  obtain ⟨vs, h1, _⟩ := h
  have h2 : W.heap[B]? = some (.cells vs 4 (0, 0)) := h1
  rcases hq.2 with ⟨rfl, _⟩ | ⟨g, o, cap, cur, rfl, _, hg, _⟩
  · cases hv
  · obtain rfl : B = g := by simpa [Value.ownBlock] using hv
    rw [h2] at hg
    cases hg
/-- behind an append of a row to it -/
theorem TabG.push {W W' : World} {base : Nat} {v v' : Value} {k n B : Nat} {R : Nat → Nat → Bool} {xs : List Value}
    (h2 : ∀ i, i < k → ∃ B, xs[i]? = some (.slice (some ⟨B, 0, none⟩) n n) ∧ RowM W B n (R i)) (h1 : QRow W base 60 1 v k xs)
    (hq : RowM W B n (R k)) (hg : W.grownBy W' v.ownBlock) (h3 : QRow W' base 60 1 v' (k + 1) (xs ++ [.slice (some ⟨B, 0, none⟩) n n])) : TabG W' base v' (k + 1) n R := by
  have hxl := h1.1
  refine ⟨_, h3, fun i hi => ?_⟩
  by_cases e : i = k
  · subst e
    refine ⟨B, ?_, hq.kept hg (hq.ne h1)⟩
    rw [List.getElem?_append_right (by omega)]; simp [hxl]
  · obtain ⟨B', h4, h5⟩ := h2 i (by omega)
    refine ⟨B', ?_, h5.kept hg (h5.ne h1)⟩
    rw [List.getElem?_append_left (by omega)]; exact h4
theorem RowM.ag {ex : Nat → Prop} {W W' : World} {B n : Nat} {f : Nat → Bool} (h : RowM W B n f) (hA : Ag ex W W') (he : ¬ ex B) : RowM W' B n f := by
  obtain ⟨vs, h1, h2⟩ := h
  exact ⟨vs, hA.boxN h1 he, h2⟩
theorem RowM.al {W : World} {B n : Nat} {f : Nat → Bool} (h : RowM W B n f) (o : Obj) : RowM (W.alloc o) B n f := h.kept (World.grownBy_alloc W o none) (by simp)
theorem TabG.al {W : World} {base : Nat} {v : Value} {k n : Nat} {R : Nat → Nat → Bool} (h : TabG W base v k n R) (o : Obj) : TabG (W.alloc o) base v k n R := by
  obtain ⟨xs, h1, h2⟩ := h
  refine ⟨xs, h1.alloc o, fun i hi => ?_⟩
  obtain ⟨B, h3, h4⟩ := h2 i hi
  exact ⟨B, h3, h4.al o⟩
/-- the block B was not there when the table was -/
theorem TabG.ag {W W' : World} {base : Nat} {v : Value} {k n B : Nat} {R : Nat → Nat → Bool} (h : TabG W base v k n R) (hA : Ag (· = B) W W') (hB : W.heap.size ≤ B) : TabG W' base v k n R := by
  obtain ⟨xs, h1, h2⟩ := h
  refine ⟨xs, hA.qrow h1 (fun kk e e2 => by have := (h1.lt kk e).2; omega), fun i hi => ?_⟩
  obtain ⟨B', h3, h4⟩ := h2 i hi
  exact ⟨B', h3, h4.ag hA (fun e => by have := h4.lt; omega)⟩
theorem RowM.fresh {W : World} {n : Nat} {vs : Array Value} (h : vs.size = n ∧ ∀ j, j < n → vs[j]? = some (.bool false)) : RowM (W.alloc (.cells vs 4)) W.heap.size n (fun _ => false) := ⟨vs, BoxN.new rfl, h.1, h.2⟩
theorem RowM.put {W : World} {B n y : Nat} {f : Nat → Bool} (h : RowM W B n (fun j => decide (j < y) && f j)) (hy : y < n) : RowM (W.setCell ⟨B, y, none⟩ (.bool (f y))) B n (fun j => decide (j < y + 1) && f j) :=
  (h.set hy (f y)).congr fun j hj => by
    by_cases e : j = y
    · subst e; simp
    · simp only [if_neg e]
      congr 1
      by_cases h1 : j < y
      · simp [h1, show j < y + 1 by omega]
      · simp [h1, show ¬ j < y + 1 by omega]
/-- lists of n keys -/
def kth (S : List (List Nat)) (i : Nat) : List Nat := S[i]?.getD []
def KRow (W : World) (base : Nat) (v : Value) (S : List (List Nat)) (n : Nat) : Prop := ∃ xs, QRow W base 28 1 v S.length xs ∧ ∀ i, i < S.length → ∃ p c, xs[i]? = some (.slice p n c) ∧ QRow W base 3 1 (.slice p n c) n (iv (kth S i)) ∧ (kth S i).length = n
theorem KRow.nil (W : World) (base n : Nat) : KRow W base (.slice none 0 0) [] n := ⟨[], QRow.nil _ _ _ _, fun i hi => by cases hi⟩
theorem KRow.isSlice {W : World} {base : Nat} {v : Value} {S : List (List Nat)} {n : Nat} (h : KRow W base v S n) : ∃ p c, v = .slice p S.length c := h.elim fun _ h => h.1.isSlice
theorem KRow.below {k base : Nat} {w W : World} {v : Value} {S : List (List Nat)} {n : Nat} (h : KRow w base v S n) (hB : Below k w W) (hk : w.heap.size ≤ k) : KRow W base v S n := by
  obtain ⟨xs, h1, h2⟩ := h
  refine ⟨xs, h1.below hB fun k' hk' => Nat.lt_of_lt_of_le (h1.lt k' hk').2 hk, fun i hi => ?_⟩
  obtain ⟨p, c, h3, h4, h5⟩ := h2 i hi
  exact ⟨p, c, h3, h4.below hB fun k' hk' => Nat.lt_of_lt_of_le (h4.lt k' hk').2 hk, h5⟩
theorem KRow.row {W : World} {base : Nat} {p : Option Addr} {c n i : Nat} {S : List (List Nat)} (h : KRow W base (.slice p S.length c) S n) (hi : i < S.length) : ∃ b o q d, p = some ⟨b, o, none⟩ ∧ b < W.heap.size ∧ W.cell? ⟨b, o + i, none⟩ = some (.slice q n d) ∧ SrcI W q n (natI (kth S i)) ∧ (kth S i).length = n := by
  obtain ⟨xs, h1, h2⟩ := h
  obtain ⟨b, o, cap, e, _, hb, _, _, hc, _⟩ := h1.at (by omega)
  cases e
  obtain ⟨q, d, h3, h4, h5⟩ := h2 i hi
  exact ⟨b, o, q, d, rfl, hb, (hc i (by omega)).trans h3, h4.keys h5, h5⟩
theorem KRow.push {W W' : World} {base : Nat} {v v' : Value} {S : List (List Nat)} {n : Nat} {K : List Nat} {xs : List Value} {p : Option Addr} {c : Nat}
    (h2 : ∀ i, i < S.length → ∃ p c, xs[i]? = some (.slice p n c) ∧ QRow W base 3 1 (.slice p n c) n (iv (kth S i)) ∧ (kth S i).length = n) (h1 : QRow W base 28 1 v S.length xs)
    (hq : QRow W base 3 1 (.slice p n c) n (iv K)) (hK : K.length = n) (hg : W.grownBy W' v.ownBlock) (h3 : QRow W' base 28 1 v' (S.length + 1) (xs ++ [.slice p n c])) : KRow W' base v' (S ++ [K]) n := by
  have hxl := h1.1
  have hl : (S ++ [K]).length = S.length + 1 := by simp
  refine ⟨_, by rw [hl]; exact h3, fun i hi => ?_⟩
  rw [hl] at hi
  by_cases e : i = S.length
  · subst e
    have e2 : kth (S ++ [K]) S.length = K := by unfold kth; rw [List.getElem?_append_right (Nat.le_refl _)]; simp
    rw [e2]
    refine ⟨p, c, ?_, hq.kept hg (ne_or (hq.ne h1 (by decide))), hK⟩
    rw [List.getElem?_append_right (by omega)]; simp [hxl]
  · have e2 : kth (S ++ [K]) i = kth S i := by unfold kth; rw [List.getElem?_append_left (by omega)]
    rw [e2]
    obtain ⟨p', c', h4, h5, h6⟩ := h2 i (by omega)
    refine ⟨p', c', ?_, h5.kept hg (ne_or (h5.ne h1 (by decide))), h6⟩
    rw [List.getElem?_append_left (by omega)]; exact h4
theorem kth_mem {S : List (List Nat)} {K : List Nat} : (∀ j, j < S.length → kth S j ≠ K) ↔ K ∉ S := by
  constructor
  · intro h hm
    obtain ⟨j, hj, e⟩ := List.mem_iff_getElem.1 hm
    refine h j hj ?_
    unfold kth; rw [List.getElem?_eq_getElem hj]; exact e
  · intro h j hj e
    refine h ?_
    rw [← e]
    unfold kth; rw [List.getElem?_eq_getElem hj]; exact List.getElem_mem hj
/-- Ascents at the numbers that it counts for -/
theorem asc_at (n : Nat) (w : World) (h1 : 1 ≤ n) (h14 : n ≤ 14) : Calls Tryd.prog 33 #[.int .i64 (n : Int)] w fun e w' => e = .returned (.tuple #[.int .i64 ((ascE (n - 1)).length : Int), .int .i64 0]) ∧ Below w.heap.size w w' := by
  refine (Ascents_any (n : Int) w).mono ?_
  rintro e w' ⟨⟨_, h⟩ | ⟨k, hk, _, rfl⟩, hB⟩
  · omega
  · obtain rfl : k = n - 1 := by omega
    exact ⟨rfl, hB⟩
theorem keysB_no {n s : Nat} (h : ¬ OrdP n (cR n s)) : keysB n s = none := by
  unfold keysB
  rw [if_neg]
  rw [Bool.and_eq_true]
  exact fun e => h (ordB_iff.1 e.1)
theorem keysB_two {n s : Nat} (h : ∃ a b c d, TwoTwo n (cR n s) a b c d) : keysB n s = none := by
  unfold keysB
  rw [if_neg]
  rw [Bool.and_eq_true]
  obtain ⟨a, b, c, d, h⟩ := h
  exact fun e => no2B_iff.1 e.2 a b c d h
theorem keysB_some {n s : Nat} (h : OrdP n (cR n s)) (h2 : ∀ a b c d, ¬ TwoTwo n (cR n s) a b c d) : keysB n s = some (ownTo n (cR n s) (cL n (cR n s) n) n) := by
  unfold keysB
  rw [if_pos]
  rw [Bool.and_eq_true]
  exact ⟨ordB_iff.2 h, no2B_iff.2 h2⟩
theorem boff_le {n : Nat} (hn : n ≤ 4) : ∀ x, x ≤ n → boff n x ≤ 3 * x
  | 0, _ => by simp [boff]
  | x + 1, h => by have := boff_le hn x (by omega); unfold boff; omega
theorem cR_at {n s x y : Nat} (h : x < y) (hy : y < n) : cR n s x y = s.testBit (boff n x + (y - x - 1)) := by unfold cR; simp [h, hy]
theorem cR_low {n s x y : Nat} (h : ¬ x < y) : cR n s x y = false := by unfold cR; simp [h]
theorem ownTo_mem {n c : Nat} {r : Nat → Nat → Bool} {L : List Nat} (h : ∀ x, x < n → kv n r L x ≤ c) : ∀ x, x ≤ n → ∀ y ∈ ownTo n r L x, y ≤ c
  | 0, _, y, hy => by cases hy
  | x + 1, hx, y, hy => by
    unfold ownTo at hy
    exact insV_le (h x (by omega)) (ownTo_mem h x (by omega)) y hy
theorem ownTo_le {n c x : Nat} {r : Nat → Nat → Bool} {L : List Nat} (h : ∀ x, x < n → kv n r L x ≤ c) (hx : x ≤ n) : ∀ j, j < x → nthN (ownTo n r L x) j ≤ c := fun j hj =>
  ownTo_mem h x hx _ (nthN_mem (by rw [ownTo_len]; exact hj))
/-- a row before its marks are set -/
theorem RowM.start {W : World} {B n s x : Nat} (h : RowM W B n (fun _ => false)) : RowM W B n (fun j => decide (j < x + 1) && cR n s x j) := h.congr fun j hj => by
  by_cases e : x < j
  · simp [show ¬ j < x + 1 by omega]
  · rw [cR_low e]; simp
theorem RowM.full {W : World} {B n s x : Nat} (h : RowM W B n (fun j => decide (j < n) && cR n s x j)) : RowM W B n (cR n s x) := h.congr fun j hj => by simp [hj]
end Go.Proofs.YtgpijajgaclhfaaDoor
namespace Go.Proofs.YtgpijajgaclhfaaDoor
open Go.RowKit Go.Shelf

theorem info28 : (Tryd.prog.info? 28).map (fun i => (i.zero, i.size, i.bytes)) = some (some (.slice none 0 0), 1, 24) := by kernel_rfl
theorem under59 : Tryd.prog.underlying 59 = some (.slice 28) := by kernel_rfl
theorem stepS_in {S : List (List Nat)} {K : List Nat} (h : K ∈ S) : stepS S (some K) = S := if_pos h
theorem stepS_new {S : List (List Nat)} {K : List Nat} (h : K ∉ S) : stepS S (some K) = S ++ [K] := if_neg h
theorem cells_of {n : Nat} (h1 : 1 ≤ n) (h4 : n ≤ 4) : ∃ c : Nat, c ≤ 6 ∧ n * (n - 1) / 2 = c ∧ (n : Int) * ((n : Int) - 1) = ((2 * c : Nat) : Int) ∧ Int.tdiv ((2 * c : Nat) : Int) 2 = (c : Int) ∧ boff n n = c := by
  rcases (by omega : n = 1 ∨ n = 2 ∨ n = 3 ∨ n = 4) with e | e | e | e
  · subst e; exact ⟨0, by decide, rfl, rfl, rfl, rfl⟩
  · subst e; exact ⟨1, by decide, rfl, rfl, rfl, rfl⟩
  · subst e; exact ⟨3, by decide, rfl, rfl, rfl, rfl⟩
  · subst e; exact ⟨6, by decide, rfl, rfl, rfl, rfl⟩
set_option maxRecDepth 100000 in
set_option maxHeartbeats 8000000 in
theorem law7 (n0 : Int) (w : World) (hT : Tab w) :
    Calls Tryd.prog 7 #[.int .i64 n0] w fun e w' => e = .returned (.bool true) ∧ Below w.heap.size w w' := by
  obtain ⟨i0, hi0, hz0, hz1, hz2⟩ := info_parts info3
  obtain ⟨i1, hi1, hy0, hy1, hy2⟩ := info_parts info60
  obtain ⟨i2, hi2, hx0, hx1, hx2⟩ := info_parts info28
  have HTB := Lib.hid hT
  clear hT
  have hum := um_eq n0 4
  have hult := um_lt n0 (m := 4) (by omega)
  have hum : (IntKind.u64.wrap n0).tmod 4 = ((um n0 4 : Nat) : Int) := hum
  generalize um n0 4 = uu at *
  obtain ⟨n, hn⟩ : ∃ n, Hid (n = uu + 1) := ⟨_, rfl⟩
  have hn1 : 1 ≤ n := by rw [hn.out]; omega
  have hn4 : n ≤ 4 := by rw [hn.out]; omega
  have HUN : Hid (1 + (uu : Int) = (n : Int)) := by rw [hn.out]; unfold Hid; omega
  have z2 : IntKind.i64.wrap (uu : Int) = (uu : Int) := IntWalk.i64_in _ (by omega)
  obtain ⟨A, hA⟩ : ∃ A, Hid ((ascE (n - 1)).length = A) := ⟨_, rfl⟩
  have HAS := Lib.hid (asc_at n w hn1 (by omega))
  rw [hA.out] at HAS
  have HSA : Hid ((seenT n (2 ^ (n * (n - 1) / 2))).length = A) := by rw [← hA.out]; exact seen_all hn1 hn4
  clear hA hn
  go_enter Tryd.func7, Tryd.ntmps7
  go_upto_region 2 with (fail)
  rw [HUN.out]
  clear hum z2 hult HUN
  go_upto_region 3 with (go_at_call 33; refine HAS.out.mono ?_; rintro e w1 ⟨rfl, hB1⟩; have HB1 := Lib.hid hB1; clear hB1)
  clear HAS
  obtain ⟨c, hc6, hcc, hmul, hdiv, hbn⟩ := cells_of hn1 hn4
  rw [hcc] at HSA
  have HBN := Lib.hid hbn
  clear hcc hbn
  have hw1 : w.heap.size ≤ w1.heap.size := HB1.out.size
  go_upto_region 8 with (fail)
  have hc20 : c < 20 := by omega
  go_loopw [5, 7] (fun s5 s7 wr => ∃ (s : Nat) (S : List (List Nat)), s ≤ pw c ∧ s7 = .int .i64 (s : Int) ∧ Hid (S = seenT n s) ∧ Hid (S.length ≤ s) ∧ Hid (KRow wr w.heap.size s5 S n) ∧ Hid (Below w.heap.size w wr)) (fun _ s7 _ => pw c - (intOf s7).toNat)
  case atStart => exact ⟨0, [], by omega, rfl, rfl, Nat.zero_le _, KRow.nil _ _ _, HB1⟩
  case round =>
    obtain ⟨s, S, hs, rfl, hS, hSl, hK, hB⟩ := hrel
    obtain ⟨p5, c5, rfl⟩ := hK.out.isSlice
    have hpc : pw c ≤ 64 := by unfold pw; exact Nat.pow_le_pow_right (by decide) hc6
    by_cases hsM : s < pw c
    · have g1 : (s : Int) < ((pw c : Nat) : Int) := by omega
      have hSm : Sm s := sm_of (by omega)
      obtain ⟨vs, hv1, hv2, hmk⟩ := make_60 n (by omega)
      have HVS : Hid (vs.size = n ∧ ∀ j, j < n → vs[j]? = some (.bool false)) := ⟨hv1, hv2⟩
      have HM := Lib.hid hmk
      clear hv1 hv2 hmk
      obtain ⟨wo, hwo⟩ : ∃ wo, Hid (wo = wr) := ⟨_, rfl⟩
      rw [← hwo.out] at hK hB ⊢
      clear hwo
      have hwo : w.heap.size ≤ wo.heap.size := hB.out.size
      have HKR : Hid (∀ W, Below wo.heap.size wo W → ∀ i, i < S.length → ∃ b o q d, p5 = some ⟨b, o, none⟩ ∧ b < W.heap.size ∧ W.cell? ⟨b, o + i, none⟩ = some (.slice q n d) ∧ SrcI W q n (natI (kth S i)) ∧ (kth S i).length = n) := fun W hW i hi => (hK.out.below hW (Nat.le_refl _)).row hi
      have HKB : Hid (∀ W, Below wo.heap.size wo W → KRow W w.heap.size (.slice p5 S.length c5) S n) := fun W hW => hK.out.below hW (Nat.le_refl _)
      have HKM : Hid ((∀ j, j < S.length → kth S j ≠ ownTo n (cR n s) (cL n (cR n s) n) n) ↔ ownTo n (cR n s) (cL n (cR n s) n) n ∉ S) := kth_mem
      have HKN : Hid (seenT n (s + 1) = stepS S (keysB n s)) := by rw [hS.out]; rfl
      have hsl : S.length ≤ s := hSl.out
      obtain ⟨sl, HSL⟩ : ∃ sl, Hid (S.length = sl) := ⟨_, rfl⟩
      rw [HSL.out] at HKR HKB HKM hsl ⊢
      clear hK hSl
      go_upto_region 13 with (fail)
      go_loopw [8, 9, 10] (fun s8 s9 s10 wr => ∃ x : Nat, x ≤ n ∧ s10 = .int .i64 (x : Int) ∧ s9 = .int .i64 (boff n x : Int) ∧ Hid (TabG wr wo.heap.size s8 x n (cR n s)) ∧ Hid (Below wo.heap.size wo wr)) (fun _ _ s10 _ => n - (intOf s10).toNat)
      case atStart => exact ⟨0, by omega, rfl, rfl, TabG.nil _ _ _ _, Below.refl _ _⟩
      case round =>
        obtain ⟨x, hx, rfl, rfl, hG, hBo⟩ := hrel
        obtain ⟨p8, c8, rfl⟩ := hG.out.isSlice
        have hwr : wo.heap.size ≤ wr.heap.size := hBo.out.size
        by_cases hxn : x < n
        · have g2 : (x : Int) < (n : Int) := by omega
          have hbl := boff_le hn4 x (by omega)
          obtain ⟨wi, hwi⟩ : ∃ wi, Hid (wi = wr) := ⟨_, rfl⟩
          rw [← hwi.out] at hG hBo hwr ⊢
          clear hwi
          have hmk := HM.out wi
          have HR0 := Lib.hid (RowM.fresh (W := wi) HVS.out)
          have HAG0 : Hid (Ag (· = wi.heap.size) wi (wi.alloc (.cells vs 4))) := (Ag.refl _ _).alloc _
          go_upto_region 17 with (fail)
          obtain ⟨Bk, hBk⟩ : ∃ Bk, Hid (Bk = wi.heap.size) := ⟨_, rfl⟩
          rw [← hBk.out] at HR0 HAG0 ⊢
          clear hmk
          have hBkl : wo.heap.size ≤ Bk := by rw [hBk.out]; exact hwr
          generalize wi.alloc (.cells vs 4) = X at *
          go_loopw [9, 12] (fun s9 s12 wq => ∃ y bt : Nat, x < y ∧ y ≤ n ∧ s12 = .int .i64 (y : Int) ∧ bt = boff n x + (y - x - 1) ∧ s9 = .int .i64 (bt : Int) ∧ Hid (RowM wq Bk n (fun j => decide (j < y) && cR n s x j)) ∧ Hid (Ag (· = Bk) wi wq)) (fun _ s12 _ => n - (intOf s12).toNat)
          case atStart => exact ⟨x + 1, boff n x, by omega, by omega, int_eq (by omega), by omega, rfl, HR0.out.start, HAG0⟩
          case round =>
            clear HR0 HAG0
            obtain ⟨y, bt, hxy, hy, rfl, hbt, rfl, hR, hA⟩ := hrel
            by_cases hyn : y < n
            · have g3 : (y : Int) < (n : Int) := by omega
              have g4 : (0 : Int) ≤ (y : Int) := by omega
              have g5 : (0 : Int) ≤ (bt : Int) := by omega
              have k1 := hR.out.cell hyn
              have f1 := hR.out.frozen y
              have HR2 : Hid (RowM (wr.setCell ⟨Bk, y, none⟩ (.bool (s.testBit bt))) Bk n (fun j => decide (j < y + 1) && cR n s x j)) := by
                have := hR.out.put hyn
                rw [cR_at hxy hyn, ← hbt] at this
                exact this
              have HA2 : Hid (Ag (· = Bk) wi (wr.setCell ⟨Bk, y, none⟩ (.bool (s.testBit bt)))) := hA.out.set ⟨Bk, y, none⟩ _ (.inr rfl)
              have HBT : Hid (bt + 1 = boff n x + (y + 1 - x - 1)) := by unfold Hid; omega
              have hbt9 : bt < 20 := by omega
              clear hR hA hbt
              go_wp2
              exact ⟨⟨y + 1, bt + 1, by omega, by omega, int_eq (by omega), HBT.out, int_eq (by omega), HR2, HA2⟩, by simp [intOf]; omega⟩
            · have g3 : ¬ (y : Int) < (n : Int) := by omega
              obtain rfl : n = y := by omega
              have HGX := Lib.hid (hG.out.ag hA.out (by rw [hBk.out]; exact Nat.le_refl _))
              have HBX : Hid (Below wo.heap.size wo wr) := hA.out.below hBo.out hwr (fun k hk e => by omega)
              have HRF := Lib.hid hR.out.full
              have HBT : Hid (bt = boff n (x + 1)) := by have h9 : boff n (x + 1) = boff n x + (n - 1 - x) := rfl; unfold Hid; omega
              clear hR hA hG hBo hbt
              obtain ⟨xs, h1, h2⟩ := HGX.out
              have hwx : wo.heap.size ≤ wr.heap.size := HBX.out.size
              have H1A := Lib.hid (h1.alloc (.cells #[.slice (some ⟨Bk, 0, none⟩) n n] 60))
              have H2A : Hid (∀ i, i < x → ∃ B, xs[i]? = some (.slice (some ⟨B, 0, none⟩) n n) ∧ RowM (wr.alloc (.cells #[.slice (some ⟨Bk, 0, none⟩) n n] 60)) B n (cR n s i)) := fun i hi => by
                obtain ⟨B, e1, e2⟩ := h2 i hi
                exact ⟨B, e1, e2.al _⟩
              have HRA := Lib.hid (HRF.out.al (.cells #[.slice (some ⟨Bk, 0, none⟩) n n] 60))
              have HLT := Lib.hid (fun kk (e : _ = some kk) => (h1.lt kk e).1)
              clear h1 h2 HGX
              go_wp2_with (at_builtin; go_must (refine wpList_append_q _ rfl (.tmp 71) (.tmp 73) 24 rfl wo.heap.size 60 i1 (.slice none 0 0) 1 24 under24 hi1 hy0 hy1 hy2 rfl (by decide) _ x xs rfl H1A.out ⟨_, 0, none⟩ 1 1 [.slice (some ⟨Bk, 0, none⟩) n n] rfl rfl (cells_new1 _ _ _) (by simp [Value.oneCell']) (by unfold maxLen; omega) (by omega) (by simp; omega) ?_); intro v5 w5 hq5 hg5 ho5; have HR5 : Hid (TabG w5 wo.heap.size v5 (x + 1) n (cR n s)) := TabG.push H2A.out H1A.out HRA.out hg5 hq5; have HB5 : Hid (Below wo.heap.size wo w5) := Below.grown (HBX.out.alloc hwx _) hg5 (by simp; omega) (fun kk e => HLT.out kk e); clear hq5 hg5 ho5)
              exact ⟨⟨v5, _, _, ⟨x + 1, by omega, int_eq (by omega), by rw [HBT.out], HR5⟩, rfl, rfl, rfl⟩, by simp [intOf]; omega⟩
        · have g2 : ¬ (x : Int) < (n : Int) := by omega
          obtain rfl : n = x := by omega
          clear g2 hxn hx
          have HTT := Lib.hid hG.out.tbl
          have HCK := Lib.hid (Check_any p8 n c8 (fun _ => n) (cR n s) wr (by omega) HTT.out)
          have HTB1 := Lib.hid (fun W (hW : Below wo.heap.size wo W) => HTB.out.below (hB.out.trans (hW.mono hwo)) (Nat.le_refl _))
          have HBB := Lib.hid (fun W (hW : Below wo.heap.size wo W) => hB.out.trans (hW.mono hwo))
          clear hG HM HVS
          by_cases hord : OrdP n (cR n s)
          · have HOK : Hid (TabOK n (fun _ => n) (cR n s)) := ⟨hn1, by omega, fun _ _ => rfl, hord⟩
            have HCK2 : Hid (Calls Tryd.prog 34 #[.slice p8 n c8] wr fun e w' => e = .returned (.int .i64 0) ∧ Below wr.heap.size wr w') := by
              refine HCK.out.mono ?_
              rintro e w' ⟨⟨rfl, _⟩ | ⟨_, h⟩, hB⟩
              · exact ⟨rfl, hB⟩
              · exact absurd HOK.out h
            clear HCK
            go_upto_region 23 with (go_at_call 34; refine HCK2.out.mono ?_; rintro e w2 ⟨rfl, hB2⟩; have HT2 := Lib.hid (HTT.out.below hB2 (Nat.le_refl _)); have HB2 := Lib.hid (hBo.out.trans (hB2.mono hwr)); clear hB2)
            clear HCK2 HTT
            have hw2 : wo.heap.size ≤ w2.heap.size := HB2.out.size
            by_cases h22 : ∃ a b c d, TwoTwo n (cR n s) a b c d
            · have HKS : Hid (seenT n (s + 1) = S) := by rw [HKN.out, keysB_two h22]; rfl
              have H22 := Lib.hid (two_yes p8 n c8 (cR n s) w2 HOK.out h22 (HTB1.out w2 HB2.out) HT2.out)
              clear h22 hord
              have HND : Hid (∀ W, Below wo.heap.size wo W → ∃ (s_1 : Nat) (S_1 : List (List Nat)), s_1 ≤ pw c ∧ Value.int .i64 ((s : Int) + 1) = .int .i64 (s_1 : Int) ∧ Hid (S_1 = seenT n s_1) ∧ Hid (S_1.length ≤ s_1) ∧ Hid (KRow W w.heap.size (.slice p5 sl c5) S_1 n) ∧ Hid (Below w.heap.size w W)) := fun W hW => ⟨s + 1, S, by omega, int_eq (by omega), HKS.out.symm, by rw [HSL.out]; unfold Hid; omega, HKB.out W hW, HBB.out W hW⟩
              go_upto_region 24 with (go_at_call 25; refine H22.out.mono ?_; rintro e w3 ⟨a1, a2, a3, a4, rfl, htt, hB3⟩; have HB3 := Lib.hid (HB2.out.trans (hB3.mono hw2)); clear htt hB3)
              have hw3 : wo.heap.size ≤ w3.heap.size := HB3.out.size
              have HB4 := Lib.hid (HB3.out.alloc hw3 (.cells #[.int .i64 (a1 : Int), .int .i64 (a2 : Int), .int .i64 (a3 : Int), .int .i64 (a4 : Int)] 45))
              generalize w3.alloc (.cells #[.int .i64 (a1 : Int), .int .i64 (a2 : Int), .int .i64 (a3 : Int), .int .i64 (a4 : Int)] 45) = Y at *
              go_wp2
              exact ⟨HND.out Y HB4.out, by simp [intOf]; omega⟩
            · have HNO : Hid (∀ a b c d, ¬ TwoTwo n (cR n s) a b c d) := fun a b c d h => h22 ⟨a, b, c, d, h⟩
              rw [keysB_some hord HNO.out] at HKN
              have HLL := Lib.hid (cL_sets n (cR n s))
              have HLN : Hid ((cL n (cR n s) n).length ≤ n) := (cL_to n (cR n s) n).len
              generalize cL n (cR n s) n = L at *
              have H22 := Lib.hid (two_no p8 n c8 (cR n s) w2 HOK.out HNO.out (HTB1.out w2 HB2.out) HT2.out)
              clear h22 hord
              go_upto_region 24 with (go_at_call 25; refine H22.out.mono ?_; rintro e w3 ⟨rfl, hB3⟩; have HT3 := Lib.hid (HT2.out.below hB3 (Nat.le_refl _)); have HB3 := Lib.hid (HB2.out.trans (hB3.mono hw2)); clear hB3)
              clear H22 HT2
              have hw3 : wo.heap.size ≤ w3.heap.size := HB3.out.size
              have HB4 := Lib.hid (HB3.out.alloc hw3 (.cells #[.int .i64 0, .int .i64 0, .int .i64 0, .int .i64 0] 45))
              have HT4 : Hid (TblI (w3.alloc (.cells #[.int .i64 0, .int .i64 0, .int .i64 0, .int .i64 0] 45)) p8 n (fun _ => n) (cR n s)) := HT3.out.below ((Below.refl w3.heap.size w3).alloc (Nat.le_refl _) (.cells #[.int .i64 0, .int .i64 0, .int .i64 0, .int .i64 0] 45)) (Nat.le_refl _)
              clear HT3
              generalize w3.alloc (.cells #[.int .i64 0, .int .i64 0, .int .i64 0, .int .i64 0] 45) = Y at *
              have hwY : wo.heap.size ≤ Y.heap.size := HB4.out.size
              have HIV := Lib.hid (ivs_no p8 n c8 (cR n s) L Y HOK.out HLL.out HNO.out (HTB1.out Y HB4.out) HT4.out)
              go_upto_region 28 with (go_at_call 24; refine HIV.out.mono ?_; rintro e wi ⟨q, d, rfl, hP, hBi⟩; have HP := Lib.hid hP; have HBi := Lib.hid (HB4.out.trans (hBi.mono hwY)); clear hP hBi)
              clear HIV HT4
              have hwi : wo.heap.size ≤ wi.heap.size := HBi.out.size
              have HVAL : Hid (∀ x, x < n → lftS L (bef n (cR n s) x) ≤ 12 ∧ rgtTo L x L.length ≤ 12) := fun x hx => by
                have h1 := (HLL.out.at hx).1
                have h2 := (rgtTo_spec HOK.out.ord hn1 (by omega) HLL.out HNO.out x L.length (HLL.out.first HOK.out.ord hn1 (by omega)).1 (Nat.le_refl _)).1
                have := HLN.out
                omega
              go_upto_region 32 with (fail)
              go_loopw [17, 18] (fun s17 s18 wr => ∃ x : Nat, x ≤ n ∧ s18 = .int .i64 (x : Int) ∧ Hid (QRow wr wi.heap.size 3 1 s17 x (iv (ownTo n (cR n s) L x))) ∧ Hid (Below wi.heap.size wi wr)) (fun _ s18 _ => n - (intOf s18).toNat)
              case atStart => exact ⟨0, by omega, rfl, QRow.nil _ _ _ _, Below.refl _ _⟩
              case round =>
                obtain ⟨x, hx, rfl, hQ, hBr⟩ := hrel
                obtain ⟨p7, c7, rfl⟩ := hQ.out.isSlice
                have hwr' : wi.heap.size ≤ wr.heap.size := hBr.out.size
                by_cases hxn : x < n
                · have g2 : (x : Int) < (n : Int) := by omega
                  have g3 : (0 : Int) ≤ (x : Int) := by omega
                  obtain ⟨b, o, rfl, hb, k1, k2⟩ := HP.out.at (k := x) (by rw [canonPs_len]; exact hxn)
                  rw [(canonPs_at hxn).1] at k1
                  rw [(canonPs_at hxn).2] at k2
                  have r1 := (hBr.out.cell (p := ⟨b, o + x * 2, none⟩) hb).trans k1
                  have r2 := (hBr.out.cell (p := ⟨b, o + x * 2 + 1, none⟩) hb).trans k2
                  have HKV : Hid (kv n (cR n s) L x = 100 * lftS L (bef n (cR n s) x) + rgtTo L x L.length) := rfl
                  have hvl := HVAL.out x hxn
                  have HOX : Hid (ownTo n (cR n s) L (x + 1) = insV (kv n (cR n s) L x) (ownTo n (cR n s) L x)) := rfl
                  have HOL : Hid ((ownTo n (cR n s) L x).length = x) := ownTo_len x
                  have HOB : Hid (∀ j, j < x → nthN (ownTo n (cR n s) L x) j ≤ 1212) := ownTo_le (fun x hx => by have h1 := HVAL.out x hx; unfold kv; omega) (by omega)
                  generalize lftS L (bef n (cR n s) x) = lf at *
                  generalize rgtTo L x L.length = rg at *
                  obtain ⟨v, hv⟩ : ∃ v, Hid (v = kv n (cR n s) L x) := ⟨_, rfl⟩
                  have hve : (100 : Int) * (lf : Int) + (rg : Int) = (v : Int) := by have h1 := hv.out; rw [HKV.out] at h1; omega
                  have hv12 : v ≤ 1212 := by omega
                  rw [← hv.out] at HOX
                  clear hv HKV k1 k2
                  obtain ⟨O, hO⟩ : ∃ O, Hid (O = ownTo n (cR n s) L x) := ⟨_, rfl⟩
                  rw [← hO.out] at HOX HOL HOB hQ
                  clear hO
                  obtain ⟨OX, hOX⟩ : ∃ OX, Hid (ownTo n (cR n s) L (x + 1) = OX) := ⟨_, rfl⟩
                  rw [hOX.out] at HOX
                  have HPUTS : Hid (∀ k, k ≤ x → (∀ j, j < k → nthN O j ≤ v) → (k < x → v < nthN O k) → O.take k ++ [v] ++ O.drop k = ownTo n (cR n s) L (x + 1)) := fun k hk h1 h2 => by rw [hOX.out, HOX.out]; exact insV_at (by rw [HOL.out]; exact hk) h1 (by rw [HOL.out]; exact h2)
                  clear HOX hOX
                  go_wp2
                  go_quiet (fail)
                  have HQA0 : Hid (QRow (wr.drewN nq) wi.heap.size 3 1 (.slice p7 x c7) x (iv O)) := hQ.out
                  have hBA0 := Lib.hid (below_dr hBr.out nq)
                  clear hQ hBr r1 r2
                  generalize wr.drewN nq = wA at *
                  have HQA := HQA0
                  have hBA := hBA0
                  clear HQA0 hBA0
                  have hwA : wi.heap.size ≤ wA.heap.size := hBA.out.size
                  have HRN : Hid (∀ j, j < x → ∃ b o, p7 = some ⟨b, o, none⟩ ∧ b < wA.heap.size ∧ wA.cell? ⟨b, o + j, none⟩ = some (.int .i64 (nthN O j : Nat))) := fun j hj => HQA.out.rowN j (by rw [HOL.out]; exact hj)
                  clear hve hvl
                  go_upto_region 36 with (fail)
                  go_loopw [20] (fun s20 wr => ∃ k : Nat, k ≤ x ∧ s20 = .int .i64 (k : Int) ∧ Hid (∀ j, j < k → nthN O j ≤ v) ∧ Hid (wr.heap = wA.heap ∧ wr = wA)) (fun s20 _ => x - (intOf s20).toNat)
                  case atStart => exact ⟨0, by omega, rfl, (fun j hj => by omega), rfl, rfl⟩
                  case round =>
                    obtain ⟨k, hk, rfl, hlo, hw⟩ := hrel
                    obtain ⟨_, hw⟩ := hw.out
                    replace hw := hw.symm
                    subst hw
                    by_cases hkx : k < x
                    · have g4 : (k : Int) < (x : Int) := by omega
                      have g5 : (0 : Int) ≤ (k : Int) := by omega
                      obtain ⟨b2, o2, rfl, hb2, q1⟩ := HRN.out k hkx
                      have hcm : x ≤ c7 := by
                        rcases HQA.out.2 with ⟨e, _⟩ | ⟨g, o', cap, cur, e, _, _, h5, _⟩
                        · cases e
                        · cases e; omega
                      have hz12 := HOB.out k hkx
                      by_cases hle : nthN O k ≤ v
                      · have HN : Hid (∀ j, j < k + 1 → nthN O j ≤ v) := fun j hj => by
                          by_cases e : j = k
                          · subst e; exact hle
                          · exact hlo.out j (by omega)
                        generalize nthN O k = zz at *
                        have q2 : (zz : Int) ≤ (v : Int) := by omega
                        clear hlo
                        go_wp2
                        exact ⟨⟨k + 1, by omega, int_eq (by omega), HN, (by first | exact ⟨rfl, rfl⟩ | exact ⟨trivial, trivial⟩)⟩, by simp [intOf]; omega⟩
                      · have HPUT := Lib.hid (HPUTS.out k (by omega) hlo.out (fun _ => by omega))
                        generalize nthN O k = zz at *
                        have q2 : ¬ (zz : Int) ≤ (v : Int) := by omega
                        clear hlo HPUTS HRN
                        go_upto_region 39 with (fail)
                        have HLEN : Hid ((O.take k ++ [v] ++ O.drop k).length = x + 1) := by
                          unfold Hid; rw [List.length_append, List.length_append, List.length_take, List.length_drop, HOL.out]; simp; try omega
                        have HS1 : Hid (Src wA (some ⟨b2, o2, none⟩) k 1 (iv (O.take k))) := src_take HQA.out HOL.out (by omega)
                        have HO1 := Lib.hid (iv_one (O.take k))
                        have HO2 := Lib.hid (iv_one (O.drop k))
                        go_upto_region 40 with (at_builtin; go_must (refine wpList_append_qq _ rfl (.tmp 131) (.tmp 134) 28 rfl wi.heap.size 3 i0 (.int .i64 0) 1 8 Tryd.underlying28 hi0 hz0 hz1 hz2 rfl (by decide) _ 0 [] rfl (QRow.nil _ _ _ _) (some ⟨b2, o2, none⟩) k c7 (iv (O.take k)) rfl HS1.out HO1.out (by unfold maxLen; omega) (by omega) (by omega) ?_); intro v6 w6 hq6 hg6 ho6; rw [Nat.zero_add, List.nil_append] at hq6; have hg6 : wA.grownBy w6 none := hg6; have HQ6 := Lib.hid hq6; have HB6 : Hid (Below wi.heap.size wi w6) := Below.grown hBA.out hg6 hwA (fun kk e => by cases e); have HR6 := Lib.hid (HQA.out.kept hg6 (Classical.em _)); have HF6 : Hid (∀ kk, v6.ownBlock = some kk → wA.heap.size ≤ kk) := (fun kk e => (ho6 kk e).elim (fun h => by cases h) id); have HA6 := Lib.hid (hq6.alloc (.cells #[.int .i64 (v : Int)] 3)); have h6s : wi.heap.size ≤ w6.heap.size := HB6.out.size; have h16 : wA.heap.size ≤ w6.heap.size := hg6.size; clear hq6 hg6 ho6)
                        go_upto_region 41 with (at_builtin; go_must (refine wpList_append_q _ rfl (.tmp 136) (.tmp 138) 28 rfl wi.heap.size 3 i0 (.int .i64 0) 1 8 Tryd.underlying28 hi0 hz0 hz1 hz2 rfl (by decide) _ k (iv (O.take k)) rfl HA6.out ⟨_, 0, none⟩ 1 1 [.int .i64 (v : Int)] rfl rfl (cells_new1 _ _ _) (by simp [Value.oneCell']) (by unfold maxLen; omega) (by omega) (by simp; omega) ?_); intro v7 w7 hq7 hg7 ho7; have HQ7 := Lib.hid hq7; have HB7 : Hid (Below wi.heap.size wi w7) := Below.grown (HB6.out.alloc h6s _) hg7 (by simp; omega) (fun kk e => (HQ6.out.lt kk e).1); have HR7 : Hid (QRow w7 wi.heap.size 3 1 (.slice (some ⟨b2, o2, none⟩) x c7) x (iv O)) := (HR6.out.alloc _).kept hg7 (ne_or (fun kk hk e => by have h1 := (HQA.out.lt kk hk).2; have h2 := HF6.out kk e; omega)); have h7s : wi.heap.size ≤ w7.heap.size := HB7.out.size; have HS7 : Hid (Src w7 (some ⟨b2, o2 + k, none⟩) (x - k) 1 (iv (O.drop k))) := src_drop HR7.out HOL.out (by omega); clear hq7 hg7 ho7)
                        go_wp2_with (at_builtin; go_must (refine wpList_append_qq _ rfl (.tmp 140) (.tmp 143) 28 rfl wi.heap.size 3 i0 (.int .i64 0) 1 8 Tryd.underlying28 hi0 hz0 hz1 hz2 rfl (by decide) v7 (k + 1) (iv (O.take k) ++ [Value.int .i64 (v : Int)]) rfl HQ7.out (some ⟨b2, o2 + k, none⟩) (x - k) (c7 - k) (iv (O.drop k)) rfl HS7.out HO2.out (by unfold maxLen; omega) (by omega) (by omega) ?_); intro v8 w8 hq8 hg8 ho8; have HQ8 : Hid (QRow w8 wi.heap.size 3 1 v8 (x + 1) (iv (O.take k ++ [v] ++ O.drop k))) := (by rw [iv_app, iv_app]; have := hq8; rw [show k + 1 + (x - k) = x + 1 by omega] at this; exact this); have HB8 : Hid (Below wi.heap.size wi w8) := Below.grown HB7.out hg8 h7s (fun kk e => (HQ7.out.lt kk e).1); clear hq8 hg8 ho8)
                        rw [HPUT.out] at HQ8
                        exact ⟨⟨x + 1, by omega, int_eq (by omega), HQ8, HB8⟩, by simp [intOf]; omega⟩
                    · have g4 : ¬ (k : Int) < (x : Int) := by omega
                      obtain rfl : x = k := by omega
                      have HPUT := Lib.hid (HPUTS.out x (by omega) hlo.out (fun h => by omega))
                      clear HRN hlo HPUTS
                      go_upto_region 39 with (fail)
                      rcases HQA.out.2 with ⟨e, hm0, _⟩ | ⟨b2, o2, cap, cur, e, _, _, h5, _⟩
                      · cases e
                        have HLEN : Hid ((O.take 0 ++ [v] ++ O.drop 0).length = 0 + 1) := by
                          unfold Hid; rw [List.length_append, List.length_append, List.length_take, List.length_drop, HOL.out]; simp; try omega
                        have HS1 : Hid (Src wA none 0 1 (iv (O.take 0))) := src_take HQA.out HOL.out (by omega)
                        have HO1 := Lib.hid (iv_one (O.take 0))
                        have HO2 := Lib.hid (iv_one (O.drop 0))
                        have HD0 : Hid (iv (O.drop 0) = []) := by
                          have := List.length_eq_zero_iff.1 HOL.out
                          rw [this]; rfl
                        go_upto_region 40 with (at_builtin; go_must (refine wpList_append_qq _ rfl (.tmp 131) (.tmp 134) 28 rfl wi.heap.size 3 i0 (.int .i64 0) 1 8 Tryd.underlying28 hi0 hz0 hz1 hz2 rfl (by decide) _ 0 [] rfl (QRow.nil _ _ _ _) none 0 0 (iv (O.take 0)) rfl HS1.out HO1.out (by unfold maxLen; omega) (by omega) (by omega) ?_); intro v6 w6 hq6 hg6 ho6; rw [Nat.zero_add, List.nil_append] at hq6; have hg6 : wA.grownBy w6 none := hg6; have HQ6 := Lib.hid hq6; have HB6 : Hid (Below wi.heap.size wi w6) := Below.grown hBA.out hg6 hwA (fun kk e => by cases e); have HR6 := Lib.hid (HQA.out.kept hg6 (Classical.em _)); have HF6 : Hid (∀ kk, v6.ownBlock = some kk → wA.heap.size ≤ kk) := (fun kk e => (ho6 kk e).elim (fun h => by cases h) id); have HA6 := Lib.hid (hq6.alloc (.cells #[.int .i64 (v : Int)] 3)); have h6s : wi.heap.size ≤ w6.heap.size := HB6.out.size; have h16 : wA.heap.size ≤ w6.heap.size := hg6.size; clear hq6 hg6 ho6)
                        go_upto_region 41 with (at_builtin; go_must (refine wpList_append_q _ rfl (.tmp 136) (.tmp 138) 28 rfl wi.heap.size 3 i0 (.int .i64 0) 1 8 Tryd.underlying28 hi0 hz0 hz1 hz2 rfl (by decide) _ 0 (iv (O.take 0)) rfl HA6.out ⟨_, 0, none⟩ 1 1 [.int .i64 (v : Int)] rfl rfl (cells_new1 _ _ _) (by simp [Value.oneCell']) (by unfold maxLen; omega) (by omega) (by simp; omega) ?_); intro v7 w7 hq7 hg7 ho7; have HQ7 := Lib.hid hq7; have HB7 : Hid (Below wi.heap.size wi w7) := Below.grown (HB6.out.alloc h6s _) hg7 (by simp; omega) (fun kk e => (HQ6.out.lt kk e).1); have HR7 : Hid (QRow w7 wi.heap.size 3 1 (.slice none 0 0) 0 (iv O)) := (HR6.out.alloc _).kept hg7 (ne_or (fun kk hk e => by have h1 := (HQA.out.lt kk hk).2; have h2 := HF6.out kk e; omega)); have h7s : wi.heap.size ≤ w7.heap.size := HB7.out.size; have HS7 : Hid (Src w7 none (0 - 0) 1 (iv (O.drop 0))) := (by rw [HD0.out]; exact ⟨rfl, fun h => absurd rfl h⟩); clear hq7 hg7 ho7)
                        go_wp2_with (at_builtin; go_must (refine wpList_append_qq _ rfl (.tmp 140) (.tmp 143) 28 rfl wi.heap.size 3 i0 (.int .i64 0) 1 8 Tryd.underlying28 hi0 hz0 hz1 hz2 rfl (by decide) v7 (0 + 1) (iv (O.take 0) ++ [Value.int .i64 (v : Int)]) rfl HQ7.out none (0 - 0) (0 - 0) (iv (O.drop 0)) rfl HS7.out HO2.out (by unfold maxLen; omega) (by omega) (by omega) ?_); intro v8 w8 hq8 hg8 ho8; have HQ8 : Hid (QRow w8 wi.heap.size 3 1 v8 (0 + 1) (iv (O.take 0 ++ [v] ++ O.drop 0))) := (by rw [iv_app, iv_app]; have := hq8; rw [show 0 + 1 + (0 - 0) = 0 + 1 by omega] at this; exact this); have HB8 : Hid (Below wi.heap.size wi w8) := Below.grown HB7.out hg8 h7s (fun kk e => (HQ7.out.lt kk e).1); clear hq8 hg8 ho8)
                        rw [HPUT.out] at HQ8
                        exact ⟨⟨0 + 1, by omega, int_eq (by omega), HQ8, HB8⟩, by simp [intOf]; omega⟩
                      · cases e
                        have HLEN : Hid ((O.take x ++ [v] ++ O.drop x).length = x + 1) := by
                          unfold Hid; rw [List.length_append, List.length_append, List.length_take, List.length_drop, HOL.out]; simp; try omega
                        have HS1 : Hid (Src wA (some ⟨b2, o2, none⟩) x 1 (iv (O.take x))) := src_take HQA.out HOL.out (by omega)
                        have HO1 := Lib.hid (iv_one (O.take x))
                        have HO2 := Lib.hid (iv_one (O.drop x))
                        go_upto_region 40 with (at_builtin; go_must (refine wpList_append_qq _ rfl (.tmp 131) (.tmp 134) 28 rfl wi.heap.size 3 i0 (.int .i64 0) 1 8 Tryd.underlying28 hi0 hz0 hz1 hz2 rfl (by decide) _ 0 [] rfl (QRow.nil _ _ _ _) (some ⟨b2, o2, none⟩) x c7 (iv (O.take x)) rfl HS1.out HO1.out (by unfold maxLen; omega) (by omega) (by omega) ?_); intro v6 w6 hq6 hg6 ho6; rw [Nat.zero_add, List.nil_append] at hq6; have hg6 : wA.grownBy w6 none := hg6; have HQ6 := Lib.hid hq6; have HB6 : Hid (Below wi.heap.size wi w6) := Below.grown hBA.out hg6 hwA (fun kk e => by cases e); have HR6 := Lib.hid (HQA.out.kept hg6 (Classical.em _)); have HF6 : Hid (∀ kk, v6.ownBlock = some kk → wA.heap.size ≤ kk) := (fun kk e => (ho6 kk e).elim (fun h => by cases h) id); have HA6 := Lib.hid (hq6.alloc (.cells #[.int .i64 (v : Int)] 3)); have h6s : wi.heap.size ≤ w6.heap.size := HB6.out.size; have h16 : wA.heap.size ≤ w6.heap.size := hg6.size; clear hq6 hg6 ho6)
                        go_upto_region 41 with (at_builtin; go_must (refine wpList_append_q _ rfl (.tmp 136) (.tmp 138) 28 rfl wi.heap.size 3 i0 (.int .i64 0) 1 8 Tryd.underlying28 hi0 hz0 hz1 hz2 rfl (by decide) _ x (iv (O.take x)) rfl HA6.out ⟨_, 0, none⟩ 1 1 [.int .i64 (v : Int)] rfl rfl (cells_new1 _ _ _) (by simp [Value.oneCell']) (by unfold maxLen; omega) (by omega) (by simp; omega) ?_); intro v7 w7 hq7 hg7 ho7; have HQ7 := Lib.hid hq7; have HB7 : Hid (Below wi.heap.size wi w7) := Below.grown (HB6.out.alloc h6s _) hg7 (by simp; omega) (fun kk e => (HQ6.out.lt kk e).1); have HR7 : Hid (QRow w7 wi.heap.size 3 1 (.slice (some ⟨b2, o2, none⟩) x c7) x (iv O)) := (HR6.out.alloc _).kept hg7 (ne_or (fun kk hk e => by have h1 := (HQA.out.lt kk hk).2; have h2 := HF6.out kk e; omega)); have h7s : wi.heap.size ≤ w7.heap.size := HB7.out.size; have HS7 : Hid (∀ ad, Src w7 ad 0 1 (iv (O.drop x))) := (fun ad => ⟨by rw [iv_length, List.length_drop, HOL.out]; omega, fun h => absurd rfl h⟩); clear hq7 hg7 ho7)
                        go_wp2_with (at_builtin; go_must (refine wpList_append_qq _ rfl (.tmp 140) (.tmp 143) 28 rfl wi.heap.size 3 i0 (.int .i64 0) 1 8 Tryd.underlying28 hi0 hz0 hz1 hz2 rfl (by decide) v7 (x + 1) (iv (O.take x) ++ [Value.int .i64 (v : Int)]) rfl HQ7.out _ 0 _ (iv (O.drop x)) rfl (HS7.out _) HO2.out (by unfold maxLen; omega) (by omega) (by omega) ?_); intro v8 w8 hq8 hg8 ho8; have HQ8 : Hid (QRow w8 wi.heap.size 3 1 v8 (x + 1) (iv (O.take x ++ [v] ++ O.drop x))) := (by rw [iv_app, iv_app]; have := hq8; rw [show x + 1 + 0 = x + 1 by omega] at this; exact this); have HB8 : Hid (Below wi.heap.size wi w8) := Below.grown HB7.out hg8 h7s (fun kk e => (HQ7.out.lt kk e).1); clear hq8 hg8 ho8)
                        rw [HPUT.out] at HQ8
                        all_goals exact ⟨⟨x + 1, by omega, int_eq (by omega), HQ8, HB8⟩, by simp [intOf]; omega⟩
                · have g2 : ¬ (x : Int) < (n : Int) := by omega
                  obtain rfl : n = x := by omega
                  clear g2 hxn hx
                  have HOWN := Lib.hid (hQ.out.keys (ownTo_len n))
                  have HKL : Hid ((ownTo n (cR n s) L n).length = n) := ownTo_len n
                  generalize ownTo n (cR n s) L n = K at *
                  obtain ⟨wk, hwk⟩ : ∃ wk, Hid (wk = wr) := ⟨_, rfl⟩
                  rw [← hwk.out] at hQ hBr HOWN hwr' ⊢
                  clear hwk
                  have HBK := Lib.hid (HBi.out.trans (hBr.out.mono hwi))
                  have hwk : wo.heap.size ≤ wk.heap.size := HBK.out.size
                  have HROW : Hid (∀ W, Below wk.heap.size wk W → ∀ i, i < sl → ∃ b o q d, p5 = some ⟨b, o, none⟩ ∧ b < W.heap.size ∧ W.cell? ⟨b, o + i, none⟩ = some (.slice q n d) ∧ SrcI W q n (natI (kth S i)) ∧ (kth S i).length = n) := fun W hW => HKR.out W (HBK.out.trans (hW.mono hwk))
                  clear HKR
                  go_upto_region 44 with (fail)
                  go_loopw [22, 23] (fun s22 s23 wr => ∃ (m : Nat) (f : Bool), m ≤ sl ∧ s23 = .int .i64 (m : Int) ∧ s22 = .bool f ∧ Hid (f = true ↔ ∀ j, j < m → kth S j ≠ K) ∧ Hid (Below wk.heap.size wk wr)) (fun _ s23 _ => sl - (intOf s23).toNat)
                  case atStart => exact ⟨0, true, by omega, rfl, rfl, ⟨fun _ j h => by omega, fun _ => rfl⟩, Below.refl _ _⟩
                  case round =>
                    obtain ⟨m, f, hm, rfl, rfl, hf, hBm⟩ := hrel
                    have hwm : wk.heap.size ≤ wr.heap.size := hBm.out.size
                    by_cases hml : m < sl
                    · have g4 : (m : Int) < (sl : Int) := by omega
                      have g5 : (0 : Int) ≤ (m : Int) := by omega
                      have HN : Hid (∀ f2 : Bool, (f2 = true ↔ f = true ∧ kth S m ≠ K) → (f2 = true ↔ ∀ j, j < m + 1 → kth S j ≠ K)) := fun f2 h => h.trans ⟨fun h2 j hj => by
                        by_cases e : j = m
                        · subst e; exact h2.2
                        · exact hf.out.1 h2.1 j (by omega), fun h2 => ⟨hf.out.2 fun j hj => h2 j (by omega), h2 m (by omega)⟩⟩
                      cases f
                      · have HF := Lib.hid (HN.out false (by simp))
                        clear HN hf
                        go_wp2
                        exact ⟨⟨m + 1, false, by omega, int_eq (by omega), rfl, HF, hBm⟩, by simp [intOf]; omega⟩
                      · obtain ⟨b, o, q2, d2, rfl, hb, k1, hsrc, hlen⟩ := HROW.out wr hBm.out m hml
                        by_cases e : kth S m = K
                        · have HIN := Lib.hid (ints_keys q2 p7 n d2 c7 (kth S m) K true wr (by omega) hlen HKL.out (by simp [e]) hsrc (HOWN.out.below hBm.out (Nat.le_refl _)))
                          have HF := Lib.hid (HN.out false (by simp [e]))
                          clear HN hf hsrc hlen
                          go_wp2_with (go_at_call 35; refine HIN.out.mono ?_; rintro e' w9 ⟨rfl, z9, hw9⟩; have HB9 : Hid (Below wk.heap.size wk w9) := (by rw [hw9]; exact below_dr hBm.out z9); clear hw9)
                          exact ⟨⟨m + 1, false, by omega, int_eq (by omega), rfl, HF, HB9⟩, by simp [intOf]; omega⟩
                        · have HIN := Lib.hid (ints_keys q2 p7 n d2 c7 (kth S m) K false wr (by omega) hlen HKL.out (by simp [e]) hsrc (HOWN.out.below hBm.out (Nat.le_refl _)))
                          have HF := Lib.hid ((HN.out true (by simp [e])).1 rfl)
                          clear HN hf hsrc hlen
                          go_wp2_with (go_at_call 35; refine HIN.out.mono ?_; rintro e' w9 ⟨rfl, z9, hw9⟩; have HB9 : Hid (Below wk.heap.size wk w9) := (by rw [hw9]; exact below_dr hBm.out z9); clear hw9)
                          exact ⟨⟨m + 1, true, by omega, int_eq (by omega), rfl, ⟨fun _ => HF.out, fun _ => rfl⟩, HB9⟩, by simp [intOf]; omega⟩
                    · have g4 : ¬ (m : Int) < (sl : Int) := by omega
                      obtain rfl : sl = m := by omega
                      clear g4 hml hm HROW
                      have HIFF : Hid (f = true ↔ K ∉ S) := hf.out.trans HKM.out
                      have HBZ := Lib.hid (HBK.out.trans (hBm.out.mono hwk))
                      have HKZ := Lib.hid (HKB.out wr HBZ.out)
                      have HBW := Lib.hid (HBB.out wr HBZ.out)
                      have hwz : w.heap.size ≤ wr.heap.size := HBW.out.size
                      have HQZ := Lib.hid ((hQ.out.below hBm.out (fun kk e => (hQ.out.lt kk e).2)).mono (Nat.le_trans hwo hwi))
                      clear hf HKM hQ HOWN
                      cases f
                      · have HKS : Hid (seenT n (s + 1) = S) := by rw [HKN.out]; exact stepS_in (Classical.byContradiction fun h => by cases HIFF.out.2 h)
                        go_wp2
                        exact ⟨⟨s + 1, S, by omega, int_eq (by omega), HKS.out.symm, by rw [HSL.out]; unfold Hid; omega, HKZ, HBW⟩, by simp [intOf]; omega⟩
                      · have HKS : Hid (seenT n (s + 1) = S ++ [K]) := by rw [HKN.out]; exact stepS_new (HIFF.out.1 rfl)
                        obtain ⟨xs, h1, h2⟩ := HKZ.out
                        have HLEN : Hid ((S ++ [K]).length = sl + 1) := by unfold Hid; rw [List.length_append, HSL.out]; rfl
                        rw [HSL.out] at h1
                        have H1A := Lib.hid (h1.alloc (.cells #[.slice p7 n c7] 28))
                        have H2A : Hid (∀ i, i < S.length → ∃ p c, xs[i]? = some (.slice p n c) ∧ QRow (wr.alloc (.cells #[.slice p7 n c7] 28)) w.heap.size 3 1 (.slice p n c) n (iv (kth S i)) ∧ (kth S i).length = n) := fun i hi => by
                          obtain ⟨p, c, e1, e2, e3⟩ := h2 i hi
                          exact ⟨p, c, e1, e2.alloc _, e3⟩
                        have HQA := Lib.hid (HQZ.out.alloc (.cells #[.slice p7 n c7] 28))
                        have HLT := Lib.hid (fun kk (e : _ = some kk) => (h1.lt kk e).1)
                        clear h1 h2 HKZ
                        go_wp2_with (at_builtin; go_must (refine wpList_append_q _ rfl (.tmp 162) (.tmp 164) 59 rfl w.heap.size 28 i2 (.slice none 0 0) 1 24 under59 hi2 hx0 hx1 hx2 rfl (by decide) _ sl xs rfl H1A.out ⟨_, 0, none⟩ 1 1 [.slice p7 n c7] rfl rfl (cells_new1 _ _ _) (by simp [Value.oneCell']) (by unfold maxLen; omega) (by omega) (by simp; omega) ?_); intro v5 w5 hq5 hg5 ho5; have HR5 : Hid (KRow w5 w.heap.size v5 (S ++ [K]) n) := KRow.push H2A.out (by rw [HSL.out]; exact H1A.out) HQA.out HKL.out hg5 (by rw [HSL.out]; exact hq5); have HB5 : Hid (Below w.heap.size w w5) := Below.grown (HBW.out.alloc hwz _) hg5 (by simp; omega) (fun kk e => HLT.out kk e); clear hq5 hg5 ho5)
                        exact ⟨⟨s + 1, S ++ [K], by omega, int_eq (by omega), HKS.out.symm, by rw [HLEN.out]; unfold Hid; omega, HR5, HB5⟩, by simp [intOf]; omega⟩
          · have HKS : Hid (seenT n (s + 1) = S) := by rw [HKN.out, keysB_no hord]; rfl
            have HCK2 : Hid (Calls Tryd.prog 34 #[.slice p8 n c8] wr fun e w' => e = .returned (.int .i64 100) ∧ Below wr.heap.size wr w') := by
              refine HCK.out.mono ?_
              rintro e w' ⟨⟨_, h⟩ | ⟨rfl, _⟩, hB⟩
              · exact absurd h.ord hord
              · exact ⟨rfl, hB⟩
            clear HCK hord
            go_wp2_with (go_at_call 34; refine HCK2.out.mono ?_; rintro e w2 ⟨rfl, hB2⟩; have HB2 := Lib.hid (hBo.out.trans (hB2.mono hwr)); clear hB2)
            exact ⟨⟨s + 1, S, by omega, int_eq (by omega), HKS.out.symm, by rw [HSL.out]; unfold Hid; omega, HKB.out w2 HB2.out, HBB.out w2 HB2.out⟩, by simp [intOf]; omega⟩
    · have g1 : ¬ (s : Int) < ((pw c : Nat) : Int) := by omega
      obtain rfl : s = pw c := by omega
      have HL : Hid (S.length = A) := by rw [hS.out]; exact HSA.out
      rw [HL.out]
      have q1 : ((A : Int) == (A : Int)) = true := by simp
      have HAW := Lib.hid (awake_any wr (HTB.out.below hB.out (Nat.le_refl _)))
      go_wp2_with (go_at_call 17; refine HAW.out.mono ?_; rintro e w9 ⟨rfl, hB9⟩; have HB9 := Lib.hid (hB.out.trans (hB9.mono hB.out.size)); clear hB9)
      go_ret
      exact ⟨rfl, HB9.out⟩
end Go.Proofs.YtgpijajgaclhfaaDoor
