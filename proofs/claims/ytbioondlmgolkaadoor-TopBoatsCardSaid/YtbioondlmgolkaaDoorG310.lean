/- sets: walk. The program's check of intervals: walks. Rows of pairs that the call has made; taken over from chapter 7. Boats: the order by intervals; plain words for the loops. Boats: walk. The order that intervals represent: the program's FromIntervals. -/
import Derived.BigQuiet
import Derived.Deep.LoopGhost
import Derived.Lib.TrailingZeros
import Derived.Laws.Bits64b
import Derived.BigRegion
import Derived.Test.YtbioondlmgolkaaDoorG308
import Derived.Test.YtbioondlmgolkaaDoorGu
set_option linter.unusedVariables false
set_option linter.unusedSimpArgs false
namespace Go.Proofs.YtbioondlmgolkaaDoor
open Go.RowKit Go.Shelf Go.Sort

def bvB (b : Bool) : Value := .bool b
theorem kind50 : MapKind Tryd.prog 50 3 4 kvN bvB false := natKind (by kernel_rfl) Tryd.underlying3 (fun _ => by kernel_rfl)
theorem Ag.cell {ex : Nat → Prop} {A B : World} (h : Ag ex A B) {p : Addr} (hp : p.block < A.heap.size) (hn : ¬ ex p.block) : B.cell? p = A.cell? p := World.cell?_of_block (w := A) (h.block _ hp hn)
end Go.Proofs.YtbioondlmgolkaaDoor
namespace Go.Proofs.YtbioondlmgolkaaDoor
open Go.RowKit Go.Shelf

def la (ps : List (Int × Int)) (j : Nat) : Int := (ps[j]?.getD (0, 0)).1
def ua (ps : List (Int × Int)) (j : Nat) : Int := (ps[j]?.getD (0, 0)).2
theorem Pairs.at {w : World} {a : Option Addr} {ps : List (Int × Int)} (h : Pairs w a ps) {k : Nat} (hk : k < ps.length) : ∃ b o, a = some ⟨b, o, none⟩ ∧ b < w.heap.size ∧ w.cell? ⟨b, o + k * 2, none⟩ = some (.int .i64 (la ps k)) ∧ w.cell? ⟨b, o + k * 2 + 1, none⟩ = some (.int .i64 (ua ps k)) := by
  obtain ⟨b, o, e, hb, hc⟩ := h (fun e => by rw [e] at hk; simp at hk)
  exact ⟨b, o, e, hb, (hc k hk).1, (hc k hk).2⟩
set_option maxRecDepth 100000 in
set_option maxHeartbeats 1000000 in
theorem gt_any (x y : Int) (w : World) : Calls Tryd.prog 24 #[.agg #[.int .i64 x, .int .i64 y]] w fun e w' => e = .returned (.bool (decide (y < x))) ∧ Below w.heap.size w w' := by
  have hb : BoxN (w.alloc (.cells #[.int .i64 x, .int .i64 y] 24)) w.heap.size 24 #[.int .i64 x, .int .i64 y] := BoxN.new rfl
  have c0 := hb.cell 0
  have c1 := hb.cell 1
  have hB : Hid (Below w.heap.size w (w.alloc (.cells #[.int .i64 x, .int .i64 y] 24))) := (Below.refl _ _).alloc (Nat.le_refl _) _
  clear hb
  go_enter Tryd.func24, Tryd.ntmps24
  go_wp2
  go_ret
  exact ⟨rfl, hB.out⟩
set_option maxRecDepth 100000 in
set_option maxHeartbeats 1000000 in
theorem indexf_any (a : Option Addr) (cap : Nat) (ps : List (Int × Int)) (w : World) (hl : ps.length ≤ 1099511627776) (hg : Pairs w a ps) :
    Calls Tryd.prog 36 #[.slice a ps.length cap, .func (.func 24) #[] #[]] w fun e w' => (∃ r : Int, e = .returned (.int .i64 r) ∧ Hid ((r = -1 ∧ ∀ j, j < ps.length → la ps j ≤ ua ps j) ∨ (0 ≤ r ∧ ∃ j, j < ps.length ∧ ua ps j < la ps j))) ∧ Below w.heap.size w w' := by
  have HG := Lib.hid hg
  clear hg
  obtain ⟨len, HL⟩ : ∃ len, Hid (ps.length = len) := ⟨_, rfl⟩
  rw [HL.out] at hl ⊢
  go_enter Tryd.func36, Tryd.ntmps36
  go_upto_region 2 with (fail)
  go_loopw [8] (fun s8 wr => ∃ j : Nat, j ≤ len ∧ s8 = .int .i64 (j : Int) ∧ Hid (∀ i, i < j → la ps i ≤ ua ps i) ∧ Hid (Below w.heap.size w wr)) (fun s8 _ => len - (intOf s8).toNat)
  case atStart => exact ⟨0, by omega, rfl, (fun i hi => by omega), Below.refl _ _⟩
  case round =>
    obtain ⟨j, hj, rfl, hp, hB⟩ := hrel
    by_cases hjm : j < len
    · have g1 : (j : Int) < (len : Int) := by omega
      have g0 : (0 : Int) ≤ (j : Int) := by omega
      obtain ⟨b, o, rfl, hb, k1, k2⟩ := HG.out.at (k := j) (by rw [HL.out]; exact hjm)
      have r1 := (hB.out.cell (p := ⟨b, o + j * 2, none⟩) hb).trans k1
      have r2 := (hB.out.cell (p := ⟨b, o + j * 2 + 1, none⟩) hb).trans k2
      have HC := Lib.hid (gt_any (la ps j) (ua ps j) wr)
      clear k1 k2
      by_cases hf : ua ps j < la ps j
      · have HF : Hid (∃ j, j < len ∧ ua ps j < la ps j) := ⟨j, hjm, hf⟩
        have hd : decide (ua ps j < la ps j) = true := decide_eq_true hf
        rw [hd] at HC
        clear hf hd
        generalize la ps j = x at *
        generalize ua ps j = y at *
        go_wp2_with (go_at_call 24; refine HC.out.mono ?_; rintro e w4 ⟨rfl, hB4⟩; have HB4 := Lib.hid (hB.out.trans (hB4.mono hB.out.size)); clear hB4)
        go_ret
        exact ⟨⟨_, rfl, .inr ⟨by omega, HF.out⟩⟩, HB4.out⟩
      · have HN : Hid (∀ i, i < j + 1 → la ps i ≤ ua ps i) := fun i hi => by
          by_cases e : i = j
          · subst e; omega
          · exact hp.out i (by omega)
        have hd : decide (ua ps j < la ps j) = false := decide_eq_false hf
        rw [hd] at HC
        clear hf hd
        generalize la ps j = x at *
        generalize ua ps j = y at *
        go_wp2_with (go_at_call 24; refine HC.out.mono ?_; rintro e w4 ⟨rfl, hB4⟩; have HB4 := Lib.hid (hB.out.trans (hB4.mono hB.out.size)); clear hB4)
        exact ⟨⟨j + 1, by omega, int_eq (by omega), HN, HB4⟩, by simp [intOf]; omega⟩
    · have g1 : ¬ (j : Int) < (len : Int) := by omega
      have HP : Hid (∀ i, i < len → la ps i ≤ ua ps i) := fun i hi => hp.out i (by omega)
      go_wp2
      go_ret
      exact ⟨⟨_, rfl, .inl ⟨rfl, HP.out⟩⟩, hB.out⟩
set_option maxRecDepth 100000 in
theorem containsf_any (a : Option Addr) (cap : Nat) (ps : List (Int × Int)) (w : World) (hl : ps.length ≤ 1099511627776) (hg : Pairs w a ps) :
    Calls Tryd.prog 23 #[.slice a ps.length cap, .func (.func 24) #[] #[]] w fun e w' => BoolP (∃ j, j < ps.length ∧ ua ps j < la ps j) e ∧ Below w.heap.size w w' := by
  have HI := Lib.hid (indexf_any a cap ps w hl hg)
  clear hg
  generalize ps.length = len at *
  go_enter Tryd.func23, Tryd.ntmps23
  go_wp2_with (go_at_call 36; refine HI.out.mono ?_; rintro e w4 ⟨⟨r, rfl, hr⟩, hB4⟩; have HR := hr; have HB4 := Lib.hid hB4; clear hr hB4)
  go_ret
  rcases HR.out with ⟨rfl, h⟩ | ⟨h0, h⟩
  · exact ⟨⟨false, rfl, (fun e => by cases e), fun ⟨j, hj, hlt⟩ => by have := h j hj; omega⟩, HB4.out⟩
  · exact ⟨⟨true, by simp [h0], fun _ => h, fun _ => rfl⟩, HB4.out⟩
/-- what is wrong with intervals -/
def ivsOK (ps : List (Int × Int)) : Prop := 1 ≤ ps.length ∧ ps.length ≤ 12 ∧ ∀ j, j < ps.length → la ps j ≤ ua ps j
def CkI (ps : List (Int × Int)) (c : Int) : Prop := (c = 2 ∧ 12 < ps.length) ∨ (c = 1 ∧ ps.length ≤ 12 ∧ ¬ ivsOK ps) ∨ (c = 0 ∧ ivsOK ps)
set_option maxRecDepth 100000 in
set_option maxHeartbeats 1000000 in
theorem checkIv_any (a : Option Addr) (cap : Nat) (ps : List (Int × Int)) (w : World) (hl : ps.length ≤ 1099511627776) (hg : Pairs w a ps) :
    Calls Tryd.prog 13 #[.slice a ps.length cap] w fun e w' => (∃ c : Int, e = .returned (.int .i64 c) ∧ CkI ps c) ∧ Below w.heap.size w w' := by
  have HC := Lib.hid (containsf_any a cap ps w hl hg)
  clear hg
  obtain ⟨len, HL⟩ : ∃ len, Hid (ps.length = len) := ⟨_, rfl⟩
  have HIV : Hid (ivsOK ps ↔ 1 ≤ len ∧ len ≤ 12 ∧ ∀ j, j < len → la ps j ≤ ua ps j) := by unfold ivsOK; rw [HL.out]; exact Iff.rfl
  rw [HL.out] at hl HC ⊢
  go_enter Tryd.func13, Tryd.ntmps13
  by_cases h12 : 12 < len
  · have g1 : (12 : Int) < (len : Int) := by omega
    go_wp2
    go_ret
    exact ⟨⟨2, rfl, .inl ⟨rfl, by rw [HL.out]; exact h12⟩⟩, Below.refl _ _⟩
  · have g1 : ¬ (12 : Int) < (len : Int) := by omega
    by_cases h0 : len = 0
    · subst h0
      go_wp2
      go_ret
      exact ⟨⟨1, rfl, .inr (.inl ⟨rfl, by rw [HL.out]; omega, fun h => by have := (HIV.out.1 h).1; omega⟩)⟩, Below.refl _ _⟩
    · have g2 : ((len : Int) == 0) = false := by rw [beq_eq_false_iff_ne]; omega
      by_cases hbad : ∃ j, j < len ∧ ua ps j < la ps j
      · have HBD := Lib.hid hbad
        clear hbad
        go_wp2_with (go_at_call 23; refine HC.out.mono ?_; rintro e w4 ⟨h4, hB4⟩; obtain rfl := h4.dec (b := true) ⟨fun _ => HBD.out, fun _ => rfl⟩; have HB4 := Lib.hid hB4; clear h4 hB4; try dsimp only)
        go_ret
        exact ⟨⟨1, rfl, .inr (.inl ⟨rfl, by rw [HL.out]; omega, fun h => by obtain ⟨j, hj, hlt⟩ := HBD.out; have := (HIV.out.1 h).2.2 j hj; omega⟩)⟩, HB4.out⟩
      · have HBD := Lib.hid hbad
        clear hbad
        go_wp2_with (go_at_call 23; refine HC.out.mono ?_; rintro e w4 ⟨h4, hB4⟩; obtain rfl := h4.dec (b := false) ⟨(fun h => by cases h), fun h => absurd h HBD.out⟩; have HB4 := Lib.hid hB4; clear h4 hB4; try dsimp only)
        go_ret
        exact ⟨⟨0, rfl, .inr (.inr ⟨rfl, HIV.out.2 ⟨by omega, by omega, fun j hj => Int.not_lt.1 fun hlt => HBD.out ⟨j, hj, hlt⟩⟩⟩)⟩, HB4.out⟩
end Go.Proofs.YtbioondlmgolkaaDoor
namespace Go.Proofs.YtbioondlmgolkaaDoor
open Go.RowKit Go.Shelf
theorem cells_newB (W : World) (t : TypeId) (u u' : Value) : ∀ (j : Nat) (x : Value), [u, u'][j]? = some x → (W.alloc (.cells #[u, u'] t)).cell? ((⟨W.heap.size, 0, none⟩ : Addr).add j) = some x := fun j x h => by
  rw [Addr.add_lit, Nat.zero_add, (BoxN.new (W := W) (t := t) (vs := #[u, u']) rfl).cell]
  simpa using h
theorem pairs_new (w : World) (ps : List (Int × Int)) (vs : Array Value) (h : vs = (pairCells ps).toArray) : Pairs (w.alloc (.cells vs 24)) (some ⟨w.heap.size, 0, none⟩) ps := fun _ => by
  subst h
  refine ⟨w.heap.size, 0, rfl, by simp, fun j hj => ?_⟩
  have hb : BoxN (w.alloc (.cells (pairCells ps).toArray 24)) w.heap.size 24 (pairCells ps).toArray := BoxN.new rfl
  have := pairCells_get ps j hj
  rw [hb.cell, hb.cell]
  simpa using this
theorem Pairs.src {w : World} {a : Option Addr} {ps : List (Int × Int)} (h : Pairs w a ps) (k : Nat) (hk : k ≤ ps.length) : Src w a k 2 (pairCells (ps.take k)) := by
  have hl : (ps.take k).length = k := by rw [List.length_take]; omega
  refine ⟨by rw [pairCells_length, hl], fun hm => ?_⟩
  obtain ⟨b, off, e, h1, h2⟩ := h fun e => by rw [e] at hk; simp at hk; omega
  refine ⟨_, e, fun j u hu => ?_⟩
  have hj := (List.getElem?_eq_some_iff.1 hu).1
  rw [pairCells_length, hl] at hj
  have hq := h2 (j / 2) (by omega)
  have hg := pairCells_get (ps.take k) (j / 2) (by omega)
  have ht : (ps.take k)[j / 2]?.getD (0, 0) = ps[j / 2]?.getD (0, 0) := by rw [List.getElem?_take, if_pos (by omega)]
  rw [ht] at hg
  rw [Addr.add_lit]
  rcases Nat.mod_two_eq_zero_or_one j with h0 | h0
  · have e2 : j / 2 * 2 = j := by omega
    rw [e2] at hq hg
    rw [hg.1] at hu
    cases hu
    exact hq.1
  · have e2 : j / 2 * 2 + 1 = j := by omega
    rw [e2] at hg
    rw [hg.2] at hu
    cases hu
    have := hq.2
    rw [Nat.add_assoc, e2] at this
    exact this
theorem QRow.pairs {w : World} {base : Nat} {p : Option Addr} {m c : Nat} {ps : List (Int × Int)} (h : QRow w base 24 2 (.slice p m c) m (pairCells ps)) (hm : m = ps.length) : Pairs w p ps := fun hne => by
  have h0 := List.length_pos_iff.2 hne
  obtain ⟨b, o, cap, e, _, hb, _, _, hc, _⟩ := h.at (by omega)
  cases e
  refine ⟨b, o, rfl, hb, fun j hj => ?_⟩
  have := pairCells_get ps j hj
  exact ⟨(hc (j * 2) (by omega)).trans this.1, by rw [Nat.add_assoc]; exact (hc (j * 2 + 1) (by omega)).trans this.2⟩
theorem pairCells_append : ∀ (ps qs : List (Int × Int)), pairCells (ps ++ qs) = pairCells ps ++ pairCells qs
  | [], _ => rfl
  | p :: ps, qs => by show Value.int .i64 p.1 :: Value.int .i64 p.2 :: pairCells (ps ++ qs) = _; rw [pairCells_append ps qs]; rfl
end Go.Proofs.YtbioondlmgolkaaDoor
namespace Go.Proofs.YtbioondlmgolkaaDoor
open Go.RowKit Go.Shelf Go.Sort

/-- the comparison of two numbers of intervals -/
def cfB (ps : List (Int × Int)) (x y : Nat) : Int := cmpL [la ps (x % ps.length), ua ps (x % ps.length)] [la ps (y % ps.length), ua ps (y % ps.length)]
theorem cfB_lt (ps : List (Int × Int)) (x y : Nat) : ltOf (cfB ps) x y = true ↔ la ps (x % ps.length) < la ps (y % ps.length) ∨ (la ps (x % ps.length) = la ps (y % ps.length) ∧ ua ps (x % ps.length) < ua ps (y % ps.length)) := by
  unfold ltOf cfB cmpL cmpL cmpL
  rw [decide_eq_true_iff]
  generalize la ps (x % ps.length) = a
  generalize la ps (y % ps.length) = b
  generalize ua ps (x % ps.length) = c
  generalize ua ps (y % ps.length) = d
  split
  · simp; omega
  · split
    · simp; omega
    · split
      · simp; omega
      · split
        · simp; omega
        · simp; omega
theorem swoB (ps : List (Int × Int)) : SWO (ltOf (cfB ps)) where
  irrefl := fun x => by rw [Bool.eq_false_iff]; intro h; have := (cfB_lt ps x x).1 h; omega
  trans := fun x y z h1 h2 => by
    have h1 := (cfB_lt ps _ _).1 h1
    have h2 := (cfB_lt ps _ _).1 h2
    exact (cfB_lt ps _ _).2 (by omega)
  ntrans := fun x y z h1 h2 => by
    rw [Bool.eq_false_iff] at *
    intro h
    have h3 := (cfB_lt ps _ _).1 h
    have n1 := mt (cfB_lt ps x y).2 h1
    have n2 := mt (cfB_lt ps y z).2 h2
    omega
theorem os_of {ps : List (Int × Int)} {xs ys : List Nat} (hx : xs = List.range ps.length) (h4 : ys.Perm xs) (h5 : ∀ i j, i < j → j < ys.length → ltOf (cfB ps) (nth ys j) (nth ys i) = false) : OsP (la ps) ps.length ys := by
  subst hx
  have hlen : ys.length = ps.length := by rw [h4.length_eq, List.length_range]
  have hlt : ∀ k, k < ys.length → nthN ys k % ps.length = nthN ys k := fun k hk => by
    refine Nat.mod_eq_of_lt ?_
    unfold nthN
    rw [List.getElem?_eq_getElem hk]
    exact List.mem_range.1 (h4.mem_iff.1 (List.getElem_mem hk))
  refine ⟨h4, fun p q hpq hq => ?_⟩
  have h := h5 p q hpq hq
  rw [Bool.eq_false_iff] at h
  have n := fun h' => h ((cfB_lt ps _ _).2 h')
  change ¬ (la ps (nthN ys q % ps.length) < la ps (nthN ys p % ps.length) ∨ _) at n
  rw [hlt p (by omega), hlt q hq] at n
  omega
set_option maxRecDepth 100000 in
theorem cmpB_any (a : Option Addr) (cap b7 : Nat) (ps : List (Int × Int)) (x y : Nat) (w : World) (h7 : w.cell? ⟨b7, 0, none⟩ = some (.slice a ps.length cap)) (hP : Pairs w a ps) (h0 : ps.length ≠ 0) (hl : ps.length ≤ 1099511627776) :
    Calls Tryd.prog 15 #[.int .i64 ((x % ps.length : Nat) : Int), .int .i64 ((y % ps.length : Nat) : Int), .pointer (some ⟨b7, 0, none⟩)] w fun e w' => e = .returned (.int .i64 (cfB ps x y)) ∧ ∃ q, w' = w.drewN q := by
  have hx : x % ps.length < ps.length := Nat.mod_lt _ (by omega)
  have hy : y % ps.length < ps.length := Nat.mod_lt _ (by omega)
  have hc : cfB ps x y = cmpL [la ps (x % ps.length), ua ps (x % ps.length)] [la ps (y % ps.length), ua ps (y % ps.length)] := rfl
  rw [hc]
  clear hc
  generalize x % ps.length = i at *
  generalize y % ps.length = j at *
  obtain ⟨b, o, rfl, hb, k1, k2⟩ := hP.at hx
  obtain ⟨b', o', e', hb', k3, k4⟩ := hP.at hy
  cases e'
  have HC : Hid (∀ q, Calls Tryd.prog 16 #[.slice (some ⟨b, o + i * 2, none⟩) 2 2, .slice (some ⟨b, o + j * 2, none⟩) 2 2] (w.drewN q) fun e w' => e = .returned (.int .i64 (cmpL [la ps i, ua ps i] [la ps j, ua ps j])) ∧ w' = w.drewN q) := fun q =>
    compareL_any b (o + i * 2) b (o + j * 2) 2 2 [la ps i, ua ps i] [la ps j, ua ps j] (w.drewN q) 2 rfl rfl (by decide)
      (fun t ht => by rcases (show t = 0 ∨ t = 1 by omega) with rfl | rfl
                      · exact k1
                      · exact k2)
      (fun t ht => by rcases (show t = 0 ∨ t = 1 by omega) with rfl | rfl
                      · exact k3
                      · exact k4)
  generalize cmpL [la ps i, ua ps i] [la ps j, ua ps j] = c at *
  generalize ps.length = m at *
  have g1 : (i : Int) < (m : Int) := by omega
  have g2 : (j : Int) < (m : Int) := by omega
  clear hP k1 k2 k3 k4
  go_enter Tryd.func15, Tryd.ntmps15
  go_upto_region 1 with (fail)
  go_quiet ((go_at_call 16; exact Calls.quiet_of_same (HC.out _)))
  go_wp2
  go_ret
  exact ⟨rfl, _, rfl⟩
/-- how many of the first j intervals contain a number -/
def cntTo (l u : Nat → Int) (v : Int) : Nat → Nat
  | 0 => 0
  | j + 1 => cntTo l u v j + if l j ≤ v ∧ v ≤ u j then 1 else 0
theorem cntTo_le (l u : Nat → Int) (v : Int) : ∀ j, cntTo l u v j ≤ j
  | 0 => Nat.le_refl _
  | j + 1 => by have := cntTo_le l u v j; unfold cntTo; split <;> omega
theorem cntTo_all (l u : Nat → Int) (v : Int) : ∀ m, cntTo l u v m = cntAt l u m v
  | 0 => rfl
  | m + 1 => by
    unfold cntTo cntAt
    rw [cntTo_all l u v m, List.range_succ, List.filter_append, List.length_append]
    unfold cntAt
    congr 1
    by_cases h : l m ≤ v ∧ v ≤ u m
    · simp [h]
    · rw [if_neg h]
      symm
      rw [List.length_eq_zero_iff, List.filter_eq_nil_iff]
      intro x hx
      rw [List.mem_singleton] at hx
      subst hx
      simpa using h
end Go.Proofs.YtbioondlmgolkaaDoor
namespace Go.Proofs.YtbioondlmgolkaaDoor
open Go.RowKit Go.Shelf Go.Sort

theorem RowB.q {W : World} {B n base : Nat} {f : Nat → Int} (h : RowB W B n f) (hb : base ≤ B) (hn : n ≤ maxLen) : QRow W base 3 1 (.slice (some ⟨B, 0, none⟩) n n) n (ivI f n) := by
  obtain ⟨vs, h1, h2, h3⟩ := h
  refine ⟨by rw [ivI_len]; omega, .inr ⟨B, 0, n, vs, rfl, hb, h1, Nat.le_refl _, hn, by omega, fun j hj => ?_⟩⟩
  rw [Nat.zero_add, h3 j (by omega), ivI_get _ _ _ (by omega)]
theorem make_30 (n : Nat) (hn : n ≤ 20) : ∃ vs : Array Value, vs.size = n ∧ (∀ j, j < n → vs[j]? = some (.int .i64 0)) ∧
    ∀ W, Sem.run Tryd.prog (Instr.makeSlice 30 (.int .i64 (n : Int)) (.int .i64 (n : Int))) W = .ok (.slice (some ⟨W.heap.size, 0, none⟩) n n) (W.alloc (.cells vs 3)) := by
  obtain ⟨i0, hi, hz0, hz1, hz2⟩ := info_parts info3
  refine ⟨madeCells #[.int .i64 0] n, size_madeCells _ _, fun j hj => ?_, fun W => ?_⟩
  · rw [← Array.getElem?_toList, toList_madeCells_one, List.getElem?_replicate, if_pos hj]
  · have := run_make (P := Tryd.prog) W 30 3 i0 _ Tryd.underlying30 hi hz0 .i64 .i64 (n : Int) (n : Int) (by omega) (Int.le_refl _) (by rw [hz2]; omega) (by omega)
    rw [hz1, show (Value.int .i64 0).cells = #[.int .i64 0] from rfl] at this
    simpa using this
/-- what Boats answers -/
def BoatsA (ps : List (Int × Int)) (base : Nat) (e : Ending) (w' : World) : Prop :=
  (∃ c, e = .returned (.tuple #[.slice none 0 0, .int .i64 0, .int .i64 c]) ∧ CkI ps c ∧ c ≠ 0) ∨
  (∃ (B : Nat) (os : List Nat) (out : Nat → Nat) (most : Nat) (peak : Int), e = .returned (.tuple #[.slice (some ⟨B, 0, none⟩) ps.length ps.length, .int .i64 peak, .int .i64 0]) ∧ ivsOK ps ∧ OsP (la ps) ps.length os ∧
    BoatI (la ps) (ua ps) ps.length os ps.length out ∧ PkI (la ps) (ua ps) ps.length os ps.length peak most ∧ base ≤ B ∧ RowB w' B ps.length (fun x => (out x : Int)))
set_option maxRecDepth 100000 in
set_option maxHeartbeats 8000000 in
theorem Boats_any (a : Option Addr) (cap : Nat) (ps : List (Int × Int)) (w : World) (hl : ps.length ≤ 1099511627776) (hg : Pairs w a ps) :
    Calls Tryd.prog 7 #[.slice a ps.length cap] w fun e w' => BoatsA ps w.heap.size e w' ∧ Below w.heap.size w w' := by
  have HB0 : Hid (Below w.heap.size w (w.alloc (.cells #[.slice a ps.length cap] 22))) := (Below.refl _ _).alloc (Nat.le_refl _) _
  have HX0 : Hid (BoxN (w.alloc (.cells #[.slice a ps.length cap] 22)) w.heap.size 22 #[.slice a ps.length cap]) := BoxN.new rfl
  have HG0 := Lib.hid (hg.below HB0.out (Nat.le_refl _))
  have HCK := Lib.hid (checkIv_any a cap ps _ hl HG0.out)
  have hmm := @run_makeMap Tryd.prog
  obtain ⟨m, HL⟩ : ∃ m, Hid (ps.length = m) := ⟨_, rfl⟩
  rw [HL.out] at HCK HX0 hl ⊢
  have hs0 := Lib.hid (show (w.alloc (.cells #[.slice a ps.length cap] 22)).heap.size = w.heap.size + 1 by simp)
  try rw [HL.out] at hs0
  try rw [HL.out] at HB0
  try rw [HL.out] at HG0
  clear hg
  go_enter Tryd.func7, Tryd.ntmps7
  go_upto_region 1 with (fail)
  obtain ⟨b1, hb1⟩ : ∃ b1, Hid (b1 = w.heap.size) := ⟨_, rfl⟩
  rw [← hb1.out] at HX0 hs0
  simp only [← hb1.out]
  generalize w.alloc (.cells #[.slice a m cap] 22) = X at *
  have hbx : b1 < X.heap.size := HX0.out.lt
  have c0 := HX0.out.cell 0
  go_upto_region 2 with (go_at_call 13; refine HCK.out.mono ?_; rintro e w1 ⟨⟨c, rfl, hc⟩, hB1⟩; have HC := Lib.hid hc; have HB1 := Lib.hid hB1; clear hc hB1)
  have hwX : w.heap.size ≤ X.heap.size := HB0.out.size
  by_cases hc0 : c = 0
  · subst hc0
    have HOK : Hid (ivsOK ps) := by
      rcases HC.out with ⟨h, _⟩ | ⟨h, _⟩ | ⟨_, h⟩
      · cases h
      · cases h
      · exact h
    have hm1 : 1 ≤ m := by have := HOK.out.1; rw [HL.out] at this; exact this
    have hm12 : m ≤ 12 := by have := HOK.out.2.1; rw [HL.out] at this; exact this
    obtain ⟨ab, ao, ha, _⟩ := HG0.out.at (k := 0) (by rw [HL.out]; omega)
    subst ha
    have HX1 := Lib.hid (HX0.out.below HB1.out hbx)
    have c1 := HX1.out.cell 0
    obtain ⟨vs, hv1, hv2, hmk⟩ := make_30 m (by omega)
    have HR0 : Hid (RowB (w1.alloc (.cells vs 3)) w1.heap.size m (fun _ => 0)) := ⟨vs, BoxN.new rfl, hv1, hv2⟩
    have HB2 : Hid (Below w1.heap.size w1 (w1.alloc (.cells vs 3))) := (Below.refl _ _).alloc (Nat.le_refl _) _
    clear hv1 hv2 HC HCK
    go_upto_region 6 with (fail)
    obtain ⟨b6, hb6⟩ : ∃ b6, Hid (b6 = w1.heap.size) := ⟨_, rfl⟩
    rw [← hb6.out] at HR0
    simp only [← hb6.out]
    generalize w1.alloc (.cells vs 3) = X2 at *
    clear hmk
    have hX1 : X.heap.size ≤ w1.heap.size := HB1.out.size
    go_loopw [29] (fun s29 wr => ∃ k : Nat, k ≤ m ∧ s29 = .int .i64 (k : Int) ∧ RowB wr b6 m (fun j => if j < k then (j : Int) else 0) ∧ Hid (Ag (· = b6) X2 wr)) (fun s29 _ => m - (intOf s29).toNat)
    case atStart => exact ⟨0, by omega, rfl, HR0.out.congr fun x hx => by simp, Ag.refl _ _⟩
    case round =>
      obtain ⟨k, hk, rfl, hr, hA⟩ := hrel
      by_cases hkm : k < m
      · have g1 : (k : Int) < (m : Int) := by omega
        have g2 : (0 : Int) ≤ (k : Int) := by omega
        have hc := hr.cell hkm
        have hf := hr.frozen k
        have HN := Lib.hid ((hr.set hkm (k : Int)).congr (f' := fun j => if j < k + 1 then (j : Int) else 0) fun x hx => by
          by_cases e : x = k
          · subst e; simp
          · by_cases h : x < k
            · simp [e, h, show x < k + 1 by omega]
            · simp [e, h, show ¬ x < k + 1 by omega])
        have HA := Lib.hid (hA.out.set ⟨b6, k, none⟩ (.int .i64 (k : Int)) (.inr rfl))
        clear hr hA
        go_wp2
        exact ⟨⟨k + 1, by omega, int_eq (by omega), HN.out, HA⟩, by simp [intOf]; omega⟩
      · have g1 : ¬ (k : Int) < (m : Int) := by omega
        obtain rfl : m = k := by omega
        have hX2 : w1.heap.size ≤ X2.heap.size := HB2.out.size
        have HBm : Hid (Below w1.heap.size w1 wr) := hA.out.below HB2.out hX2 (fun kk hkk e => by have := hb6.out; omega)
        have hwm : w1.heap.size ≤ wr.heap.size := HBm.out.size
        have hxw1 : X.heap.size ≤ w1.heap.size := hX1
        have HPm : Hid (Pairs w1 (some ⟨ab, ao, none⟩) ps) := HG0.out.below HB1.out (Nat.le_refl _)
        obtain ⟨xs, hxs⟩ : ∃ xs, Hid (xs = List.range ps.length) := ⟨_, rfl⟩
        have hxl : xs.length = m := by rw [hxs.out, List.length_range, HL.out]
        have HQ0 : Hid (QRow wr w1.heap.size 3 1 (.slice (some ⟨b6, 0, none⟩) xs.length m) xs.length (iv xs)) := by
          have h1 := hr.q (base := w1.heap.size) (by rw [hb6.out]; exact Nat.le_refl _) (by unfold maxLen; omega)
          have h2 : ivI (fun j => if j < m then (j : Int) else 0) m = iv xs := by
            refine List.ext_getElem? fun i => ?_
            by_cases h : i < m
            · rw [ivI_get _ _ _ h, iv_get (by omega)]
              have : nth xs i = i := by rw [hxs.out, HL.out]; unfold nth; rw [List.getElem?_range h]; rfl
              rw [this]; simp [h]
            · rw [List.getElem?_eq_none (by rw [ivI_len]; omega), List.getElem?_eq_none (by rw [iv_length]; omega)]
          rw [h2] at h1
          rw [hxl]; exact h1
        have HSRT := Lib.hid (sortF_q 15 #[.pointer (some ⟨b1, 0, none⟩)] (fun x => .int .i64 ((x % ps.length : Nat) : Int)) (fun _ => rfl) (cfB ps) (swoB ps) (enters_of Tryd.func15 (by kernel_rfl) rfl) wr w1.heap.size (.slice (some ⟨b6, 0, none⟩) xs.length m) xs (fun x hx => by
            have : x < ps.length := by rw [hxs.out] at hx; exact List.mem_range.1 hx
            show Value.int .i64 ((x % ps.length : Nat) : Int) = _
            rw [Nat.mod_eq_of_lt this]) HQ0.out (by omega) (fun h0 W' hA' x y => by
            have hB' : Below w1.heap.size w1 W' := hA'.below HBm.out hwm (fun kk hkk e => by have e : b6 = kk := Option.some.inj e; have := hb6.out; omega)
            exact cmpB_any (some ⟨ab, ao, none⟩) cap b1 ps x y W' ((hB'.cell (p := ⟨b1, 0, none⟩) (by show b1 < _; omega)).trans (by rw [HL.out]; exact c1)) (HPm.out.below hB' (Nat.le_refl _)) (by rw [HL.out]; omega) (by rw [HL.out]; omega)))
        rw [hxl] at HSRT HQ0
        clear hr hA HR0 HQ0
        go_upto_region 11 with (go_at_call 14; refine HSRT.out.mono ?_; rintro e w5 ⟨rfl, ⟨ys, hperm, hsort, hq5⟩, hA5⟩; have HP5 := Lib.hid hperm; have HSO := Lib.hid hsort; have HQ5 := Lib.hid hq5; have HA5 := Lib.hid hA5; clear hperm hsort hq5 hA5)
        have HOS : Hid (OsP (la ps) m ys) := by have := os_of hxs.out HP5.out HSO.out; rw [HL.out] at this; exact this
        have HB5 : Hid (Below w1.heap.size w1 w5) := HA5.out.below HBm.out hwm (fun kk hkk e => by have e : b6 = kk := Option.some.inj e; have := hb6.out; omega)
        have hyl : ys.length = m := HOS.out.len
        clear HSRT HP5 HSO
        obtain ⟨vs2, hv1, hv2, hmk⟩ := make_30 m (by omega)
        have HR0 : Hid (RowB (w5.alloc (.cells vs2 3)) w5.heap.size m (fun _ => 0)) := ⟨vs2, BoxN.new rfl, hv1, hv2⟩
        have HB6 : Hid (Below w5.heap.size w5 (w5.alloc (.cells vs2 3))) := (Below.refl _ _).alloc (Nat.le_refl _) _
        have c5 := (HB5.out.cell (p := ⟨b1, 0, none⟩) (by show b1 < _; omega)).trans c1
        have hs6 := Lib.hid (show (w5.alloc (.cells vs2 3)).heap.size = w5.heap.size + 1 by simp)
        clear hv1 hv2 c0 c1
        go_upto_region 14 with (fail)
        obtain ⟨b8, hb8⟩ : ∃ b8, Hid (b8 = w5.heap.size) := ⟨_, rfl⟩
        rw [← hb8.out] at HR0 HB6 hs6
        simp only [← hb8.out]
        generalize w5.alloc (.cells vs2 3) = w6 at *
        clear hmk
        have h15 : w1.heap.size ≤ b8 := by rw [hb8.out]; exact HB5.out.size
        have h6 : b8 < w6.heap.size := by rw [hs6.out]; omega
        have HC1 : Hid (∀ W, Below b8 w6 W → W.cell? ⟨b1, 0, none⟩ = some (.slice (some ⟨ab, ao, none⟩) m cap)) := fun W hW => (hW.cell (p := ⟨b1, 0, none⟩) (by show b1 < _; omega)).trans ((HB6.out.cell (p := ⟨b1, 0, none⟩) (by show b1 < _; omega)).trans c5)
        have HPS : Hid (∀ W, Below b8 w6 W → ∀ k, k < m → W.cell? ⟨ab, ao + k * 2, none⟩ = some (.int .i64 (la ps k)) ∧ W.cell? ⟨ab, ao + k * 2 + 1, none⟩ = some (.int .i64 (ua ps k))) := fun W hW k hk => by
          have h1 := HPm.out.below (HB5.out.trans ((HB6.out.trans hW).mono h15)) (Nat.le_refl _)
          obtain ⟨b, o, e0, _, h2, h3⟩ := h1.at (k := k) (by rw [HL.out]; exact hk)
          cases e0
          exact ⟨h2, h3⟩
        have HYS : Hid (∀ W, Below b8 w6 W → ∀ k, k < m → W.cell? ⟨b6, k, none⟩ = some (.int .i64 (nthN ys k : Nat))) := fun W hW k hk => by
          obtain ⟨b, o, cp, e, _, hb, _, _, hc, _⟩ := HQ5.out.at (by omega)
          cases e
          have h1 := hc k (by omega)
          rw [iv_get (by omega), Nat.zero_add] at h1
          refine (hW.cell (p := ⟨b6, k, none⟩) (by show b6 < _; rw [hb8.out]; exact hb)).trans ((HB6.out.cell (p := ⟨b6, k, none⟩) (by show b6 < _; rw [hb8.out]; exact hb)).trans ?_)
          exact h1
        have HBW : Hid (∀ W, Below b8 w6 W → Below w.heap.size w W) := fun W hW => HB0.out.trans ((HB1.out.mono hwX).trans ((HB5.out.mono (by omega)).trans ((HB6.out.trans hW).mono (by omega))))
        have HLU : Hid (∀ x, x < m → la ps x ≤ ua ps x) := fun x hx => HOK.out.2.2 x (by rw [HL.out]; exact hx)
        clear HB0 HB1 HB2 HBm HPm HA5 HQ5 hxs HX0 HX1 HG0 c5
        go_loopw [45, 9, 10] (fun s45 s9 s10 wr => ∃ (k : Nat) (out : Nat → Nat) (most : Nat) (peak : Int), k ≤ m ∧ s45 = .int .i64 (k : Int) ∧ s9 = .int .i64 peak ∧ s10 = .int .i64 (most : Int) ∧ RowB wr b8 m (fun x => (out x : Int)) ∧ Hid (∀ q, k ≤ q → q < m → out (nthN ys q) = 0) ∧ Hid (BoatI (la ps) (ua ps) m ys k out) ∧ Hid (PkI (la ps) (ua ps) m ys k peak most) ∧ Hid (Below b8 w6 wr)) (fun s45 _ _ _ => m - (intOf s45).toNat)
        case atStart => exact ⟨0, fun _ => 0, 0, 0, by omega, rfl, rfl, rfl, HR0.out, fun _ _ _ => rfl, ⟨fun p q _ h => by omega, fun q h => by omega⟩, ⟨fun _ => ⟨rfl, rfl⟩, fun h => by omega, fun q h => by omega⟩, Below.refl _ _⟩
        case round =>
          obtain ⟨k, out, most, peak, hk, rfl, rfl, rfl, hR, hz, hBI, hPK, hB⟩ := hrel
          by_cases hkm : k < m
          · have g1 : (k : Int) < (m : Int) := by omega
            have g2 : (0 : Int) ≤ (k : Int) := by omega
            have y1 := HYS.out wr hB.out k hkm
            have HXM := Lib.hid (HOS.out.lt hkm)
            have HOB := Lib.hid (hz.out k (Nat.le_refl _) hkm)
            obtain ⟨x, hx⟩ : ∃ x, Hid (x = nthN ys k) := ⟨_, rfl⟩
            rw [← hx.out] at y1 HXM HOB
            have h6r : w6.heap.size ≤ wr.heap.size := hB.out.size
            have HM0 : Hid (MapG kvN bvB (wr.alloc (.map #[] 0)) wr.heap.size (fun _ => none)) := MapG.made wr
            have HB7 : Hid (Below wr.heap.size wr (wr.alloc (.map #[] 0))) := (Below.refl _ _).alloc (Nat.le_refl _) _
            obtain ⟨wo, hwo⟩ : ∃ wo, Hid (wo = wr) := ⟨_, rfl⟩
            rw [← hwo.out] at hR hB y1 h6r HM0 HB7 ⊢
            have HR := Lib.hid (hR.below HB7.out hR.lt)
            clear hwo hR
            go_upto_region 18 with (fail)
            obtain ⟨M, hM⟩ : ∃ M, Hid (M = wo.heap.size) := ⟨_, rfl⟩
            rw [← hM.out] at HM0
            simp only [← hM.out]
            have HBX := Lib.hid (hB.out.trans (HB7.out.mono (by omega)))
            generalize wo.alloc (.map #[] 0) = X7 at *
            have hMX : M < X7.heap.size := HM0.out.lt
            have hbM : b8 < M := by have := hM.out; omega
            clear hB y1
            go_loopw [55] (fun s55 wq => ∃ (j : Nat) (col : Nat → Option Bool), j ≤ k ∧ s55 = .int .i64 (j : Int) ∧ Hid (MapG kvN bvB wq M col) ∧ Hid (∀ c b, col c = some b ↔ b = true ∧ ∃ q, q < j ∧ la ps x ≤ ua ps (nthN ys q) ∧ out (nthN ys q) = c) ∧ Hid (Ag (· = M) X7 wq)) (fun s55 _ => k - (intOf s55).toNat)
            case atStart => exact ⟨0, _, by omega, rfl, HM0, (fun c b => ⟨(fun h => by cases h), fun h => by obtain ⟨_, q, hq, _⟩ := h; omega⟩), Ag.refl _ _⟩
            case round =>
              obtain ⟨j, col, hj, rfl, hMW, hcol, hA⟩ := hrel
              have HBQ : Hid (Below b8 w6 wr) := hA.out.below HBX.out (by omega) (fun kk hkk e => by omega)
              have HRQ := Lib.hid (HR.out.ag hA.out (by omega))
              by_cases hjk : j < k
              · have g3 : (j : Int) < (k : Int) := by omega
                have g4 : (0 : Int) ≤ (j : Int) := by omega
                have g5 : (j : Int) < (m : Int) := by omega
                have y2 := HYS.out wr HBQ.out j (by omega)
                have hym := HOS.out.lt (k := j) (by omega)
                have hcolN : Hid (∀ cc b, (if la ps x ≤ ua ps (nthN ys j) then setF col (out (nthN ys j)) (some true) else col) cc = some b ↔ b = true ∧ ∃ q, q < j + 1 ∧ la ps x ≤ ua ps (nthN ys q) ∧ out (nthN ys q) = cc) := fun cc b => by
                  have hc := hcol.out cc b
                  by_cases hle : la ps x ≤ ua ps (nthN ys j)
                  · rw [if_pos hle]
                    unfold setF
                    by_cases e : cc = out (nthN ys j)
                    · rw [if_pos e]
                      constructor
                      · intro h; cases h; exact ⟨rfl, j, by omega, hle, e.symm⟩
                      · rintro ⟨rfl, _⟩; rfl
                    · rw [if_neg e, hc]
                      constructor
                      · rintro ⟨h1, q, h2, h3⟩; exact ⟨h1, q, by omega, h3⟩
                      · rintro ⟨h1, q, h2, h3, h4⟩
                        refine ⟨h1, q, ?_, h3, h4⟩
                        rcases Nat.lt_or_eq_of_le (Nat.le_of_lt_succ h2) with h5 | h5
                        · exact h5
                        · subst h5; exact absurd h4.symm e
                  · rw [if_neg hle, hc]
                    constructor
                    · rintro ⟨h1, q, h2, h3⟩; exact ⟨h1, q, by omega, h3⟩
                    · rintro ⟨h1, q, h2, h3, h4⟩
                      refine ⟨h1, q, ?_, h3, h4⟩
                      rcases Nat.lt_or_eq_of_le (Nat.le_of_lt_succ h2) with h5 | h5
                      · exact h5
                      · subst h5; exact absurd h3 hle
                obtain ⟨y, hy⟩ : ∃ y, Hid (y = nthN ys j) := ⟨_, rfl⟩
                rw [← hy.out] at y2 hym hcolN
                obtain ⟨p1, p2⟩ := HPS.out wr HBQ.out y hym
                obtain ⟨p3, p4⟩ := HPS.out wr HBQ.out x HXM.out
                have bx1 := HC1.out wr HBQ.out
                have r1 := HRQ.out.cell hym
                have gx : (x : Int) < (m : Int) := by have := HXM.out; omega
                have gy : (y : Int) < (m : Int) := by omega
                have gx0 : (0 : Int) ≤ (x : Int) := by omega
                have gy0 : (0 : Int) ≤ (y : Int) := by omega
                clear p1 p4 hcol
                generalize la ps x = lx at *
                generalize ua ps y = uy at *
                generalize out y = oy at *
                by_cases hle : lx ≤ uy
                · rw [if_pos hle] at hcolN
                  have HD := Lib.hid hle
                  go_wp2
                  go_quiet (fail)
                  have HMN := Lib.hid (hMW.out.kept (W' := wr.drewN nq) rfl)
                  have HAN := Lib.hid (hA.out.drewN nq)
                  go_wp2_with (refine wpList_store_g kind50 rfl (.tmp 70) (.tmp 74) (.const (.bool true)) rfl M col oy true rfl rfl rfl HMN.out ?_; intro w8 hM8 hg8; have HM8 := Lib.hid hM8; have HA8 := Lib.hid (HAN.out.grown hg8 (fun kk e => by cases e; exact .inr rfl)); clear hM8 hg8)
                  exact ⟨⟨j + 1, _, by omega, int_eq (by omega), HM8, hcolN, HA8⟩, by simp [intOf]; omega⟩
                · rw [if_neg hle] at hcolN
                  go_wp2
                  go_quiet (fail)
                  have HMN := Lib.hid (hMW.out.kept (W' := wr.drewN nq) rfl)
                  have HAN := Lib.hid (hA.out.drewN nq)
                  go_wp2
                  exact ⟨⟨j + 1, _, by omega, int_eq (by omega), HMN, hcolN, HAN⟩, by simp [intOf]; omega⟩
              · have g3 : ¬ (j : Int) < (k : Int) := by omega
                obtain rfl : k = j := by omega
                obtain ⟨lx, hlx⟩ : ∃ lx, Hid (lx = la ps x) := ⟨_, rfl⟩
                rw [← hlx.out] at hcol
                have hrm : w6.heap.size ≤ wr.heap.size := HBQ.out.size
                have hMr : M < wr.heap.size := hMW.out.lt
                have gx : (x : Int) < (m : Int) := by have := HXM.out; omega
                have gx0 : (0 : Int) ≤ (x : Int) := by omega
                obtain ⟨wk, hwk⟩ : ∃ wk, Hid (wk = wr) := ⟨_, rfl⟩
                rw [← hwk.out] at hMW HRQ HBQ hrm hMr ⊢
                clear hwk hA HM0 HR HBX hMX
                go_upto_region 23 with (fail)
                have HR80 : Hid (RowB wk b8 m (fun y => ((if y = x then 0 else out y : Nat) : Int))) := HRQ.out.congr fun y hy => by
                  by_cases e : y = x
                  · subst e; rw [HOB.out]; simp
                  · simp [e]
                clear HRQ
                go_loopg [80] (k + 1) (fun gk s80 wq => ∃ c : Nat, Hid (∀ c', c' < c → ∃ q, q < k ∧ lx ≤ ua ps (nthN ys q) ∧ out (nthN ys q) = c') ∧ RowB wq b8 m (fun y => ((if y = x then c else out y : Nat) : Int)) ∧ Hid (Ag (· = b8) wk wq) ∧ k + 1 ≤ gk + c ∧ c ≤ k)
                case atStart => exact ⟨0, (fun c' h => by omega), HR80.out, Ag.refl _ _, by omega, by omega⟩
                case round =>
                  clear HR80
                  obtain ⟨c, hbz, hRW, hA, hgk, hck⟩ := hrel
                  have hMQ := Lib.hid (hMW.out.kept (hA.out.block M hMr (by omega)))
                  have hcx := hRW.cell HXM.out
                  rw [if_pos rfl] at hcx
                  have hfx := hRW.frozen x
                  have l1 : (Instr.lookup 50 (.map (some M)) (.int .i64 (c : Int)) false).run Tryd.prog wr = .ok (.bool ((col c).getD false)) wr := look_g kind50 false c wr M col hMQ.out
                  by_cases hb : ∃ q, q < k ∧ lx ≤ ua ps (nthN ys q) ∧ out (nthN ys q) = c
                  · have hc1 : col c = some true := (hcol.out c true).2 ⟨rfl, hb⟩
                    rw [hc1] at l1
                    have hbz2 : Hid (∀ c', c' < c + 1 → ∃ q, q < k ∧ lx ≤ ua ps (nthN ys q) ∧ out (nthN ys q) = c') := fun c' h => by
                      by_cases e : c' = c
                      · subst e; exact hb
                      · exact hbz.out c' (by omega)
                    have hck2 : c + 1 ≤ k := by
                      have h1 := nodup_in (List.range (c + 1)) ((List.range k).map fun q => out (nthN ys q)) List.nodup_range fun c' h => by
                        obtain ⟨q, h1, h2, h3⟩ := hbz2.out c' (List.mem_range.1 h)
                        exact List.mem_map.2 ⟨q, List.mem_range.2 h1, h3⟩
                      simpa using h1
                    have HRN := Lib.hid ((hRW.set HXM.out ((c + 1 : Nat) : Int)).congr (f' := fun y => ((if y = x then c + 1 else out y : Nat) : Int)) fun y hy => by
                      by_cases e : y = x
                      · simp [e]
                      · simp [e])
                    have HAN := Lib.hid (hA.out.set ⟨b8, x, none⟩ (.int .i64 ((c + 1 : Nat) : Int)) (.inr rfl))
                    clear hRW hb hc1 hA
                    go_wp2
                    go_roundg (gk - 1)
                    case measure => omega
                    case rel => exact ⟨c + 1, hbz2, HRN.out, HAN, by omega, hck2⟩
                  · have hc1 : (col c).getD false = false := by
                      cases h : col c with
                      | none => rfl
                      | some b => exact absurd ((hcol.out c b).1 h).2 hb
                    rw [hc1] at l1
                    have HFREE := Lib.hid hb
                    clear hb hc1
                    have HBR : Hid (Below b8 w6 wr) := hA.out.below HBQ.out (by omega) (fun kk hkk e => by omega)
                    have HRW := Lib.hid hRW
                    have c1 := HC1.out wr HBR.out
                    have h6w : w6.heap.size ≤ wr.heap.size := HBR.out.size
                    obtain ⟨wn, hwn⟩ : ∃ wn, Hid (wn = wr) := ⟨_, rfl⟩
                    rw [← hwn.out] at HBR HRW hcx hfx l1 c1 h6w ⊢
                    clear hwn hRW hA hMQ
                    go_upto_region 27 with (fail)
                    clear l1 hcx hfx c1
                    go_loopw [90, 16] (fun s90 s16 wq => ∃ j : Nat, j ≤ m ∧ s90 = .int .i64 (j : Int) ∧ s16 = .int .i64 (cntTo (la ps) (ua ps) lx j : Nat) ∧ Hid (Below wn.heap.size wn wq)) (fun s90 _ _ => m - (intOf s90).toNat)
                    case atStart => exact ⟨0, by omega, rfl, rfl, Below.refl _ _⟩
                    case round =>
                      obtain ⟨j, hj, rfl, rfl, hB⟩ := hrel
                      have HBQ2 : Hid (Below b8 w6 wr) := HBR.out.trans (hB.out.mono (by omega))
                      have hnr : wn.heap.size ≤ wr.heap.size := hB.out.size
                      have c1 := HC1.out wr HBQ2.out
                      obtain ⟨p3, p4⟩ := HPS.out wr HBQ2.out x HXM.out
                      rw [← hlx.out] at p3
                      by_cases hjm : j < m
                      · have g3 : (j : Int) < (m : Int) := by omega
                        have g4 : (0 : Int) ≤ (j : Int) := by omega
                        obtain ⟨p1, p2⟩ := HPS.out wr HBQ2.out j hjm
                        have hct : Hid (cntTo (la ps) (ua ps) lx (j + 1) = cntTo (la ps) (ua ps) lx j + if la ps j ≤ lx ∧ lx ≤ ua ps j then 1 else 0) := rfl
                        have hcl := cntTo_le (la ps) (ua ps) lx j
                        generalize la ps j = lj at *
                        generalize ua ps j = uj at *
                        have HBX := Lib.hid (hB.out.alloc hnr (.cells #[.int .i64 lj, .int .i64 uj] 24))
                        have HBB : Hid (BoxN (wr.alloc (.cells #[.int .i64 lj, .int .i64 uj] 24)) wr.heap.size 24 #[.int .i64 lj, .int .i64 uj]) := BoxN.new rfl
                        have HBY : Hid (Below b8 w6 (wr.alloc (.cells #[.int .i64 lj, .int .i64 uj] 24))) := HBQ2.out.alloc (by omega) _
                        clear p4 hB
                        go_upto_region 29 with (fail)
                        obtain ⟨bq, hbq⟩ : ∃ bq, Hid (bq = wr.heap.size) := ⟨_, rfl⟩
                        rw [← hbq.out] at HBB
                        simp only [← hbq.out]
                        generalize wr.alloc (.cells #[.int .i64 lj, .int .i64 uj] 24) = Y at *
                        clear c1 p3 p1 p2
                        have c1 := HC1.out Y HBY.out
                        obtain ⟨p3, p4⟩ := HPS.out Y HBY.out x HXM.out
                        rw [← hlx.out] at p3
                        have d0 := HBB.out.cell 0
                        have d1 := HBB.out.cell 1
                        clear p4
                        have hcm : cntTo (la ps) (ua ps) lx j < 1048576 := by omega
                        generalize cntTo (la ps) (ua ps) lx j = cj at *
                        by_cases h1 : lj ≤ lx
                        · have e1 : decide (lj ≤ lx) = true := by simpa using h1
                          by_cases h2 : lx ≤ uj
                          · have HN : Hid (cntTo (la ps) (ua ps) lx (j + 1) = cj + 1) := by rw [hct.out, if_pos ⟨h1, h2⟩]; rfl
                            go_quiet (fail)
                            go_wp2
                            exact ⟨⟨j + 1, by omega, int_eq (by omega), by rw [HN.out]; exact int_eq (by omega), below_dr HBX.out _⟩, by simp [intOf]; omega⟩
                          · have HN : Hid (cntTo (la ps) (ua ps) lx (j + 1) = cj) := by rw [hct.out, if_neg (fun h => h2 h.2)]; rfl
                            go_quiet (fail)
                            go_wp2
                            exact ⟨⟨j + 1, by omega, int_eq (by omega), by rw [HN.out], below_dr HBX.out _⟩, by simp [intOf]; omega⟩
                        · have e1 : decide (lj ≤ lx) = false := by simpa using h1
                          have HN : Hid (cntTo (la ps) (ua ps) lx (j + 1) = cj) := by rw [hct.out, if_neg (fun h => h1 h.1)]; rfl
                          go_quiet (fail)
                          go_wp2
                          exact ⟨⟨j + 1, by omega, int_eq (by omega), by rw [HN.out], below_dr HBX.out _⟩, by simp [intOf]; omega⟩
                      · have g3 : ¬ (j : Int) < (m : Int) := by omega
                        obtain rfl : m = j := by omega
                        have hct := cntTo_all (la ps) (ua ps) lx m
                        have HRF := Lib.hid (HRW.out.below hB.out HRW.out.lt)
                        have HZ2 : Hid (∀ q, k + 1 ≤ q → q < m → (fun y => if y = x then c else out y) (nthN ys q) = 0) := fun q h1 h2 => by
                          show (if nthN ys q = x then c else out (nthN ys q)) = 0
                          rw [if_neg (fun e => by rw [hx.out] at e; have := HOS.out.inj h2 hkm e; omega)]
                          exact hz.out q (by omega) h2
                        have HB2 : Hid (BoatI (la ps) (ua ps) m ys (k + 1) (fun y => if y = x then c else out y)) := by
                          refine hBI.out.step HOS.out HLU.out hkm c (fun q h1 => ?_) ?_ (fun q h1 h2 e => HFREE.out ⟨q, h1, by rw [hlx.out, hx.out]; exact h2, e⟩) (fun c' h1 => ?_)
                          · show (if nthN ys q = x then c else out (nthN ys q)) = _
                            rw [if_neg (fun e => by rw [hx.out] at e; have := HOS.out.inj (by omega) hkm e; omega)]
                          · show (if nthN ys k = x then c else out (nthN ys k)) = c
                            rw [if_pos hx.out.symm]
                          · obtain ⟨q, h2, h3, h4⟩ := hbz.out c' h1
                            exact ⟨q, h2, by rw [← hx.out, ← hlx.out]; exact h3, h4⟩
                        have HPM : Hid (most < cntTo (la ps) (ua ps) lx m → PkI (la ps) (ua ps) m ys (k + 1) lx (cntTo (la ps) (ua ps) lx m)) := fun h => by
                          rw [hct] at h ⊢
                          have := hPK.out.more (by rw [← hx.out, ← hlx.out]; exact h)
                          rw [← hx.out, ← hlx.out] at this
                          exact this
                        have HPN : Hid (¬ most < cntTo (la ps) (ua ps) lx m → PkI (la ps) (ua ps) m ys (k + 1) peak most) := fun h => by
                          rw [hct] at h
                          exact hPK.out.keep HOS.out HLU.out hkm (by rw [← hx.out, ← hlx.out]; exact h)
                        clear hct p4 hB
                        generalize cntTo (la ps) (ua ps) lx m = cm at *
                        by_cases hmo : most < cm
                        · have HP := Lib.hid (HPM.out hmo)
                          have e1 : (most : Int) < (cm : Int) := by omega
                          clear HPM HPN
                          go_wp2
                          exact ⟨⟨k + 1, _, cm, lx, by omega, int_eq (by omega), rfl, rfl, HRF.out, HZ2, HB2, HP, HBQ2⟩, by simp [intOf]; omega⟩
                        · have HP := Lib.hid (HPN.out hmo)
                          have e1 : ¬ (most : Int) < (cm : Int) := by omega
                          clear HPM HPN
                          go_wp2
                          exact ⟨⟨k + 1, _, most, peak, by omega, int_eq (by omega), rfl, rfl, HRF.out, HZ2, HB2, HP, HBQ2⟩, by simp [intOf]; omega⟩
          · have g1 : ¬ (k : Int) < (m : Int) := by omega
            obtain rfl : m = k := by omega
            go_wp2
            refine bodyPost_ret (v := .tuple #[.slice (some ⟨b8, 0, none⟩) m m, .int .i64 peak, .int .i64 0]) (by simp [results, Tryd.f7, go_sem]) rfl ?_
            refine ⟨.inr ⟨b8, ys, out, most, peak, ?_⟩, HBW.out wr hB.out⟩
            rw [HL.out]
            exact ⟨rfl, HOK.out, HOS.out, hBI.out, hPK.out, by omega, hR⟩
  · have g1 : (c != 0) = true := by rw [bne_iff_ne]; exact hc0
    go_wp2
    refine bodyPost_ret (v := .tuple #[.slice none 0 0, .int .i64 0, .int .i64 c]) (by simp [results, Tryd.f7, go_sem]) rfl ?_
    exact ⟨.inl ⟨c, rfl, HC.out, hc0⟩, HB0.out.trans (HB1.out.mono hwX)⟩
end Go.Proofs.YtbioondlmgolkaaDoor
namespace Go.Proofs.YtbioondlmgolkaaDoor
open Go.RowKit Go.Shelf

def relI (ps : List (Int × Int)) (x y : Nat) : Bool := decide (ua ps x < la ps y)
theorem info4 : (Tryd.prog.info? 4).map (fun i => (i.zero, i.size, i.bytes)) = some (some (.bool false), 1, 1) := by kernel_rfl
theorem info34 : (Tryd.prog.info? 34).map (fun i => (i.zero, i.size, i.bytes)) = some (some (.slice none 0 0), 1, 24) := by kernel_rfl
theorem under34 : Tryd.prog.underlying 34 = some (.slice 4) := by kernel_rfl
theorem under26 : Tryd.prog.underlying 26 = some (.slice 34) := by kernel_rfl
set_option maxRecDepth 100000 in
set_option maxHeartbeats 4000000 in
theorem FromIv_any (a : Option Addr) (cap : Nat) (ps : List (Int × Int)) (w : World) (hl : ps.length ≤ 1099511627776) (hg : Pairs w a ps) :
    Calls Tryd.prog 6 #[.slice a ps.length cap] w fun e w' => ((∃ c : Int, e = .returned (.tuple #[.slice none 0 0, .int .i64 c]) ∧ CkI ps c ∧ c ≠ 0) ∨ (∃ v, e = .returned (.tuple #[v, .int .i64 0]) ∧ ivsOK ps ∧ TRow w' w.heap.size v ps.length (fun _ => ps.length) (relI ps))) ∧ Below w.heap.size w w' := by
  obtain ⟨i0, hi0, hz0, hz1, hz2⟩ := info_parts info4
  obtain ⟨i1, hi1, hy0, hy1, hy2⟩ := info_parts info34
  have HCK := Lib.hid (checkIv_any a cap ps w hl hg)
  have HG := Lib.hid hg
  clear hg
  obtain ⟨len, HL⟩ : ∃ len, Hid (ps.length = len) := ⟨_, rfl⟩
  rw [HL.out] at hl HCK ⊢
  go_enter Tryd.func6, Tryd.ntmps6
  go_upto_region 2 with (go_at_call 13; refine HCK.out.mono ?_; rintro e w1 ⟨⟨c, rfl, hc⟩, hB1⟩; have HC := Lib.hid hc; have HB1 := Lib.hid hB1; clear hc hB1)
  by_cases hc0 : c = 0
  · subst hc0
    have HOK : Hid (ivsOK ps) := by
      rcases HC.out with ⟨h, _⟩ | ⟨h, _⟩ | ⟨_, h⟩
      · cases h
      · cases h
      · exact h
    have hsz : w.heap.size ≤ w1.heap.size := HB1.out.size
    have HGW := Lib.hid (HG.out.below HB1.out (Nat.le_refl _))
    clear HC HCK HG
    go_upto_region 6 with (fail)
    go_loopw [5, 18] (fun s5 s18 wr => ∃ i : Nat, i ≤ len ∧ s18 = .int .i64 (i : Int) ∧ TRow wr w1.heap.size s5 i (fun _ => len) (relI ps) ∧ Hid (Below w1.heap.size w1 wr)) (fun _ s18 _ => len - (intOf s18).toNat)
    case atStart => exact ⟨0, by omega, rfl, TRow.nil _ _ _ _, Below.refl _ _⟩
    case round =>
      obtain ⟨i, hil, rfl, hT, hB⟩ := hrel
      by_cases hi : i < len
      · have g1 : (i : Int) < (len : Int) := by omega
        have g0 : (0 : Int) ≤ (i : Int) := by omega
        have hsw : w1.heap.size ≤ wr.heap.size := hB.out.size
        obtain ⟨b, o, rfl, hb, k1, k2⟩ := HGW.out.at (k := i) (by rw [HL.out]; exact hi)
        have r1 := (hB.out.cell (p := ⟨b, o + i * 2, none⟩) hb).trans k1
        have r2 := (hB.out.cell (p := ⟨b, o + i * 2 + 1, none⟩) hb).trans k2
        obtain ⟨x0, hx0⟩ : ∃ x0, Hid (x0 = la ps i) := ⟨_, rfl⟩
        obtain ⟨x1, hx1⟩ : ∃ x1, Hid (x1 = ua ps i) := ⟨_, rfl⟩
        rw [← hx0.out] at r1
        rw [← hx1.out] at r2
        obtain ⟨wo, hwo⟩ : ∃ wo, Hid (wo = wr) := ⟨_, rfl⟩
        rw [← hwo.out] at hT hB r1 r2 hsw ⊢
        clear hwo k1 k2
        go_upto_region 10 with (fail)
        have HBX : Hid (BoxN (wo.alloc (.cells #[.int .i64 x0, .int .i64 x1] 24)) wo.heap.size 24 #[.int .i64 x0, .int .i64 x1]) := BoxN.new rfl
        have HXB : Hid (Below wo.heap.size wo (wo.alloc (.cells #[.int .i64 x0, .int .i64 x1] 24))) := (Below.refl _ _).alloc (Nat.le_refl _) _
        obtain ⟨bx, hbx⟩ : ∃ bx, Hid (bx = wo.heap.size) := ⟨_, rfl⟩
        rw [← hbx.out] at HBX
        simp only [← hbx.out]
        generalize wo.alloc (.cells #[.int .i64 x0, .int .i64 x1] 24) = X at *
        have HTX := Lib.hid (hT.below HXB.out (Nat.le_refl _))
        clear hT r1 r2
        have hox : wo.heap.size ≤ X.heap.size := HXB.out.size
        go_loopw [8, 24] (fun s8 s24 wq => ∃ j : Nat, j ≤ len ∧ s24 = .int .i64 (j : Int) ∧ QRow wq X.heap.size 4 1 s8 j (bv (relI ps i) j) ∧ Hid (Below X.heap.size X wq)) (fun _ s24 _ => len - (intOf s24).toNat)
        case atStart => exact ⟨0, by omega, rfl, QRow.nil _ _ _ _, Below.refl _ _⟩
        case round =>
          obtain ⟨j, hjl, rfl, hq, hB2⟩ := hrel
          by_cases hj : j < len
          · have g2 : (j : Int) < (len : Int) := by omega
            have g3 : (0 : Int) ≤ (j : Int) := by omega
            have hXw : X.heap.size ≤ wr.heap.size := hB2.out.size
            have HWR := Lib.hid (hB.out.trans ((HXB.out.trans (hB2.out.mono hox)).mono hsw))
            obtain ⟨b', o', e', hb', k1, k2⟩ := HGW.out.at (k := j) (by rw [HL.out]; exact hj)
            cases e'
            have q1 := (HWR.out.cell (p := ⟨b, o + j * 2, none⟩) hb).trans k1
            have q2 := (HWR.out.cell (p := ⟨b, o + j * 2 + 1, none⟩) hb).trans k2
            have hbxW := HBX.out.below hB2.out HBX.out.lt
            have hx := hbxW.cell 1
            obtain ⟨y0, hya⟩ : ∃ y0, Hid (y0 = la ps j) := ⟨_, rfl⟩
            obtain ⟨y1, hyb⟩ : ∃ y1, Hid (y1 = ua ps j) := ⟨_, rfl⟩
            rw [← hya.out] at q1
            rw [← hyb.out] at q2
            have HSN : Hid (bv (relI ps i) (j + 1) = bv (relI ps i) j ++ [.bool (decide (x1 < y0))]) := by rw [hx1.out, hya.out]; exact bv_snoc _ _
            have HBY := Lib.hid (hB2.out.alloc hXw (.cells #[.int .i64 y0, .int .i64 y1] 24))
            have HQY := Lib.hid (hq.alloc (.cells #[.int .i64 y0, .int .i64 y1] 24))
            have hby : BoxN (wr.alloc (.cells #[.int .i64 y0, .int .i64 y1] 24)) wr.heap.size 24 #[.int .i64 y0, .int .i64 y1] := BoxN.new rfl
            have HXY := Lib.hid (hbxW.alloc (.cells #[.int .i64 y0, .int .i64 y1] 24))
            have HYC := Lib.hid (hby.cell 0)
            have HLT := Lib.hid (fun kk (e : _ = some kk) => (hq.lt kk e).1)
            clear k1 k2 hx hbxW hby HWR
            go_upto_region 12 with (fail)
            have hx := HXY.out.cell 1
            have hy := HYC.out
            clear q1 q2
            obtain ⟨by_, hbye⟩ : ∃ by_, Hid (by_ = wr.heap.size) := ⟨_, rfl⟩
            rw [← hbye.out] at hy
            simp only [← hbye.out]
            have hXY : X.heap.size ≤ (wr.alloc (.cells #[.int .i64 y0, .int .i64 y1] 24)).heap.size := HBY.out.size
            generalize wr.alloc (.cells #[.int .i64 y0, .int .i64 y1] 24) = Y at *
            have HQA := Lib.hid (HQY.out.alloc (.cells #[.bool (decide (x1 < y0))] 4))
            clear hq
            go_wp2_with (at_builtin; go_must (refine wpList_append_q _ rfl (.tmp 28) (.tmp 34) 34 rfl X.heap.size 4 i0 (.bool false) 1 1 under34 hi0 hz0 hz1 hz2 rfl (by decide) _ j (bv (relI ps i) j) rfl HQA.out ⟨_, 0, none⟩ 1 1 [.bool (decide (x1 < y0))] rfl rfl (cells_new1 _ _ _) (by simp [Value.oneCell']) (by unfold maxLen; omega) (by omega) (by simp; omega) ?_); intro v7 w7 hq7 hg7 ho7; have HQ7 : Hid (QRow w7 X.heap.size 4 1 v7 (j + 1) (bv (relI ps i) (j + 1))) := (by rw [HSN.out]; exact hq7); have HB7 : Hid (Below X.heap.size X w7) := Below.grown (HBY.out.alloc hXY _) hg7 (by simp; omega) (fun kk e => HLT.out kk e); clear hq7 hg7 ho7)
            exact ⟨⟨j + 1, by omega, int_eq (by omega), HQ7.out, HB7⟩, by simp [intOf]; omega⟩
          · have g2 : ¬ (j : Int) < (len : Int) := by omega
            obtain rfl : j = len := by omega
            obtain ⟨p8, c8, rfl⟩ := hq.isSlice
            have hXw : X.heap.size ≤ wr.heap.size := hB2.out.size
            obtain ⟨xs, h1, h2⟩ := HTX.out.below hB2.out (Nat.le_refl _)
            have H1A := Lib.hid (h1.alloc (.cells #[.slice p8 j c8] 34))
            have H2A : Hid (∀ i', i' < i → ∃ p c, xs[i']? = some (.slice p ((fun _ : Nat => j) i') c) ∧ QRow (wr.alloc (.cells #[.slice p8 j c8] 34)) w1.heap.size 4 1 (.slice p ((fun _ : Nat => j) i') c) ((fun _ : Nat => j) i') (bv (relI ps i') ((fun _ : Nat => j) i'))) := fun i' hi' => by
              obtain ⟨p, c, e1, e2⟩ := h2 i' hi'
              exact ⟨p, c, e1, e2.alloc _⟩
            have HQA := Lib.hid ((hq.mono (Nat.le_trans hsw hox)).alloc (.cells #[.slice p8 j c8] 34))
            have HLT := Lib.hid (fun kk (e : _ = some kk) => (h1.lt kk e).1)
            have HBW := Lib.hid (hB.out.trans ((HXB.out.trans (hB2.out.mono hox)).mono hsw))
            have hww : w1.heap.size ≤ wr.heap.size := HBW.out.size
            clear hq h1 h2 HTX
            go_wp2_with (at_builtin; go_must (refine wpList_append_q _ rfl (.tmp 37) (.tmp 39) 26 rfl w1.heap.size 34 i1 (.slice none 0 0) 1 24 under26 hi1 hy0 hy1 hy2 rfl (by decide) _ i xs rfl H1A.out ⟨_, 0, none⟩ 1 1 [.slice p8 j c8] rfl rfl (cells_new1 _ _ _) (by simp [Value.oneCell']) (by unfold maxLen; omega) (by omega) (by simp; omega) ?_); intro v5 w5 hq5 hg5 ho5; have HR5 : Hid (TRow w5 w1.heap.size v5 (i + 1) (fun _ => j) (relI ps)) := TRow.push H2A.out H1A.out HQA.out hg5 hq5; have HB5 : Hid (Below w1.heap.size w1 w5) := Below.grown (HBW.out.alloc hww _) hg5 (by simp; omega) (fun kk e => HLT.out kk e); clear hq5 hg5 ho5)
            exact ⟨⟨i + 1, by omega, int_eq (by omega), HR5.out, HB5⟩, by simp [intOf]; omega⟩
      · have g1 : ¬ (i : Int) < (len : Int) := by omega
        obtain rfl : i = len := by omega
        have HTT := Lib.hid hT
        obtain ⟨p5, c5, rfl⟩ := hT.isSlice
        clear hT
        go_wp2
        refine bodyPost_ret (v := .tuple #[.slice p5 i c5, .int .i64 0]) (by simp [results, Tryd.f6, go_sem]) rfl ?_
        have HTM : TRow wr w.heap.size (.slice p5 i c5) i (fun _ => i) (relI ps) := by
          obtain ⟨xs, h1, h2⟩ := HTT.out
          refine ⟨xs, h1.mono hsz, fun k hk => ?_⟩
          obtain ⟨p, c, h3, h4⟩ := h2 k hk
          exact ⟨p, c, h3, h4.mono hsz⟩
        exact ⟨.inr ⟨_, rfl, HOK.out, HTM⟩, HB1.out.trans (hB.out.mono hsz)⟩
  · have g1 : (c != 0) = true := by rw [bne_iff_ne]; exact hc0
    go_wp2
    refine bodyPost_ret (v := .tuple #[.slice none 0 0, .int .i64 c]) (by simp [results, Tryd.f6, go_sem]) rfl ?_
    exact ⟨.inl ⟨c, rfl, HC.out, hc0⟩, HB1.out⟩
end Go.Proofs.YtbioondlmgolkaaDoor
