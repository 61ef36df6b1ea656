/- The program's fan: a walk. The program's newPaint: no hues. The program's vizing: a walk. The program's degree: a walk. Graphs in plain text: the neighbours and the edges; the degree. The edges that are taken: each once; degrees below 16. Two sides of a graph, and the ring that closes, in plain text. -/
import Derived.Test.YtpknnjcbcndbbaaDoorA11
import Derived.Stop.RegionWithIn
import Derived.Deep.RegionHeld3
set_option linter.unusedVariables false
set_option linter.unusedSimpArgs false
namespace Go.Proofs.YtpknnjcbcndbbaaDoor
open Go.RowKit Go.Shelf
attribute [local go_sem] Oper.semAt_some shr_and1_u

/-- an edge that makes the fan longer -/
def FCand (col : Nat × Nat → Option Nat) (v : Nat) (l : List Nat) (x : Nat) : Prop := ∃ h, col (ed v x) = some h ∧ x ∉ l ∧ ∀ y, col (ed (nth l (l.length - 1)) y) ≠ some h
def fanFr3 (p v w0 b gB c d : Nat) (j : Nat → Value) : Array Value :=
  #[.pointer (some ⟨p, 0, none⟩), .int .i64 (v : Int), .int .i64 (w0 : Int), .pointer (some ⟨b, 0, none⟩), .pointer (some ⟨b + 1, 0, none⟩), j 5, .pointer (some ⟨b + 1 + 1 + 1, 0, none⟩), .pointer (some ⟨b + 1 + 1 + 1 + 1, 0, none⟩), .pointer (some ⟨gB, 0, none⟩), j 9, j 10, j 11, .int .i64 (c : Int), .int .i64 (d : Int), j 14, j 15, j 16, j 17, j 18, j 19, j 20, j 21, j 22, j 23, j 24, j 25, j 26, j 27, j 28, j 29, j 30, j 31, j 32, j 33, j 34, j 35, j 36, j 37, j 38, j 39, j 40, j 41, j 42, j 43, j 44, j 45, j 46, j 47, j 48, j 49, j 50, j 51, j 52, j 53, j 54, j 55, j 56, j 57, j 58, j 59, j 60, j 61, j 62, j 63, j 64, j 65, j 66, j 67, j 68, j 69, j 70, j 71, j 72, j 73, j 74, j 75, j 76, j 77, j 78, j 79, j 80, j 81, j 82, j 83, j 84, j 85, j 86, j 87, j 88, j 89, j 90, j 91, j 92, j 93, j 94, j 95, j 96, j 97, j 98, j 99, j 100, j 101, j 102, j 103, j 104, j 105, j 106, j 107, j 108, j 109, j 110, j 111, j 112, j 113, j 114, j 115, j 116, j 117, j 118, j 119, j 120, j 121, j 122, j 123, j 124, j 125, j 126, j 127, j 128, j 129, j 130, j 131, j 132, j 133, j 134, j 135, j 136, j 137, j 138, j 139, j 140, j 141, j 142, j 143, j 144, j 145, j 146, j 147, j 148, j 149, j 150, j 151, j 152, j 153, j 154]
theorem fanFr3_of {p v w0 b gB c d : Nat} (t : Array Value) (h : t = fanFr3 p v w0 b gB c d fun n => t.getD n undef) : ∃ j, t = fanFr3 p v w0 b gB c d j := ⟨_, h⟩
/-- what stands while the fan is turned -/
structure FRest (w W : World) (b p M v m fb fo fc : Nat) (Ds l : List Nat) : Prop where
  c : Boxed W b 112 (.pointer (some ⟨p, 0, none⟩))
  v : Boxed W (b + 1) 3 (.int .i64 (v : Int))
  fan : Boxed W (b + 1 + 1 + 1) 25 (.slice (some ⟨fb, fo, none⟩) (m + 1) fc)
  row : QRow W (b + 1 + 1) 3 1 (.slice (some ⟨fb, fo, none⟩) (m + 1) fc) (m + 1) (iv l)
  marks : Ds.Nodup ∧ ∀ D ∈ Ds, b + 1 + 1 + 1 + 1 < D ∧ W.heap[D]? = some (.deferred (some []))
  ag : Ag (fun k => k = p ∨ k = M) w W
theorem FRest.keep {w W W' : World} {b p M v m fb fo fc : Nat} {Ds l : List Nat} (h : FRest w W b p M v m fb fo fc Ds l) (hp : p < b) (hM : M < b) (hg : Ag (fun k => k = p ∨ k = M) W W') : FRest w W' b p M v m fb fo fc Ds l :=
  ⟨hg.boxed h.c (by omega), hg.boxed h.v (by omega), hg.boxed h.fan (by omega), hg.qrow h.row (fun k e hk => by have := (h.row.lt k e).1; omega), ⟨h.marks.1, fun D hD => ⟨(h.marks.2 D hD).1, hg.obj (h.marks.2 D hD).2 (fun e => by have := (h.marks.2 D hD).1; omega)⟩⟩, h.ag.trans hg⟩
theorem FRest.lt {w W : World} {b p M v m fb fo fc : Nat} {Ds l : List Nat} (h : FRest w W b p M v m fb fo fc Ds l) : b + 1 + 1 ≤ fb ∧ fb < W.heap.size := by
  obtain ⟨_, _, _, e, h1, h2, _⟩ := h.row.at (by omega)
  cases e; exact ⟨h1, h2⟩
theorem FRest.cell {w W : World} {b p M v m fb fo fc : Nat} {Ds l : List Nat} (h : FRest w W b p M v m fb fo fc Ds l) (hl : l.length = m + 1) {i : Nat} (hi : i < m + 1) : W.cell? ⟨fb, fo + i, none⟩ = some (.int .i64 (nth l i : Nat)) := by
  obtain ⟨_, _, _, e, h1, h2, _, _, h5, _⟩ := h.row.at (by omega)
  cases e
  rw [h5 i (by omega), iv_get (by omega)]
/-- behind the exchange of hues, if any -/
structure FMid (w W : World) (b p G M v m fb fo fc D dd : Nat) (g : List Nat) (col : Nat × Nat → Option Nat) (Ds l : List Nat) (us2 : Nat → Nat) (col2 : Nat × Nat → Option Nat) : Prop where
  rest : FRest w W b p M v m fb fo fc Ds l
  paint : PaintAt W p G M us2 col2
  inv : HInv g us2 col2
  most : ∀ e h, col2 e = some h → h ≤ D
  dom : ∀ e, col2 e = none ↔ col e = none
  fan : ∀ k, k < l.length → (∀ i, i < k → ∃ y, col2 (ed (nth l i) y) = some dd) → (k + 1 < l.length → ∀ y, col2 (ed (nth l k) y) ≠ some dd) → FanR col2 v dd l k
theorem swap_most {g : List Nat} {us : Nat → Nat} {col col' : Nat × Nat → Option Nat} {us' : Nat → Nat} (H : HInv g us col) (H' : HInv g us' col') {dd c D : Nat} {wy : List Nat} (hcol : ∀ x y, col' (ed x y) = if x ∈ wy then (col (ed x y)).map (xch dd c) else col (ed x y)) (hb : ∀ e h, col e = some h → h ≤ D) (hd : dd ≤ D) (hc : c ≤ D) :
    (∀ e h, col' e = some h → h ≤ D) ∧ ∀ e, col' e = none ↔ col e = none := by
  refine ⟨fun e h he => ?_, fun e => ?_⟩
  · obtain ⟨x, y, rfl⟩ := H'.key e h he
    rw [hcol] at he
    split at he
    · cases hq : col (ed x y) with
      | none => rw [hq] at he; cases he
      | some q =>
        rw [hq] at he
        have := hb _ _ hq
        rw [← Option.some.inj he]
        unfold xch
        split <;> (try split) <;> omega
    · exact hb _ _ he
  · have key : (∃ x y, e = ed x y) → (col' e = none ↔ col e = none) := by
      rintro ⟨x, y, rfl⟩
      rw [hcol]
      split
      · cases col (ed x y) <;> simp
      · exact Iff.rfl
    by_cases h1 : col' e = none
    · by_cases h2 : col e = none
      · simp [h1, h2]
      · obtain ⟨h, hh⟩ := Option.ne_none_iff_exists'.1 h2
        exact key (H.key e h hh)
    · obtain ⟨h, hh⟩ := Option.ne_none_iff_exists'.1 h1
      exact key (H'.key e h hh)
theorem colR_val (col : Nat × Nat → Option Nat) (v : Nat) (l : List Nat) (h : Nat) : ∀ (i : Nat) (e : Nat × Nat), colR col v l i e = some h → ∃ e', col e' = some h
  | 0, e, he => ⟨e, he⟩
  | i + 1, e, he => by
    unfold colR at he
    by_cases h1 : e = ed v (nth l i)
    · rw [h1, setF_same] at he; exact ⟨_, he⟩
    · rw [setF_ne _ _ h1] at he
      by_cases h2 : e = ed v (nth l (i + 1))
      · rw [h2, setF_same] at he; cases he
      · rw [setF_ne _ _ h2] at he; exact colR_val col v l h i e he
theorem colR_dom {col : Nat × Nat → Option Nat} {v : Nat} {l : List Nat} (hn : l.Nodup) (h0 : col (ed v (nth l 0)) = none) {i : Nat} (hi : i < l.length) (hh : ∀ j, j < i → col (ed v (nth l (j + 1))) ≠ none) (e : Nat × Nat) :
    colR col v l i e = none ↔ (col e = none ∧ e ≠ ed v (nth l 0)) ∨ e = ed v (nth l i) := by
  by_cases hm : ∃ m, m ≤ i ∧ e = ed v (nth l m)
  · obtain ⟨m, hmi, rfl⟩ := hm
    by_cases h1 : m = i
    · subst h1; simp [colR_none hn h0 m hi]
    · rw [colR_past hn i hi m (by omega)]
      constructor
      · intro h2; exact absurd h2 (hh m (by omega))
      · rintro (⟨h2, h3⟩ | h2)
        · by_cases h4 : m = 0
          · subst h4; exact absurd rfl h3
          · have := hh (m - 1) (by omega)
            rw [show m - 1 + 1 = m by omega] at this
            exact absurd h2 this
        · exact absurd h2 (ed_nth hn (by omega) hi h1)
  · rw [colR_other _ _ _ _ _ fun m hmi h => hm ⟨m, hmi, h⟩]
    constructor
    · intro h; exact .inl ⟨h, fun h2 => hm ⟨0, Nat.zero_le _, h2⟩⟩
    · rintro (h | h)
      · exact h.1
      · exact absurd ⟨i, Nat.le_refl _, h⟩ hm
theorem fan_dom {col col2 : Nat × Nat → Option Nat} {v w0 k dd : Nat} {l : List Nat} (hn : l.Nodup) (hl0 : nth l 0 = w0) (hF : FanR col2 v dd l k) (hd : ∀ e, col2 e = none ↔ col e = none) (e : Nat × Nat) : setF (colR col2 v l k) (ed v (nth l k)) (some dd) e = none ↔ col e = none ∧ e ≠ ed v w0 := by
  have hh : ∀ j, j < k → col2 (ed v (nth l (j + 1))) ≠ none := fun j hj h => by obtain ⟨x, hx, _⟩ := hF.hue j hj; rw [hx] at h; cases h
  by_cases he : e = ed v (nth l k)
  · subst he
    rw [setF_same]
    refine ⟨(fun h => by cases h), fun ⟨h1, h2⟩ => ?_⟩
    by_cases hk : k = 0
    · subst hk; exact absurd (by rw [hl0]) h2
    · have := hh (k - 1) (by omega)
      rw [show k - 1 + 1 = k by omega] at this
      exact absurd ((hd _).2 h1) this
  · rw [setF_ne _ _ he, colR_dom hn hF.first hF.lt hh, hl0, hd]
    constructor
    · rintro (h | h)
      · exact h
      · exact absurd h he
    · exact .inl
theorem fan_most {col2 : Nat × Nat → Option Nat} {v k dd D : Nat} {l : List Nat} (hb : ∀ e h, col2 e = some h → h ≤ D) (hd : dd ≤ D) (e : Nat × Nat) (h : Nat) (he : setF (colR col2 v l k) (ed v (nth l k)) (some dd) e = some h) : h ≤ D := by
  by_cases h1 : e = ed v (nth l k)
  · rw [h1, setF_same] at he; cases he; exact hd
  · rw [setF_ne _ _ h1] at he
    obtain ⟨e', he'⟩ := colR_val _ _ _ _ _ _ he
    exact hb _ _ he'
theorem wpIn_cut0 {F : Fence} {rm : Nat} {P : Program} {s : Code} {K : Act → World → Prop} {Q' : Exit → Act → World → Prop} {a : Act} {w : World} (R : Act → World → Prop)
    (rest : ∀ a' w', R a' w' → K a' w') (first : s.wpIn F rm P (Exit.then R Q') a w) : s.wpIn F rm P (Exit.then K Q') a w := by
  refine wpIn_mono first ?_
  intro e a' w' hq
  cases e with
  | normal => exact rest _ _ hq
  | exit id => exact hq
  | goto l => exact hq
  | ret => exact hq
  | panic c => exact hq
  | outgrown => exact hq
theorem nodup_sub : ∀ (A L : List Nat), A.Nodup → (∀ x ∈ A, x ∈ L) → A.length ≤ L.length
  | [], _, _, _ => Nat.zero_le _
  | a :: A, L, hn, hs => by
    rw [List.nodup_cons] at hn
    have ha := hs a List.mem_cons_self
    have h1 := nodup_sub A (L.erase a) hn.2 fun x hx => (List.mem_erase_of_ne (fun e => hn.1 (by rw [← e]; exact hx))).2 (hs x (List.mem_cons_of_mem _ hx))
    rw [List.length_erase_of_mem ha] at h1
    have := List.length_pos_of_mem ha
    simp only [List.length_cons]; omega
/-- the least free hue is at most the number of neighbours -/
theorem fr_le {g : List Nat} {us : Nat → Nat} {col : Nat × Nat → Option Nat} (H : HInv g us col) {v D : Nat} (hs : Sm (g[v]?.getD 0)) (hv : v < 16) (hd : (els (g[v]?.getD 0)).length ≤ D) (hu : us v < 18446744073709551615) : fr (us v) ≤ D := by
  obtain ⟨h64, _, hl⟩ := fr_spec hu
  have hx : ∀ j, j < fr (us v) → ∃ x, col (ed v x) = some j := fun j hj => (H.used v j hv (by omega)).1 (hl j hj)
  let f : Nat → Nat := fun j => if h : j < fr (us v) then Classical.choose (hx j h) else 0
  have hf : ∀ j, j < fr (us v) → col (ed v (f j)) = some j := fun j hj => by
    show col (ed v (if h : j < fr (us v) then Classical.choose (hx j h) else 0)) = some j
    rw [dif_pos hj]; exact Classical.choose_spec (hx j hj)
  have hn : ((List.range (fr (us v))).map f).Nodup := by
    refine List.pairwise_map.2 (List.Pairwise.imp_of_mem (R := fun a b => a ≠ b) (fun {a b} ha hb hab e => hab ?_) List.nodup_range)
    have h1 := hf a (List.mem_range.1 ha)
    have h2 := hf b (List.mem_range.1 hb)
    rw [e, h2] at h1
    exact (Option.some.inj h1).symm
  have := nodup_sub _ (els (g[v]?.getD 0)) hn fun x hx => by
    obtain ⟨j, hj, rfl⟩ := List.mem_map.1 hx
    exact (mem_els hs).2 (H.edge _ _ _ (hf j (List.mem_range.1 hj))).2.2.2.1
  simp at this
  omega
def fanFr4 (p v w0 b gB c d k : Nat) (j : Nat → Value) : Array Value :=
  #[.pointer (some ⟨p, 0, none⟩), .int .i64 (v : Int), .int .i64 (w0 : Int), .pointer (some ⟨b, 0, none⟩), .pointer (some ⟨b + 1, 0, none⟩), j 5, .pointer (some ⟨b + 1 + 1 + 1, 0, none⟩), .pointer (some ⟨b + 1 + 1 + 1 + 1, 0, none⟩), .pointer (some ⟨gB, 0, none⟩), j 9, j 10, j 11, .int .i64 (c : Int), .int .i64 (d : Int), .int .i64 (k : Int), j 15, j 16, j 17, j 18, j 19, j 20, j 21, j 22, j 23, j 24, j 25, j 26, j 27, j 28, j 29, j 30, j 31, j 32, j 33, j 34, j 35, j 36, j 37, j 38, j 39, j 40, j 41, j 42, j 43, j 44, j 45, j 46, j 47, j 48, j 49, j 50, j 51, j 52, j 53, j 54, j 55, j 56, j 57, j 58, j 59, j 60, j 61, j 62, j 63, j 64, j 65, j 66, j 67, j 68, j 69, j 70, j 71, j 72, j 73, j 74, j 75, j 76, j 77, j 78, j 79, j 80, j 81, j 82, j 83, j 84, j 85, j 86, j 87, j 88, j 89, j 90, j 91, j 92, j 93, j 94, j 95, j 96, j 97, j 98, j 99, j 100, j 101, j 102, j 103, j 104, j 105, j 106, j 107, j 108, j 109, j 110, j 111, j 112, j 113, j 114, j 115, j 116, j 117, j 118, j 119, j 120, j 121, j 122, j 123, j 124, j 125, j 126, j 127, j 128, j 129, j 130, j 131, j 132, j 133, j 134, j 135, j 136, j 137, j 138, j 139, j 140, j 141, j 142, j 143, j 144, j 145, j 146, j 147, j 148, j 149, j 150, j 151, j 152, j 153, j 154]
theorem fanFr4_of {p v w0 b gB c d k : Nat} (t : Array Value) (h : t = fanFr4 p v w0 b gB c d k fun n => t.getD n undef) : ∃ j, t = fanFr4 p v w0 b gB c d k j := ⟨_, h⟩
theorem ms_one (x : Nat) : ms [x] = pw x := by unfold ms pw; simp
theorem fan_one {g : List Nat} {col : Nat × Nat → Option Nat} {v x : Nat} (hx : x < 16) (hvx : v ≠ x) (ha : adj g v x) (ha' : adj g x v) (hno : col (ed v x) = none) : FanOK g col v [x] where
  pos := by simp
  nd := by simp
  first := hno
  adj := fun i hi => by
    have : i = 0 := by simp at hi; omega
    subst this
    exact ⟨ha, ha', hx, hvx⟩
  hue := fun i hi => by simp at hi
set_option maxRecDepth 100000 in
set_option maxHeartbeats 20000000 in
theorem fan_in (p G M n v w0 D : Nat) (ea : Option Addr) (cap elen : Nat) (g : List Nat) (us : Nat → Nat) (col : Nat × Nat → Option Nat) (w : World) (hT : Tab w) (hg : GraphAt w G n ea cap elen g) (hsm : ∀ i : Nat, Sm (g[i]?.getD 0)) (hP : PaintAt w p G M us col) (H : HInv g us col)
    (hv : v < 16) (hw : w0 < 16) (hvw : v ≠ w0) (ha : adj g v w0) (ha' : adj g w0 v) (hno : col (ed v w0) = none) (hD : D ≤ 15) (hbd : ∀ e h, col e = some h → h ≤ D) (hdeg : ∀ u, u < 16 → (els (g[u]?.getD 0)).length ≤ D) :
    CallsIn Fence.wide 6 Tryd.prog 83 #[.pointer (some ⟨p, 0, none⟩), .int .i64 (v : Int), .int .i64 (w0 : Int)] w fun e w' => e = .returned (.tuple #[]) ∧ ∃ us' col', PaintAt w' p G M us' col' ∧ HInv g us' col' ∧ (∀ e h, col' e = some h → h ≤ D) ∧ (∀ e, col' e = none ↔ col e = none ∧ e ≠ ed v w0) ∧ Ag (fun k => k = p ∨ k = M) w w' := by
  obtain ⟨i0, hi, hz0, hz1, hz2⟩ := info_parts info3
  have HH := Lib.hid H
  have HSM := Lib.hid hsm
  have HP := Lib.hid hP
  have HG := Lib.hid hg
  have HT := Lib.hid hT
  have HBD := Lib.hid hbd
  have HDEG := Lib.hid hdeg
  have HA := Lib.hid ha
  have HA' := Lib.hid ha'
  have HNO := Lib.hid hno
  have hpw := hP.lt
  have hMw := hP.map.lt
  have hGw := hg.lt
  clear H hsm hP hg hT hbd hdeg ha ha' hno
  refine callsIn_of_wp_marks Tryd.func83 rfl trivial ?_ rfl
  simp only [Tryd.ntmps83, List.size_toArray, List.length_cons, List.length_nil, Nat.reduceAdd, Nat.reduceSub, Array.replicate_succ, Array.replicate_zero, List.push_toArray, List.append_toArray, List.nil_append, List.cons_append]
  have hw20 : w0 < 20 := by omega
  gi_wp2
  obtain ⟨b, hb⟩ : ∃ b, Hid (b = w.heap.size) := ⟨_, rfl⟩
  have k0 := (((((boxed_at (W := w) (B := w.heap.size) (t := 112) (v := .pointer (some ⟨p, 0, none⟩)) rfl).alloc (.cells #[.int .i64 (v : Int)] 3)).alloc (.cells #[.int .i64 (w0 : Int)] 3)).alloc (.cells #[.slice (some ⟨w.heap.size + 1 + 1, 0, none⟩) 1 1] 25)).alloc (.cells #[.int .i64 (pw w0 : Nat)] 3)).alloc (.cells #[.bool true] 4)
  have k1 := ((((boxed_at (W := w.alloc (.cells #[.pointer (some ⟨p, 0, none⟩)] 112)) (B := w.heap.size + 1) (t := 3) (v := .int .i64 (v : Int)) (by simp)).alloc (.cells #[.int .i64 (w0 : Int)] 3)).alloc (.cells #[.slice (some ⟨w.heap.size + 1 + 1, 0, none⟩) 1 1] 25)).alloc (.cells #[.int .i64 (pw w0 : Nat)] 3)).alloc (.cells #[.bool true] 4)
  have k2 := (((boxed_at (W := (w.alloc (.cells #[.pointer (some ⟨p, 0, none⟩)] 112)).alloc (.cells #[.int .i64 (v : Int)] 3)) (B := w.heap.size + 1 + 1) (t := 3) (v := .int .i64 (w0 : Int)) (by simp)).alloc (.cells #[.slice (some ⟨w.heap.size + 1 + 1, 0, none⟩) 1 1] 25)).alloc (.cells #[.int .i64 (pw w0 : Nat)] 3)).alloc (.cells #[.bool true] 4)
  have k3 := ((boxed_at (W := ((w.alloc (.cells #[.pointer (some ⟨p, 0, none⟩)] 112)).alloc (.cells #[.int .i64 (v : Int)] 3)).alloc (.cells #[.int .i64 (w0 : Int)] 3)) (B := w.heap.size + 1 + 1 + 1) (t := 25) (v := .slice (some ⟨w.heap.size + 1 + 1, 0, none⟩) 1 1) (by simp)).alloc (.cells #[.int .i64 (pw w0 : Nat)] 3)).alloc (.cells #[.bool true] 4)
  have k4 := (boxed_at (W := (((w.alloc (.cells #[.pointer (some ⟨p, 0, none⟩)] 112)).alloc (.cells #[.int .i64 (v : Int)] 3)).alloc (.cells #[.int .i64 (w0 : Int)] 3)).alloc (.cells #[.slice (some ⟨w.heap.size + 1 + 1, 0, none⟩) 1 1] 25)) (B := w.heap.size + 1 + 1 + 1 + 1) (t := 3) (v := .int .i64 (pw w0 : Nat)) (by simp)).alloc (.cells #[.bool true] 4)
  have k5 := (boxed_at (W := ((((w.alloc (.cells #[.pointer (some ⟨p, 0, none⟩)] 112)).alloc (.cells #[.int .i64 (v : Int)] 3)).alloc (.cells #[.int .i64 (w0 : Int)] 3)).alloc (.cells #[.slice (some ⟨w.heap.size + 1 + 1, 0, none⟩) 1 1] 25)).alloc (.cells #[.int .i64 (pw w0 : Nat)] 3)) (B := w.heap.size + 1 + 1 + 1 + 1 + 1) (t := 4) (v := .bool true) (by simp))
  have hBV : Below w.heap.size w ((((((w.alloc (.cells #[.pointer (some ⟨p, 0, none⟩)] 112)).alloc (.cells #[.int .i64 (v : Int)] 3)).alloc (.cells #[.int .i64 (w0 : Int)] 3)).alloc (.cells #[.slice (some ⟨w.heap.size + 1 + 1, 0, none⟩) 1 1] 25)).alloc (.cells #[.int .i64 (pw w0 : Nat)] 3)).alloc (.cells #[.bool true] 4)) := ((((((Below.refl _ w).alloc (Nat.le_refl _) _).alloc (by simp) _).alloc (by simp; omega) _).alloc (by simp; omega) _).alloc (by simp; omega) _).alloc (by simp; omega) _
  rw [← hb.out] at k0 k1 k2 k3 k4 k5 hBV ⊢
  generalize ((((((w.alloc (.cells #[.pointer (some ⟨p, 0, none⟩)] 112)).alloc (.cells #[.int .i64 (v : Int)] 3)).alloc (.cells #[.int .i64 (w0 : Int)] 3)).alloc (.cells #[.slice (some ⟨b + 1 + 1, 0, none⟩) 1 1] 25)).alloc (.cells #[.int .i64 (pw w0 : Nat)] 3)).alloc (.cells #[.bool true] 4)) = V at *
  rw [hb.out] at hBV
  refine wpIn_loop_ghost_k (FI w b p v w0 g col) 33 ?_ ?_
  · refine ⟨b + 1 + 1 + 1 + 1 + 1, [], [w0], true, fanFr_of _ rfl, rfl, ⟨k0, k1, hBV, ⟨List.nodup_nil, fun D h => by cases h⟩, ⟨_, k3, ⟨rfl, .inr ⟨b + 1 + 1, 0, 1, _, rfl, Nat.le_refl _, k2, Nat.le_refl _, by unfold maxLen; omega, by simp, fun j hj => ?_⟩⟩, fun e => by cases e⟩, by rw [ms_one]; exact k4, k5, Nat.lt_succ_self _⟩, fan_one hw hvw HA.out HA'.out HNO.out, rfl, (fun h => by cases h), by simp⟩
    have : j = 0 := by simp at hj; omega
    subst this
    rfl
  · intro k a W hI J K hJ hK
    obtain ⟨gB, Ds, l, gr, ⟨j, hj⟩, hd, hfix, hfan, hl0, hmax, hk⟩ := hI
    obtain ⟨tm, df⟩ := a
    simp only at hj hd
    subst hj
    subst hd
    simp only [fanFr]
    clear k0 k1 k2 k3 k4 k5 hBV
    have HMAX := Lib.hid hmax
    have HFAN := Lib.hid hfan
    have HFIX := Lib.hid hfix
    have cg := hfix.grow.cell
    have fg := hfix.grow.frozen
    clear hmax hfan hfix
    cases gr with
    | false =>
      gi_wp2
      have F1 := HFIX.out
      have hmax := HMAX.out trivial
      obtain ⟨qv, q1, q2, q3⟩ := F1.fan
      obtain ⟨m, hm⟩ : ∃ m, l.length = m + 1 := ⟨l.length - 1, by have := HFAN.out.pos; omega⟩
      rw [hm] at q2
      obtain ⟨fb, fo, fc, rfl, f1, f2, f3, f4, f5, f6⟩ := q2.at (by omega)
      have hla := HFAN.out.adj m (by omega)
      have hm16 : m < 16 := by have := HFAN.out.len; omega
      have hl16 := hla.2.2.1
      have hPW := HP.out.below F1.below
      have c6 := f5 m (by omega)
      rw [iv_get (by omega)] at c6
      have hus : ∀ u, u < 16 → us u < 18446744073709551615 := fun u hu => by
        have h1 := HP.out.sm u
        refine Nat.lt_of_le_of_ne (by omega) fun e => ?_
        have h63 : (us u).testBit 63 = true := by rw [e]; decide
        obtain ⟨x, hx⟩ := (HH.out.used u 63 hu (by decide)).1 h63
        have := HBD.out _ _ hx
        omega
      have HS : Hid (∀ W', Below W.heap.size W W' → Below W.heap.size W W' ∧ W'.cell? ⟨b, 0, none⟩ = some (.pointer (some ⟨p, 0, none⟩)) ∧ W'.cell? ⟨b + 1, 0, none⟩ = some (.int .i64 (v : Int)) ∧ W'.cell? ⟨b + 1 + 1 + 1, 0, none⟩ = some (.slice (some ⟨fb, fo, none⟩) (m + 1) fc) ∧ W'.cell? ⟨fb, fo + m, none⟩ = some (.int .i64 (nth l m : Nat)) ∧ W'.cell? ⟨p, 2 + v, none⟩ = some (.int .u64 (us v : Nat)) ∧ W'.cell? ⟨p, 2 + nth l m, none⟩ = some (.int .u64 (us (nth l m) : Nat))) := fun W' h =>
        ⟨h, (h.cell (p := ⟨b, 0, none⟩) F1.c.lt).trans F1.c.cell, (h.cell (p := ⟨b + 1, 0, none⟩) F1.v.lt).trans F1.v.cell, (h.cell (p := ⟨b + 1 + 1 + 1, 0, none⟩) q1.lt).trans q1.cell, (h.cell (p := ⟨fb, fo + m, none⟩) f2).trans c6, (h.cell (p := ⟨p, 2 + v, none⟩) hPW.lt).trans (hPW.cells.2.2.1 v hv), (h.cell (p := ⟨p, 2 + nth l m, none⟩) hPW.lt).trans (hPW.cells.2.2.1 _ hl16)⟩
      have HTB : Hid (∀ W', Below W.heap.size W W' → Tab W') := fun W' h => (HT.out.below F1.below (Nat.le_refl _)).below h (Nat.le_refl _)
      have HU1 := Lib.hid (hus v hv)
      have HU2 := Lib.hid (hus _ hl16)
      have HMX := Lib.hid hmax
      have HQ2 := Lib.hid q2
      have HQ1 := Lib.hid q1
      have HM := Lib.hid hm
      clear cg fg hmax q1 q2 q3 f5 f6 hm hla c6 hus HMAX hPW F1 hk
      refine wpIn_mono (Q := fun e a' w' => e = .normal ∧ (∃ j', a' = { tmps := fanFr3 p v w0 b gB (fr (us v)) (fr (us (nth l m))) j', defers := marks Ds }) ∧ Below W.heap.size W w') ?reg ?rest
      case reg =>
        refine wpIn_wide.2 ?_
        have i1 : (v : Int) < 16 := by omega
        have i2 : (0 : Int) ≤ (v : Int) := by omega
        have i3 : ((nth l m : Nat) : Int) < 16 := by omega
        have i4 : (0 : Int) ≤ ((nth l m : Nat) : Int) := by omega
        have i5 : (m : Int) < (m : Int) + 1 := by omega
        have i6 : (0 : Int) ≤ (m : Int) := by omega
        have i7 : IntKind.i64.wrap ((m : Int) + 1 - 1) = (m : Int) := by rw [IntWalk.i64_in _ (by omega)]; omega
        have i8 : IntKind.i64.wrap (m : Int) = (m : Int) := IntWalk.i64_in _ (by omega)
        have i9 : wrap64 (m : Int) = (m : Int) := (IntWalk.i64_left _).symm.trans i8
        go_region_held3 (fun W' => Below W.heap.size W W' ∧ W'.cell? ⟨b, 0, none⟩ = some (.pointer (some ⟨p, 0, none⟩)) ∧ W'.cell? ⟨b + 1, 0, none⟩ = some (.int .i64 (v : Int)) ∧ W'.cell? ⟨b + 1 + 1 + 1, 0, none⟩ = some (.slice (some ⟨fb, fo, none⟩) (m + 1) fc) ∧ W'.cell? ⟨fb, fo + m, none⟩ = some (.int .i64 (nth l m : Nat)) ∧ W'.cell? ⟨p, 2 + v, none⟩ = some (.int .u64 (us v : Nat)) ∧ W'.cell? ⟨p, 2 + nth l m, none⟩ = some (.int .u64 (us (nth l m) : Nat)))
          (first
            | (refine HS.out _ ?_; exact below_dr (Below.refl _ _) 1)
            | (refine HS.out _ (Below.alloc (And.left (by assumption)) (Below.size (And.left (by assumption))) _))
            | assumption)
          (first
            | (go_at_call 87; refine (free_any _ _ (us v) _ (HTB.out _ (And.left (by assumption))) ?_ HU1.out).mono ?_; (next => (simp; done)); rintro e w' ⟨rfl, rfl⟩)
            | (go_at_call 87; refine (free_any _ _ (us (nth l m)) _ (HTB.out _ (And.left (by assumption))) ?_ HU2.out).mono ?_; (next => (simp; done)); rintro e w' ⟨rfl, rfl⟩))
        all_goals exact ⟨rfl, (fanFr3_of _ rfl).elim (fun j h => ⟨j, congrArg (fun t => ({ tmps := t, defers := marks Ds } : Act)) h⟩), And.left (by assumption)⟩
      case rest =>
        rintro e a' W2 ⟨rfl, ⟨j', rfl⟩, hB2⟩
        simp only [fanFr3]
        have FX := HFIX.out.keep hB2
        have hPW := HP.out.below FX.below
        have hm := HM.out
        have hla := HFAN.out.adj m (by omega)
        have r0 : ∀ d : BW W2.heap.size W2, d.w.cell? ⟨b, 0, none⟩ = some (.pointer (some ⟨p, 0, none⟩)) := fun d => d.cell FX.c.lt FX.c.cell
        have r2 : ∀ d : BW W2.heap.size W2, d.w.cell? ⟨b + 1, 0, none⟩ = some (.int .i64 (v : Int)) := fun d => d.cell FX.v.lt FX.v.cell
        have r3 : ∀ d : BW W2.heap.size W2, d.w.cell? ⟨p, 2 + v, none⟩ = some (.int .u64 (us v : Nat)) := fun d => d.cell hPW.lt (hPW.cells.2.2.1 v hv)
        obtain ⟨hc64, hcb, hcl⟩ := fr_spec HU1.out
        obtain ⟨hd64, hdb, hdl⟩ := fr_spec HU2.out
        have hcD : fr (us v) ≤ D := fr_le HH.out (HSM.out v) hv (HDEG.out v hv) HU1.out
        have hdD : fr (us (nth l m)) ≤ D := fr_le HH.out (HSM.out _) hl16 (HDEG.out _ hl16) HU2.out
        have hcv := (HH.out.free hv hc64).1 hcb
        have hdl2 := (HH.out.free hl16 hd64).1 hdb
        have hdc : (us v).testBit (fr (us (nth l m))) = true → fr (us (nth l m)) ≠ fr (us v) := fun h e => by rw [e, hcb] at h; cases h
        clear hcl hdl hcb hdb
        generalize fr (us v) = c at *
        generalize fr (us (nth l m)) = dd at *
        have hus1 := HU1.out
        have hwd : IntKind.u64.wrap (dd : Int) = (dd : Int) := u64_same _ (by omega)
        have hFR : FRest w W2 b p M v m fb fo fc Ds l := ⟨FX.c, FX.v, boxed_below HQ1.out hB2, HQ2.out.below hB2 (fun k e => by have e' : some fb = some k := e; cases e'; exact f2), FX.marks, Ag.of_below FX.below⟩
        have HFR := Lib.hid hFR
        have HPW := Lib.hid hPW
        have HCV := Lib.hid hcv
        have HDL := Lib.hid hdl2
        have hTW := HTB.out W2 hB2
        have HTW := Lib.hid hTW
        have HGW := Lib.hid (HG.out.below FX.below (Nat.le_refl _))
        have hpb : p < b := by have := hb.out; omega
        have hMb : M < b := by have := hb.out; omega
        have HDC := Lib.hid hdc
        clear FX hPW hm hla hFR hcv hdl2 hTW hdc
        gi_wp2
        refine quietR_bw (by kernel_rfl) (by kernel_rfl) (by kernel_rfl) ?_
        repeat (gi_big_quiet_step (rfl))
        refine wpQuietIn_nil ?_
        rintro _ ⟨d3, rfl⟩
        clear r0 r2 r3
        gi_upto_if 109 with (fail)
        refine wpIn_cut0 (fun a W3 => ∃ us2 col2 j2, a = { tmps := fanFr3 p v w0 b gB c dd j2, defers := marks Ds } ∧ FMid w W3 b p G M v m fb fo fc D dd g col Ds l us2 col2) ?_ ?_
        · rintro a W3 ⟨us2, col2, j2, rfl, hmid⟩
          simp only [fanFr3]
          have HMID := Lib.hid hmid
          have hbl := hmid.rest.c.lt
          have hm := HM.out
          clear hmid
          gi_upto_region 18 with (fail)
          refine wpIn_wide.2 ?_
          go_wp2
          refine wpIn_seq ?_
          refine wpIn_cut0 (fun a W4 => ∃ k j4, a = { tmps := fanFr4 p v w0 b gB c dd k j4, defers := marks Ds } ∧ k ≤ m ∧ FanR col2 v dd l k ∧ Below W3.heap.size W3 W4) ?_ ?_
          · rintro a W4 ⟨k, j4, rfl, hkm, hfr, hB4⟩
            simp only [fanFr4]
            have HR4 := Lib.hid (HMID.out.rest.keep hpb hMb (Ag.of_below hB4))
            have HPI := Lib.hid (show ∃ us3, PaintAt W4 p G M us3 (colR col2 v l 0) ∧ HInv g us3 (colR col2 v l 0) from ⟨us2, HMID.out.paint.below hB4, HMID.out.inv⟩)
            have HFRK := Lib.hid hfr
            have HML := Lib.hid hm
            have hm16b := hm16
            clear hfr hm hB4
            gi_wp2
            gi_loopw [16, 140] (fun _ s140 wr => ∃ i : Nat, i ≤ k ∧ s140 = .int .i64 (i : Int) ∧ Hid (∃ us3, PaintAt wr p G M us3 (colR col2 v l i) ∧ HInv g us3 (colR col2 v l i)) ∧ Ag (fun k => k = p ∨ k = M) W4 wr) (fun _ s140 _ => 40 - (intOf s140).toNat)
            case atStart => exact ⟨0, by omega, rfl, HPI, Ag.refl _ _⟩
            case round =>
              clear HPI
              obtain ⟨i, hik, rfl, hR, hag⟩ := hrel
              have hRi := HR4.out.keep hpb hMb hag
              by_cases hik2 : i < k
              · have h1 : (i : Int) < (k : Int) := by omega
                obtain ⟨us3, hP3, hH3⟩ := hR.out
                obtain ⟨h, hh, hhf⟩ := HFRK.out.hue i hik2
                have hml := HML.out
                have ax := HFAN.out.adj i (by omega)
                have ay := HFAN.out.adj (i + 1) (by omega)
                have hE := HMID.out.inv.edge _ _ _ hh
                have HT := Lib.hid (turn_any p G M v i (nth l i) (nth l (i + 1)) h b (m + 1) fb fo fc g us3 (colR col2 v l i) wr hP3 hH3 hRi.c hRi.v hRi.fan (hRi.cell hml (by omega)) (hRi.cell hml (by omega)) (by omega) (by omega) hpb hMb (by have := hRi.lt.1; omega) hRi.lt.2 hv ax.2.2.1 ay.2.2.1 ax.2.2.2 ay.2.2.2 (fun e => by have := nth_nd HFAN.out.nd (by omega) (by omega) e; omega) ax.1 ax.2.1 hE.2.2.2.2 ((colR_next HFAN.out.nd (by omega)).trans hh) (colR_none HFAN.out.nd HFRK.out.first i (by omega)) (fun z hz => hhf z (colR_at_l (g := g) (us := us) HFAN.out.nd HFRK.out.first (fun i hi => (HFAN.out.adj i hi).2.2.2) (by omega) hz)))
                rw [← hh] at HT
                have HAG := Lib.hid hag
                clear hP3 hH3 hR ax ay hE hRi hag hml hh hhf
                gi_wp2_with (gi_at_call 97; refine (callsIn_wide.2 HT.out).mono ?_; rintro e w5 ⟨rfl, hR5, hag5⟩; have HR5 := Lib.hid hR5; have HA5 := Lib.hid (HAG.out.trans hag5); clear hR5 hag5)
                exact ⟨⟨i + 1, by omega, int_eq (by omega), HR5, HA5.out⟩, by simp [intOf]; omega⟩
              · have h1 : ¬ (i : Int) < (k : Int) := by omega
                have hik3 : i = k := by omega
                rw [hik3] at hR
                obtain ⟨us3, hP3, hH3⟩ := hR.out
                have hml := HML.out
                have ak := HFAN.out.adj k (by omega)
                have hnk := colR_none HFAN.out.nd HFRK.out.first k (by omega)
                have r0 : ∀ d : BW wr.heap.size wr, d.w.cell? ⟨b, 0, none⟩ = some (.pointer (some ⟨p, 0, none⟩)) := fun d => d.cell hRi.c.lt hRi.c.cell
                have r1 : ∀ d : BW wr.heap.size wr, d.w.cell? ⟨b + 1, 0, none⟩ = some (.int .i64 (v : Int)) := fun d => d.cell hRi.v.lt hRi.v.cell
                have r2 : ∀ d : BW wr.heap.size wr, d.w.cell? ⟨b + 1 + 1 + 1, 0, none⟩ = some (.slice (some ⟨fb, fo, none⟩) (m + 1) fc) := fun d => d.cell hRi.fan.lt hRi.fan.cell
                have r3 : ∀ d : BW wr.heap.size wr, d.w.cell? ⟨fb, fo + k, none⟩ = some (.int .i64 (nth l k : Nat)) := fun d => d.cell hRi.lt.2 (hRi.cell hml (by omega))
                have HPUT : Hid (∀ d : BW wr.heap.size wr, Calls Tryd.prog 79 #[.pointer (some ⟨p, 0, none⟩), .int .i64 (v : Int), .int .i64 (nth l k : Nat), .int .i64 (dd : Int)] d.w fun e w' => e = .returned (.tuple #[]) ∧ (∃ us', PaintAt w' p G M us' (setF (colR col2 v l k) (ed v (nth l k)) (some dd)) ∧ HInv g us' (setF (colR col2 v l k) (ed v (nth l k)) (some dd))) ∧ Ag (fun k => k = p ∨ k = M) d.w w') := fun d =>
                  (put_any p G M v (nth l k) dd us3 (colR col2 v l k) d.w (hP3.below d.b) hv ak.2.2.1 ak.2.2.2 hd64).mono fun e w' ⟨e1, e2, e3⟩ => ⟨e1, ⟨_, e2, hH3.put hv ak.2.2.1 ak.2.2.2 ak.1 ak.2.1 hd64 hnk
                    (fun y hy => by obtain ⟨y', hy'⟩ := colR_at_v HFAN.out.nd HFRK.out.first (by omega) hy; exact HFRK.out.fv y' hy')
                    (fun y hy => HFRK.out.fk y (colR_at_l (g := g) (us := us) HFAN.out.nd HFRK.out.first (fun i hi => (HFAN.out.adj i hi).2.2.2) (by omega) hy))⟩, e3⟩
                have HRI := Lib.hid hRi
                have h2 : (k : Int) < (m : Int) + 1 := by omega
                have h3 : (0 : Int) ≤ (k : Int) := by omega
                clear hP3 hH3 hR hRi hml ak hnk
                gi_wp2
                refine wpIn_region_bw_tail 7 (by kernel_rfl) (by kernel_rfl) (by kernel_rfl) ?_
                simp only [List.take_succ_cons, List.take_zero, List.drop_succ_cons, List.drop_zero]
                repeat (gi_big_quiet_step (rfl))
                refine wpQuietIn_nil ?_
                rintro _ ⟨d5, rfl⟩
                clear r0 r1 r2 r3
                gi_wp2_with (gi_at_call 79; refine (callsIn_wide.2 (HPUT.out d5)).mono ?_; rintro e w5 ⟨rfl, hR5, hag5⟩; have HR5 := Lib.hid hR5; have HA5 := Lib.hid ((Ag.of_below d5.b).trans hag5); clear hR5 hag5)
                have hFR := HR4.out.keep hpb hMb (hag.trans HA5.out)
                refine leave_marks Ds w5 hFR.marks.1 (fun D hD => (hFR.marks.2 D hD).2) fun W' g1 g2 g3 g4 g5 => ?_
                have hbs := hb.out
                have hoff : ∀ k, k < b → k ∉ Ds := fun k hk h => by have := (hFR.marks.2 k h).1; omega
                obtain ⟨us5, hP5, hH5⟩ := HR5.out
                have hagD : Ag (fun k => k ∈ Ds) w5 W' := ⟨g1, g2, g3, Nat.le_of_eq g4.symm, fun k _ hn => g5 k hn⟩
                refine ⟨.tuple #[], results_none rfl _ _ _, rfl, us5, _, hP5.ag hagD (hoff p hpb) (hoff M hMb), hH5, fan_most HMID.out.most hdD, fan_dom HFAN.out.nd hl0 HFRK.out HMID.out.dom, ?_⟩
                exact ⟨g1.trans hFR.ag.os, g2.trans hFR.ag.tape, g3.trans hFR.ag.output, Nat.le_trans hFR.ag.size hagD.size, fun k hk hn => (g5 k (hoff k (by omega))).trans (hFR.ag.block k hk hn)⟩
          gi_wp2
          gi_loopw [14] (fun s14 wr => ∃ k : Nat, k ≤ m ∧ s14 = .int .i64 (k : Int) ∧ Hid (∀ i, i < k → ∃ y, col2 (ed (nth l i) y) = some dd) ∧ Below W3.heap.size W3 wr) (fun s14 _ => 40 - (intOf s14).toNat)
          case atStart => exact ⟨0, by omega, rfl, fun i hi => by omega, Below.refl _ _⟩
          case round =>
            obtain ⟨k, hkm, rfl, hbef, hBk⟩ := hrel
            have hRk := HMID.out.rest.keep hpb hMb (Ag.of_below hBk)
            have hPk := HMID.out.paint.below hBk
            have r0 : ∀ d : BW wr.heap.size wr, d.w.cell? ⟨b, 0, none⟩ = some (.pointer (some ⟨p, 0, none⟩)) := fun d => d.cell hRk.c.lt hRk.c.cell
            have r1 : ∀ d : BW wr.heap.size wr, d.w.cell? ⟨b + 1 + 1 + 1, 0, none⟩ = some (.slice (some ⟨fb, fo, none⟩) (m + 1) fc) := fun d => d.cell hRk.fan.lt hRk.fan.cell
            have r2 : ∀ d : BW wr.heap.size wr, d.w.cell? ⟨fb, fo + k, none⟩ = some (.int .i64 (nth l k : Nat)) := fun d => d.cell hRk.lt.2 (hRk.cell hm (by omega))
            have hlk := (HFAN.out.adj k (by omega)).2.2.1
            have r3 : ∀ d : BW wr.heap.size wr, d.w.cell? ⟨p, 2 + nth l k, none⟩ = some (.int .u64 (us2 (nth l k) : Nat)) := fun d => d.cell hPk.lt (hPk.cells.2.2.1 _ hlk)
            have husk := hPk.sm (nth l k)
            have hBW : Hid (∀ d : BW wr.heap.size wr, Below W3.heap.size W3 d.w) := fun d => hBk.trans (d.b.mono hBk.size)
            clear hRk hPk hBk
            have hml := hm
            have HML := Lib.hid hm
            clear hm hml
            gi_wp2
            by_cases hkm2 : k < m
            · have h1 : (k : Int) < (m : Int) := by omega
              have h2 : (0 : Int) ≤ (k : Int) := by omega
              have h3 : (k : Int) < (m : Int) + 1 := by omega
              cases hbt : (us2 (nth l k)).testBit dd with
              | true =>
                refine quietR_bw (by kernel_rfl) (by kernel_rfl) (by kernel_rfl) ?_
                repeat (gi_big_quiet_step (rfl))
                refine wpQuietIn_nil ?_
                rintro _ ⟨d3, rfl⟩
                clear r0 r1 r2 r3
                gi_wp2
                refine ⟨⟨k + 1, by omega, int_eq (by omega), fun i hi => ?_, hBW.out d3⟩, by simp [intOf]; omega⟩
                by_cases hik : i = k
                · subst hik; exact (HMID.out.inv.used _ dd hlk hd64).1 hbt
                · exact hbef.out i (by omega)
              | false =>
                refine quietR_bw (by kernel_rfl) (by kernel_rfl) (by kernel_rfl) ?_
                repeat (gi_big_quiet_step (rfl))
                refine wpQuietIn_nil ?_
                rintro _ ⟨d3, rfl⟩
                clear r0 r1 r2 r3
                gi_wp2
                exact ⟨k, (fanFr4_of _ rfl).elim (fun j h => ⟨j, congrArg (fun t => ({ tmps := t, defers := marks Ds } : Act)) h, hkm, HMID.out.fan k (by rw [HML.out]; omega) hbef.out (fun _ => (HMID.out.inv.free hlk hd64).1 hbt), hBW.out d3⟩)⟩
            · have h1 : ¬ (k : Int) < (m : Int) := by omega
              refine quietR_bw (by kernel_rfl) (by kernel_rfl) (by kernel_rfl) ?_
              repeat (gi_big_quiet_step (rfl))
              refine wpQuietIn_nil ?_
              rintro _ ⟨d3, rfl⟩
              clear r0 r1 r2 r3
              gi_wp2
              exact ⟨k, fanFr4_of _ rfl, hkm, HMID.out.fan k (by rw [HML.out]; omega) hbef.out (fun h => by rw [HML.out] at h; omega), hBW.out d3⟩
        · have hR3 := HFR.out.keep hpb hMb (Ag.of_below d3.b)
          have hP3 := HPW.out.below d3.b
          have hlm : m = l.length - 1 := by rw [HM.out]; rfl
          cases hvd : (us v).testBit dd with
          | false =>
            have hFM : FMid w d3.w b p G M v m fb fo fc D dd g col Ds l us col := ⟨hR3, hP3, HH.out, HBD.out, fun _ => Iff.rfl, fun k hk _ h2 => HFAN.out.r (by rw [← hlm]; exact HDL.out) ((HH.out.free hv hd64).1 hvd) hk h2⟩
            have HFM := Lib.hid hFM
            clear hR3 hP3 hFM
            gi_wp2
            exact ⟨us, col, (fanFr3_of _ rfl).elim (fun j h => ⟨j, congrArg (fun t => ({ tmps := t, defers := marks Ds } : Act)) h, HFM.out⟩)⟩
          | true =>
            have hdvx := (HH.out.used v dd hv hd64).1 hvd
            have HSW := Lib.hid (swap_any p G M n v dd c ea cap elen g us col d3.w (HTW.out.below d3.b (Nat.le_refl _)) (HGW.out.below d3.b (Nat.le_refl _)) HSM.out hP3 HH.out hv hd64 hc64 (HDC.out hvd) HCV.out)
            have HR3 := Lib.hid hR3
            have q0 := hR3.c.cell
            have q1 := hR3.v.cell
            have HLM := Lib.hid hlm
            clear hR3 hP3 hlm
            gi_wp2_with (gi_at_call 88; refine (callsIn_wide.2 HSW.out).mono ?_; rintro e w3 ⟨rfl, hsw⟩; have HW := Lib.hid hsw; clear hsw)
            obtain ⟨us2, wy, hk, he, hP2, hH2, hag2⟩ := HW.out
            have hdone := hk.done HH.out (HDC.out hvd) HCV.out he
            have hmost := swap_most HH.out hH2 hdone HBD.out hdD hcD
            have hFM : FMid w w3 b p G M v m fb fo fc D dd g col Ds l us2 (colP col dd c wy (wy.length - 1)) := ⟨HR3.out.keep hpb hMb hag2, hP2, hH2, hmost.1, hmost.2, fun k hk1 h1 h2 => HFAN.out.swapped HH.out HMX.out (HDC.out hvd) HCV.out (by rw [← HLM.out]; exact HDL.out) hdvx hk hdone hk1 h1 h2⟩
            exact ⟨us2, _, (fanFr3_of _ rfl).elim (fun j h => ⟨j, congrArg (fun t => ({ tmps := t, defers := marks Ds } : Act)) h, hFM⟩)⟩
    | true =>
      gi_wp2
      have hk' : 2 * (17 - l.length) + 1 ≤ k := by simpa using hk
      have F1 := HFIX.out.turn (by have := hb.out; omega) false
      clear cg fg hk HFIX HMAX
      generalize hVV : W.setCell ⟨gB, 0, none⟩ (.bool false) = W1 at *
      clear hVV
      have hpb := F1.below.size
      obtain ⟨pc0, pc1, pcu, pcf⟩ := (HP.out.below F1.below).cells
      have hb1 := F1.c.lt
      have r0 : ∀ d : BW W1.heap.size W1, d.w.cell? ⟨b, 0, none⟩ = some (.pointer (some ⟨p, 0, none⟩)) := fun d => d.cell F1.c.lt F1.c.cell
      have r1 : ∀ d : BW W1.heap.size W1, d.w.cell? ⟨p, 0, none⟩ = some (.pointer (some ⟨G, 0, none⟩)) := fun d => d.cell (Nat.lt_of_lt_of_le hpw F1.below.size) pc0
      have r2 : ∀ d : BW W1.heap.size W1, d.w.cell? ⟨b + 1, 0, none⟩ = some (.int .i64 (v : Int)) := fun d => d.cell F1.v.lt F1.v.cell
      have HF1 := Lib.hid F1
      clear F1 pc0 pc1 pcu pcf
      refine wpIn_region_bw_tail 5 (by kernel_rfl) (by kernel_rfl) (by kernel_rfl) ?_
      simp only [List.take_succ_cons, List.take_zero, List.drop_succ_cons, List.drop_zero]
      repeat (gi_big_quiet_step ((rfl)))
      refine wpQuietIn_nil ?_
      rintro _ ⟨d, rfl⟩
      clear r0 r1 r2
      gi_wp2_with (gi_at_call 85; go_must (refine (callsIn_wide.2 (at_in G v _)).mono ?_); rintro e w' ⟨rfl, rfl⟩)
      have hBU : Below W1.heap.size W1 ((d.w.alloc (.cells #[.pointer (some ⟨G, 0, none⟩)] 79)).alloc (.cells #[.int .i64 (v : Int)] 3)) := (d.b.alloc d.b.size _).alloc (by have := d.b.size; simp; omega) _
      have k4 := (boxed_at (W := d.w) (B := d.w.heap.size) (t := 79) (v := .pointer (some ⟨G, 0, none⟩)) rfl).alloc (.cells #[.int .i64 (v : Int)] 3)
      have k5 := boxed_at (W := d.w.alloc (.cells #[.pointer (some ⟨G, 0, none⟩)] 79)) (B := d.w.heap.size + 1) (t := 3) (v := .int .i64 (v : Int)) (by simp)
      have hszV := d.b.size
      have hszU : ((d.w.alloc (.cells #[.pointer (some ⟨G, 0, none⟩)] 79)).alloc (.cells #[.int .i64 (v : Int)] 3)).heap.size = d.w.heap.size + 2 := by simp
      generalize hde : d.w.heap.size = ds at *
      have HDE := Lib.hid hde
      clear hde
      generalize ((d.w.alloc (.cells #[.pointer (some ⟨G, 0, none⟩)] 79)).alloc (.cells #[.int .i64 (v : Int)] 3)) = U at *
      have HSU := Lib.hid hszU
      clear hszU
      have FU := HF1.out.keep hBU
      have hnx := (HG.out.below FU.below (Nat.le_refl _)).next v hv
      obtain ⟨s, hse⟩ : ∃ s, Hid (s = g[v]?.getD 0) := ⟨_, rfl⟩
      have hs : Sm s := by rw [hse.out]; exact HSM.out v
      rw [← hse.out] at hnx
      refine rf_setsG (by decide) (gf := 98) (lb := #[.pointer (some ⟨ds, 0, none⟩), .pointer (some ⟨ds + 1, 0, none⟩)]) rfl (enters_of Tryd.func98 (by kernel_rfl) rfl)
        (at_stops 5 (by decide) ds (ds + 1) G v s hv hs U (HT.out.below FU.below (Nat.le_refl _)) k4.lt k5.lt (Nat.lt_of_lt_of_le hGw FU.below.size) k4.cell k5.cell hnx) keepsTab_t (keepsTab_b (by have := FU.c.lt; omega)) (fun W => KeepsTab.refl W) (by simp)
        (fun pre X => Below U.heap.size U X ∧ ∀ y ∈ pre, ¬ FCand col v l y.1)
        (fun c pre X => c = .exit 2 ∧ ∃ x, FCand col v l x ∧ x < 16 ∧ FFix w X b p v gB Ds (l ++ [x]) true)
        ?hI ?hIx ?h0 ?body ?done ?stop
      case hI => exact OwnFrom.and (ownFrom_below (Nat.le_refl _) (Nat.le_refl _)) (ownFrom_pure _ _)
      case hIx =>
        intro c pre A B row hs hg hr
        obtain ⟨e, x, hx, hx16, hf⟩ := hs
        refine ⟨e, x, hx, hx16, hf.ag (Ag.of_grown (ex := fun k => row = some k) hg (fun k e => e)) fun k hk => ?_⟩
        obtain ⟨h1, o, ho, hc⟩ := hr k hk
        refine ⟨Nat.le_trans FU.below.size h1, fun hD => ?_, fun o' ho' => ?_⟩
        · have := (Array.getElem?_eq_some_iff.1 (FU.marks.2 k hD).2).1
          omega
        · rw [ho] at ho'; cases ho'; exact hc
      case h0 => exact ⟨Below.refl _ _, fun y hy => by cases hy⟩
      case body =>
        rintro lf pre x X ⟨hB, hno⟩ _
        simp only [List.setIfInBounds_toArray, List.set_cons_zero, List.set_cons_succ]
        have HNO2 := Lib.hid hno
        have FX := FU.keep hB
        have hPX := HP.out.below FX.below
        obtain ⟨_, pc1, pcu, _⟩ := hPX.cells
        have r0 : ∀ d : BW X.heap.size X, d.w.cell? ⟨b, 0, none⟩ = some (.pointer (some ⟨p, 0, none⟩)) := fun d => d.cell FX.c.lt FX.c.cell
        have r1 : ∀ d : BW X.heap.size X, d.w.cell? ⟨p, 1, none⟩ = some (.map (some M)) := fun d => d.cell hPX.lt pc1
        have r2 : ∀ d : BW X.heap.size X, d.w.cell? ⟨b + 1, 0, none⟩ = some (.int .i64 (v : Int)) := fun d => d.cell FX.v.lt FX.v.cell
        have HE : Hid (∀ d : BW X.heap.size X, Calls Tryd.prog 96 #[.int .i64 (v : Int), .int .i64 (x.1 : Int)] d.w fun e w' => e = .returned (ekv (ed v x.1)) ∧ ∃ d' : BW X.heap.size X, w' = d'.w) := fun d => Calls.bw ((edgeOf_any v x.1 d.w).mono fun e w' ⟨h1, h2⟩ => ⟨h1, d.b.trans (h2.mono d.b.size)⟩)
        obtain ⟨hv2, ok, hcase, HL⟩ : ∃ (hv2 : Nat) (ok : Bool), Hid ((ok = false ∧ col (ed v x.1) = none) ∨ (ok = true ∧ col (ed v x.1) = some hv2)) ∧ ∀ d : BW X.heap.size X, (Instr.lookup 114 (.map (some M)) (ekv (ed v x.1)) true).run Tryd.prog d.w = .ok (.tuple #[.int .i64 (hv2 : Int), .bool ok]) d.w := by
          have hl := fun d : BW X.heap.size X => look_f edgeKind true (ed v x.1) d.w M col (hPX.map.below d.b hPX.map.lt)
          cases hc : col (ed v x.1) with
          | none => exact ⟨0, false, Lib.hid (.inl ⟨rfl, rfl⟩), fun d => by have := hl d; rw [hc] at this; exact this⟩
          | some h => exact ⟨h, true, Lib.hid (.inr ⟨rfl, rfl⟩), fun d => by have := hl d; rw [hc] at this; exact this⟩
        have HBd := Lib.hid hB
        have HFX := Lib.hid FX
        have HFU := Lib.hid FU
        clear pc1 pcu hno hB FX hPX FU
        gi_wp2
        refine quietR_bw (by kernel_rfl) (by kernel_rfl) (by kernel_rfl) ?_
        repeat (gi_big_quiet_step ((first
          | rfl
          | (gi_at_call 96; exact CallsIn.inRound lf (callsIn_wide.2 (HE.out _))))))
        refine wpQuietIn_nil ?_
        rintro _ ⟨d2, rfl⟩
        clear r0 r1 r2 HE HL
        have FY := HFX.out.keep d2.b
        have HBd2 := Lib.hid (HBd.out.trans (d2.b.mono HBd.out.size))
        have HYX := Lib.hid d2.b
        generalize d2.w = Y at *
        clear HFX
        cases ok
        · have hn : Hid (col (ed v x.1) = none) := by
            unfold Hid
            rcases hcase.out with ⟨_, h⟩ | ⟨h, _⟩
            · exact h
            · cases h
          gi_wp2
          refine quietR_bw (by kernel_rfl) (by kernel_rfl) (by kernel_rfl) ?_
          repeat (gi_big_quiet_step (rfl))
          refine wpQuietIn_nil ?_
          rintro _ ⟨d3, rfl⟩
          gi_wp2
          exact ⟨below_kf (HYX.out.trans (d3.b.mono HYX.out.size)), fun h => (h.below HYX.out (Nat.le_refl _)).below d3.b (Nat.le_refl _), HBd2.out.trans (d3.b.mono HBd2.out.size), fun y hy => by
            rcases List.mem_append.1 hy with hy | hy
            · exact HNO2.out y hy
            · simp at hy; subst hy; rintro ⟨h, h1, _⟩; rw [hn.out] at h1; cases h1⟩
        · have hn : Hid (col (ed v x.1) = some hv2) := by
            unfold Hid
            rcases hcase.out with ⟨h, _⟩ | ⟨_, h⟩
            · cases h
            · exact h
          have hE := HH.out.edge _ _ _ hn.out
          have hx16 := hE.2.2.1
          have hh15 := HBD.out _ _ hn.out
          have r4 : ∀ d : BW Y.heap.size Y, d.w.cell? ⟨b + 1 + 1 + 1 + 1, 0, none⟩ = some (.int .i64 (ms l : Nat)) := fun d => d.cell FY.inb.lt FY.inb.cell
          have hms : Sm (ms l) := Nat.lt_trans (ms_lt fun y hy => by obtain ⟨i, hi, rfl⟩ := mem_nth hy; exact (HFAN.out.adj i hi).2.2.1) (by decide)
          have hwx : IntKind.u64.wrap (x.1 : Int) = (x.1 : Int) := u64_same _ (by omega)
          have hwh : IntKind.u64.wrap (hv2 : Int) = (hv2 : Int) := u64_same _ (by omega)
          clear hE
          cases hxl : (ms l).testBit x.1 with
          | true =>
            gi_wp2
            refine quietR_bw (by kernel_rfl) (by kernel_rfl) (by kernel_rfl) ?_
            repeat (gi_big_quiet_step (rfl))
            refine wpQuietIn_nil ?_
            rintro _ ⟨d3, rfl⟩
            gi_wp2
            exact ⟨below_kf (HYX.out.trans (d3.b.mono HYX.out.size)), fun h => (h.below HYX.out (Nat.le_refl _)).below d3.b (Nat.le_refl _), HBd2.out.trans (d3.b.mono HBd2.out.size), fun y hy => by
              rcases List.mem_append.1 hy with hy | hy
              · exact HNO2.out y hy
              · simp at hy; subst hy; rintro ⟨h, _, h1, _⟩; exact h1 ((ms_bit l y.1).1 hxl)⟩
          | false =>
            obtain ⟨qv, q1, q2, q3⟩ := FY.fan
            obtain ⟨m, hm⟩ : ∃ m, l.length = m + 1 := ⟨l.length - 1, by have := HFAN.out.pos; omega⟩
            rw [hm] at q2
            obtain ⟨fb, fo, fc, rfl, _, f2, f3, f4, f5, f6⟩ := q2.at (by omega)
            have hla := HFAN.out.adj m (by omega)
            have hm16 : m < 16 := by have := HFAN.out.len; omega
            have hPY := HP.out.below FY.below
            have hu := hPY.cells.2.2.1 (nth l m) hla.2.2.1
            have c6 := f5 m (by omega)
            rw [iv_get (by omega)] at c6
            have r5 : ∀ d : BW Y.heap.size Y, d.w.cell? ⟨b + 1 + 1 + 1, 0, none⟩ = some (.slice (some ⟨fb, fo, none⟩) (m + 1) fc) := fun d => d.cell q1.lt q1.cell
            have r6 : ∀ d : BW Y.heap.size Y, d.w.cell? ⟨fb, fo + m, none⟩ = some (.int .i64 (nth l m : Nat)) := fun d => d.cell f2 c6
            have r7 : ∀ d : BW Y.heap.size Y, d.w.cell? ⟨b, 0, none⟩ = some (.pointer (some ⟨p, 0, none⟩)) := fun d => d.cell FY.c.lt FY.c.cell
            have r8 : ∀ d : BW Y.heap.size Y, d.w.cell? ⟨p, 2 + nth l m, none⟩ = some (.int .u64 (us (nth l m) : Nat)) := fun d => d.cell hPY.lt hu
            have hl16 := hla.2.2.1
            have hus := HP.out.sm (nth l m)
            have HQ2 := Lib.hid q2
            have HQ3 := Lib.hid q3
            have HF6 := Lib.hid f6
            have HM := Lib.hid hm
            have HPY := Lib.hid hPY
            have HFY := Lib.hid FY
            have HQ1 := Lib.hid q1
            have hc15 : hv2 < 64 := by omega
            clear q1 q2 q3 f5 f6 hm hu c6 hPY FY hla
            cases hb2 : (us (nth l m)).testBit hv2 with
            | true =>
              gi_wp2
              refine quietR_bw (by kernel_rfl) (by kernel_rfl) (by kernel_rfl) ?_
              repeat (gi_big_quiet_step (rfl))
              refine wpQuietIn_nil ?_
              rintro _ ⟨d3, rfl⟩
              gi_wp2
              exact ⟨below_kf (HYX.out.trans (d3.b.mono HYX.out.size)), fun h => (h.below HYX.out (Nat.le_refl _)).below d3.b (Nat.le_refl _), HBd2.out.trans (d3.b.mono HBd2.out.size), fun y hy => by
                rcases List.mem_append.1 hy with hy | hy
                · exact HNO2.out y hy
                · simp at hy; subst hy; rintro ⟨h, h1, _, h2⟩
                  rw [hn.out] at h1; cases h1
                  rw [HM.out, Nat.add_sub_cancel] at h2
                  have := (HH.out.free hl16 hc15).2 h2
                  rw [hb2] at this; cases this⟩
            | false =>
              gi_wp2
              refine quietR_bw (by kernel_rfl) (by kernel_rfl) (by kernel_rfl) ?_
              repeat (gi_big_quiet_step (rfl))
              refine wpQuietIn_nil ?_
              rintro _ ⟨d3, rfl⟩
              clear r4 r5 r6 r7 r8
              have FZ := HFY.out.keep d3.b
              have hZ3 := boxed_below HQ1.out d3.b
              have hQZ := Lib.hid (HQ2.out.below d3.b (fun k e => by have e' : some fb = some k := e; cases e'; exact f2))
              have HFZ := Lib.hid FZ
              have z3 := hZ3.cell
              have z3f := hZ3.frozen
              have z4 := FZ.inb.cell
              have z4f := FZ.inb.frozen
              have z5f := FZ.grow.frozen
              have zg := FZ.hgB
              have zlt := FZ.grow.lt
              have HZ3 := Lib.hid hZ3
              have hpw2 : wrap64 (2 ^ x.1) = ((pw x.1 : Nat) : Int) := pw_cast _ (by omega)
              have hspw : Sm (pw x.1) := sm_pw (by omega)
              have HZX := Lib.hid d3.b
              generalize d3.w = Z at *
              clear FZ hZ3
              gi_wp2_with (first
                | (gi_at_builtin; go_must (refine wpListIn_append_q _ rfl (.tmp 68) (.tmp 70) 25 rfl (b + 1 + 1) 3 i0 (.int .i64 0) 1 8 Tryd.underlying25 hi hz0 hz1 hz2 rfl (by decide) _ (m + 1) (iv l) rfl (hQZ.out.alloc (.cells #[.int .i64 (x.1 : Int)] 3)) ⟨Z.heap.size, 0, none⟩ 1 1 [.int .i64 (x.1 : Int)] rfl rfl (cells_new1 _ _ _) (by simp [Value.oneCell']) (by unfold maxLen; omega) (by omega) (by simp; omega) ?_); intro v4 V4 hq4 hg4 ho4; obtain ⟨p4, c4, hv4⟩ := hq4.isSlice; subst hv4; have w3 := (HZ3.out.alloc (.cells #[.int .i64 (x.1 : Int)] 3)).kept hg4 (hQZ.out.ne_box HZ3.out (by decide)).symm; have w4 := (HFZ.out.inb.alloc (.cells #[.int .i64 (x.1 : Int)] 3)).kept hg4 (Ne.symm HQ3.out); have w5 := (HFZ.out.grow.alloc (.cells #[.int .i64 (x.1 : Int)] 3)).kept hg4 (hQZ.out.ne_box HFZ.out.grow (by decide)).symm; have y3 := w3.frozen; have y4 := w4.cell; have y4f := w4.frozen; have y5 := w5.frozen; have y3c := w3.cell; have y5c := w5.cell; have HW3 := Lib.hid w3; clear w3 w4 w5 z3 z3f z4 z4f z5f))
              have hlong := FFix.longer (x := x.1) (mv := ms l ||| pw x.1) HFZ.out (by have := hb.out; omega) HZ3.out (by rw [HM.out]; exact hQZ.out) HQ3.out (by rw [HM.out]; exact hq4) hg4 ho4 (ms_snoc l x.1).symm
              have hagX := (Ag.of_below (ex := fun k => k = b + 1 + 1 + 1 ∨ k = b + 1 + 1 + 1 + 1 ∨ k = gB ∨ (Value.slice (some ⟨fb, fo, none⟩) (m + 1) fc).ownBlock = some k) (HYX.out.trans (HZX.out.mono HYX.out.size))).trans hlong.2
              refine ⟨KeepsFrom.of_ag hagX (fun k o hk ho2 hc e => ?_), rfl, x.1, ⟨hv2, hn.out, fun hm2 => ?_, ?_⟩, hx16, hlong.1⟩
              · have ho3 : Z.heap[k]? = some o := ((HYX.out.trans (HZX.out.mono HYX.out.size)).block k (Array.getElem?_eq_some_iff.1 ho2).1).trans ho2
                rcases e with rfl | rfl | rfl | e
                · rw [show Z.heap[b + 1 + 1 + 1]? = _ from HZ3.out] at ho3; cases ho3; cases hc
                · rw [show Z.heap[b + 1 + 1 + 1 + 1]? = _ from HFZ.out.inb] at ho3; cases ho3; cases hc
                · rw [show Z.heap[k]? = _ from HFZ.out.grow] at ho3; cases ho3; cases hc
                · obtain ⟨o', h1, h2⟩ := hQZ.out.own_cells e
                  rw [h1] at ho3; cases ho3; rw [h2] at hc; cases hc
              · have := (ms_bit l x.1).2 hm2
                rw [hxl] at this; cases this
              · rw [HM.out, Nat.add_sub_cancel]
                exact (HH.out.free hl16 hc15).1 hb2
      case done =>
        rintro Dm xs X hDm hS ⟨hB, hno⟩ hDX
        have FX := FU.keep hB
        have cg := FX.grow.cell
        have hmax : FanMax col v l := fun x h hx hxl => Classical.byContradiction fun hc => by
          have hE := HH.out.edge _ _ _ hx
          have hxs : x ∈ els s := (mem_els hs).2 (by rw [hse.out]; exact hE.2.2.2.1)
          refine hno (toS x) (by rw [hS]; exact List.mem_map.2 ⟨x, hxs, rfl⟩) ⟨h, ?_, ?_, ?_⟩
          · rw [toS_val (sm_of (by omega))]; exact hx
          · rw [toS_val (sm_of (by omega))]; exact hxl
          · exact fun y hy => hc ⟨y, hy⟩
        have HFX := Lib.hid FX
        have HMX := Lib.hid hmax
        have HDX := Lib.hid hDX
        have HFU := Lib.hid FU
        clear FX hmax hno hDX hnx FU
        gi_wp2
        have hbU := HFU.out.inb.lt
        have hDn : Dm ∉ Ds := fun h => by have := (Array.getElem?_eq_some_iff.1 (HFU.out.marks.2 Dm h).2).1; omega
        exact ⟨k - 1, by omega, hJ _ _ _ ⟨X.heap.size, Dm :: Ds, l, false, fanFr_of _ rfl, rfl, HFX.out.round HDX.out hDn (by omega) false, HFAN.out, hl0, fun _ => HMX.out, by simp; omega⟩⟩
      case stop =>
        rintro Dm c pre X hDm ⟨r, hr⟩ ⟨rfl, x, ⟨h, hxh, hxl, hxf⟩, hx16, FX⟩ hDX
        have hE := HH.out.edge _ _ _ hxh
        have hE' := HH.out.edge _ _ _ ((congrArg col (ed_comm _ _)).trans hxh)
        have hfan2 := HFAN.out.snoc hxh hxf hxl hE.2.2.2.1 hE'.2.2.2.1 hx16 hE.1
        have hlen2 := hfan2.len
        have hl02 : nth (l ++ [x]) 0 = w0 := by rw [nth_app_l HFAN.out.pos]; exact hl0
        rw [List.length_append] at hlen2
        have HF2 := Lib.hid hfan2
        have cg := FX.grow.cell
        have HFX := Lib.hid FX
        have HDX := Lib.hid hDX
        have HFU := Lib.hid FU
        clear FX hDX hnx FU hfan2 hxf hxl hxh hE hE'
        gi_wp2
        have hbU := HFU.out.inb.lt
        have hDn : Dm ∉ Ds := fun h => by have := (Array.getElem?_eq_some_iff.1 (HFU.out.marks.2 Dm h).2).1; omega
        exact ⟨k - 1, by omega, hJ _ _ _ ⟨X.heap.size, Dm :: Ds, l ++ [x], true, fanFr_of _ rfl, rfl, HFX.out.round HDX.out hDn (by omega) true, HF2.out, hl02, (fun h => by cases h), by simp at hlen2 ⊢; omega⟩⟩
end Go.Proofs.YtpknnjcbcndbbaaDoor
namespace Go.Proofs.YtpknnjcbcndbbaaDoor
open Go.RowKit Go.Shelf

set_option maxRecDepth 100000 in
set_option maxHeartbeats 2000000 in
theorem newPaint_any (G : Nat) (w : World) :
    Calls Tryd.prog 77 #[.pointer (some ⟨G, 0, none⟩)] w fun e w' => e = .returned (.pointer (some ⟨w.heap.size + 1, 0, none⟩)) ∧ PaintAt w' (w.heap.size + 1) G w.heap.size (fun _ => 0) (fun _ => none) ∧ Below w.heap.size w w' := by
  have hmm := @run_makeMap Tryd.prog
  go_enter Tryd.func77, Tryd.ntmps77
  go_wp2
  refine bodyPost_ret (v := .pointer (some ⟨w.heap.size + 1, 0, none⟩)) (by simp [results, Tryd.f77, go_sem]) rfl ⟨rfl, ?_, ?_⟩
  · refine ⟨⟨_, BoxN.new (by simp), rfl, rfl, rfl, fun v hv => ?_⟩, (MapF.made (kv := ekv) (vv := ivv) w).grown (World.grownBy_alloc _ _ none) (by simp), by omega, fun v => by decide⟩
    have h : v = 0 ∨ v = 1 ∨ v = 2 ∨ v = 3 ∨ v = 4 ∨ v = 5 ∨ v = 6 ∨ v = 7 ∨ v = 8 ∨ v = 9 ∨ v = 10 ∨ v = 11 ∨ v = 12 ∨ v = 13 ∨ v = 14 ∨ v = 15 := by omega
    rcases h with rfl | rfl | rfl | rfl | rfl | rfl | rfl | rfl | rfl | rfl | rfl | rfl | rfl | rfl | rfl | rfl <;> rfl
  · exact ((Below.refl _ w).alloc (Nat.le_refl _) _).alloc (by simp) _
theorem HInv.empty {g : List Nat} : HInv g (fun _ => 0) (fun _ => none) :=
  ⟨(fun _ _ _ h => by cases h), (fun _ _ h => by cases h), (fun _ _ _ _ h => by cases h), (fun v h _ _ => by simp)⟩
def pr (q : Int × Int) : Nat × Nat := (q.1.toNat, q.2.toNat)
/-- the hues of the edges, in their order -/
def hl (col : Nat × Nat → Option Nat) (ps : List (Int × Int)) : List Value := ps.map fun q => .int .i64 (((col (pr q)).getD 0 : Nat) : Int)
set_option maxRecDepth 100000 in
set_option maxHeartbeats 2000000 in
theorem list_any (p G M n : Nat) (a : Option Addr) (cap : Nat) (g : List Nat) (us : Nat → Nat) (col : Nat × Nat → Option Nat) (ps : List (Int × Int)) (w : World) (hg : GraphAt w G n a cap ps.length g) (hE : Pairs w a ps) (hP : PaintAt w p G M us col) (hps : ∀ q ∈ ps, 0 ≤ q.1 ∧ 0 ≤ q.2) (hlen : ps.length ≤ 1099511627776) :
    Calls Tryd.prog 82 #[.pointer (some ⟨p, 0, none⟩)] w fun e w' => ∃ v, e = .returned v ∧ QRow w' w.heap.size 3 1 v ps.length (hl col ps) ∧ Below w.heap.size w w' := by
  obtain ⟨i0, hi, hz0, hz1, hz2⟩ := info_parts info3
  have HG := Lib.hid hg
  have HE := Lib.hid hE
  have HP := Lib.hid hP
  have HPS := Lib.hid hps
  have c0 := hP.cells.1
  have c1 := hg.e
  clear hg hE hP hps
  go_enter Tryd.func82, Tryd.ntmps82
  go_wp2
  go_loopw [3, 14] (fun s3 s14 wr => ∃ k : Nat, k ≤ ps.length ∧ s14 = .int .i64 (k : Int) ∧ QRow wr w.heap.size 3 1 s3 k (hl col (ps.take k)) ∧ Below w.heap.size w wr) (fun _ s14 _ => ps.length - (intOf s14).toNat)
  case atStart => exact ⟨0, by omega, rfl, QRow.nil _ _ _ _, Below.refl _ _⟩
  case round =>
    obtain ⟨k, hk, rfl, hq, hB⟩ := hrel
    clear c0 c1
    by_cases hlt : k < ps.length
    · have h1 : (k : Int) < (ps.length : Int) := by omega
      have h0 : (0 : Int) ≤ (k : Int) := by omega
      obtain ⟨eb, eo, ea, helt, hec⟩ := HE.out (fun e => by rw [e] at hlt; simp at hlt)
      subst ea
      have hk0 := hec k hlt
      obtain ⟨⟨qx, qy⟩, hqe⟩ : ∃ q, ps[k]? = some q := ⟨_, List.getElem?_eq_getElem hlt⟩
      have hnn := HPS.out _ (List.mem_of_getElem? hqe)
      obtain ⟨x, rfl⟩ : ∃ x : Nat, qx = (x : Int) := ⟨qx.toNat, by have := hnn.1; simp only at this; omega⟩
      obtain ⟨y, rfl⟩ : ∃ y : Nat, qy = (y : Int) := ⟨qy.toNat, by have := hnn.2; simp only at this; omega⟩
      rw [hqe] at hk0
      simp only [Option.getD_some] at hk0
      have e0 := (hB.cell (p := ⟨eb, eo + k * 2, none⟩) helt).trans hk0.1
      have e1 := (hB.cell (p := ⟨eb, eo + k * 2 + 1, none⟩) helt).trans hk0.2
      have htake : hl col (ps.take (k + 1)) = hl col (ps.take k) ++ [.int .i64 (((col (x, y)).getD 0 : Nat) : Int)] := by
        unfold hl
        rw [List.take_add_one, hqe, List.map_append]
        simp [pr]
      have HTK := Lib.hid htake
      have HB := Lib.hid hB
      have HQ := Lib.hid hq
      have hpr := HP.out.below hB
      have c1 := hpr.cells.2.1
      have hpl := hpr.lt
      clear hec hk0 hqe hnn htake hq hB
      have HPR := Lib.hid hpr
      clear hpr
      go_wp2
      have hBV : Below wr.heap.size wr (wr.alloc (.cells #[.int .i64 (x : Int), .int .i64 (y : Int)] 72)) := (Below.refl _ wr).alloc (Nat.le_refl _) _
      have hbn : BoxN (wr.alloc (.cells #[.int .i64 (x : Int), .int .i64 (y : Int)] 72)) wr.heap.size 72 #[.int .i64 (x : Int), .int .i64 (y : Int)] := BoxN.new rfl
      obtain ⟨bx, hbx⟩ : ∃ bx, Hid (bx = wr.heap.size) := ⟨_, rfl⟩
      have hvs : (wr.alloc (.cells #[.int .i64 (x : Int), .int .i64 (y : Int)] 72)).heap.size = wr.heap.size + 1 := by simp
      have HQV := Lib.hid (HQ.out.alloc (.cells #[.int .i64 (x : Int), .int .i64 (y : Int)] 72))
      rw [← hbx.out] at hbn hvs ⊢
      generalize (wr.alloc (.cells #[.int .i64 (x : Int), .int .i64 (y : Int)] 72)) = V at *
      have hPV := HPR.out.below hBV
      have hBW := HB.out.trans (hBV.mono HB.out.size)
      have r1 : ∀ d : BW V.heap.size V, d.w.cell? ⟨p, 1, none⟩ = some (.map (some M)) := fun d => d.cell hPV.lt hPV.cells.2.1
      have r2 : ∀ d : BW V.heap.size V, d.w.cell? ⟨bx, 0, none⟩ = some (.int .i64 (x : Int)) := fun d => d.cell (hbn.lt) (by rw [hbn.cell]; rfl)
      have r3 : ∀ d : BW V.heap.size V, d.w.cell? ⟨bx, 1, none⟩ = some (.int .i64 (y : Int)) := fun d => d.cell (hbn.lt) (by rw [hbn.cell]; rfl)
      have HL : ∀ d : BW V.heap.size V, (Instr.lookup 114 (.map (some M)) (.agg #[.int .i64 (x : Int), .int .i64 (y : Int)]) false).run Tryd.prog d.w = .ok (.int .i64 (((col (x, y)).getD 0 : Nat) : Int)) d.w := fun d => look_f edgeKind false (x, y) d.w M col (hPV.map.below d.b hPV.map.lt)
      have HBW := Lib.hid hBW
      clear hbn hPV hBV hBW e0 e1 c1 hpl
      refine wp_region_bw_copy_tail 11 (by kernel_rfl) (by kernel_rfl) (fun _ _ _ h => h) (.inl ⟨rfl, fun _ => rfl⟩) ?_
      simp only [Act.put, Act.eval, List.getElem?_toArray, List.getElem?_cons_zero, List.getElem?_cons_succ, Option.getD_some, List.setIfInBounds_toArray, List.set_cons_zero, List.set_cons_succ, Nat.reduceSub, Array.getD_eq_getD_getElem?]
      simp only [List.take_succ_cons, List.take_zero, List.drop_succ_cons, List.drop_zero]
      repeat (go_big_quiet_step (rfl))
      refine wpQuiet_nil ?_
      rintro _ ⟨d, rfl⟩
      clear r1 r2 r3 HL
      have hqd := HQV.out.below d.b (fun kk e => (HQV.out.lt kk e).2)
      have HQD := Lib.hid (hqd.alloc (.cells #[.int .i64 (((col (x, y)).getD 0 : Nat) : Int)] 3))
      have HBD := Lib.hid (HBW.out.trans (d.b.mono HBW.out.size))
      have hkk := Lib.hid (fun kk => hqd.lt kk)
      have hdsz := HBD.out.size
      clear hqd
      generalize d.w = Z at *
      go_wp2_with (at_builtin; go_must (refine wpList_append_q _ rfl (.tmp 18) (.tmp 29) 25 rfl w.heap.size 3 i0 (.int .i64 0) 1 8 Tryd.underlying25 hi hz0 hz1 hz2 rfl (by decide) _ k (hl col (ps.take k)) rfl HQD.out ⟨Z.heap.size, 0, none⟩ 1 1 [.int .i64 (((col (x, y)).getD 0 : Nat) : Int)] rfl rfl (cells_new1 _ _ _) (by simp [Value.oneCell']) (by unfold maxLen; omega) (by omega) (by simp; omega) ?_); intro v4 w4 hq4 hg4 ho4)
      refine ⟨⟨k + 1, by omega, int_eq (by omega), by rw [HTK.out]; exact hq4, Below.grown (HBD.out.alloc HBD.out.size _) hg4 (by simp; omega) (fun kk e => (hkk.out kk e).1)⟩, ?_⟩
      simp [intOf]; omega
    · have h1 : ¬ (k : Int) < (ps.length : Int) := by omega
      have hke : k = ps.length := by omega
      rw [hke, List.take_length] at hq
      obtain ⟨q1, q2, rfl⟩ := hq.isSlice
      have HB := Lib.hid hB
      have HQ := Lib.hid hq
      clear hq hB hke
      go_wp2
      go_ret
      exact ⟨_, rfl, HQ.out, HB.out⟩
end Go.Proofs.YtpknnjcbcndbbaaDoor
namespace Go.Proofs.YtpknnjcbcndbbaaDoor
open Go.RowKit Go.Shelf

/-- edges of a graph: the lesser end first, each once -/
structure EdgesOK (g : List Nat) (ps : List (Int × Int)) : Prop where
  edge : ∀ j, j < ps.length → ∃ x y : Nat, ps[j]? = some ((x : Int), (y : Int)) ∧ x < y ∧ y < 16 ∧ adj g x y ∧ adj g y x
  nd : ∀ i j, i < j → j < ps.length → ps[i]? ≠ ps[j]?
theorem ed_lt {x y : Nat} (h : x < y) : ed x y = (x, y) := by unfold ed; rw [Nat.min_eq_left (by omega), Nat.max_eq_right (by omega)]
set_option maxRecDepth 100000 in
set_option maxHeartbeats 2000000 in
theorem vizing_any (G n D : Nat) (a : Option Addr) (cap : Nat) (g : List Nat) (ps : List (Int × Int)) (w : World) (hT : Tab w) (hg : GraphAt w G n a cap ps.length g) (hE : Pairs w a ps) (hsm : ∀ i : Nat, Sm (g[i]?.getD 0)) (hok : EdgesOK g ps) (hlen : ps.length ≤ 1099511627776) (hD : D ≤ 15) (hdeg : ∀ u, u < 16 → (els (g[u]?.getD 0)).length ≤ D) :
    Calls Tryd.prog 56 #[.pointer (some ⟨G, 0, none⟩)] w fun e w' => ∃ v us col, e = .returned v ∧ QRow w' w.heap.size 3 1 v ps.length (hl col ps) ∧ Below w.heap.size w w' ∧ HInv g us col ∧ (∀ e h, col e = some h → h ≤ D) ∧ ∀ q ∈ ps, col (pr q) ≠ none := by
  have HT := Lib.hid hT
  have HG := Lib.hid hg
  have HE := Lib.hid hE
  have HSM := Lib.hid hsm
  have HOK := Lib.hid hok
  have HDEG := Lib.hid hdeg
  have hGl := hg.lt
  have c1 := hg.e
  clear hT hg hE hsm hok hdeg
  go_enter Tryd.func56, Tryd.ntmps56
  go_wp2_with (go_at_call 77; refine (newPaint_any G w).mono ?_; rintro e w1 ⟨rfl, hp1, hb1⟩; have HP1 := Lib.hid hp1; have HB1 := Lib.hid hb1; have c1' := (hb1.cell (p := ⟨G, 1, none⟩) hGl).trans c1; clear hp1 hb1 c1)
  obtain ⟨P, hPe⟩ : ∃ P, Hid (P = w.heap.size + 1) := ⟨_, rfl⟩
  have HP0 : Hid (∃ us col, PaintAt w1 P G w.heap.size us col ∧ HInv g us col ∧ (∀ e h, col e = some h → h ≤ D) ∧ ∀ e, col e = none ↔ ∀ j, j < 0 → e ≠ pr (ps[j]?.getD (0, 0))) :=
    ⟨_, _, by rw [hPe.out]; exact HP1.out, HInv.empty, (fun _ _ h => by cases h), fun e => ⟨(fun _ j hj => by omega), fun _ => rfl⟩⟩
  rw [← hPe.out]
  clear HP1 c1'
  go_loopw [5, 13] (fun _ s13 wr => ∃ k : Nat, k ≤ ps.length ∧ s13 = .int .i64 (k : Int) ∧ Hid (∃ us col, PaintAt wr P G w.heap.size us col ∧ HInv g us col ∧ (∀ e h, col e = some h → h ≤ D) ∧ ∀ e, col e = none ↔ ∀ j, j < k → e ≠ pr (ps[j]?.getD (0, 0))) ∧ Below w.heap.size w wr) (fun _ s13 _ => ps.length - (intOf s13).toNat)
  case atStart => exact ⟨0, by omega, rfl, HP0, HB1.out⟩
  case round =>
    clear HP0
    obtain ⟨k, hk, rfl, hR, hB⟩ := hrel
    by_cases hlt : k < ps.length
    · have h1 : (k : Int) < (ps.length : Int) := by omega
      have h0 : (0 : Int) ≤ (k : Int) := by omega
      obtain ⟨eb, eo, ea, helt, hec⟩ := HE.out (fun e => by rw [e] at hlt; simp at hlt)
      subst ea
      have hk0 := hec k hlt
      obtain ⟨x, y, hqe, hxy, hy16, hadj, hadj'⟩ := HOK.out.edge k hlt
      rw [hqe] at hk0
      simp only [Option.getD_some] at hk0
      have e0 := (hB.cell (p := ⟨eb, eo + k * 2, none⟩) helt).trans hk0.1
      have e1 := (hB.cell (p := ⟨eb, eo + k * 2 + 1, none⟩) helt).trans hk0.2
      obtain ⟨us, col, hP, hH, hbd, hdom⟩ := hR.out
      have hno : col (ed x y) = none := by
        rw [hdom, ed_lt hxy]
        intro j hj he
        obtain ⟨x', y', hq', _⟩ := HOK.out.edge j (by omega)
        rw [hq'] at he
        simp only [Option.getD_some, pr, Int.toNat_natCast] at he
        have := HOK.out.nd j k hj hlt
        rw [hq', hqe] at this
        cases he
        exact this rfl
      have HF : Hid (∀ V, Below wr.heap.size wr V → Calls Tryd.prog 83 #[.pointer (some ⟨P, 0, none⟩), .int .i64 (x : Int), .int .i64 (y : Int)] V fun e w' => e = .returned (.tuple #[]) ∧ (∃ us col, PaintAt w' P G w.heap.size us col ∧ HInv g us col ∧ (∀ e h, col e = some h → h ≤ D) ∧ ∀ e, col e = none ↔ ∀ j, j < k + 1 → e ≠ pr (ps[j]?.getD (0, 0))) ∧ Below w.heap.size w w') := fun V hV => by
        have hBV := hB.trans (hV.mono hB.size)
        refine (callsIn_wide.1 (fan_in P G w.heap.size n x y D _ cap ps.length g us col V (HT.out.below hBV (Nat.le_refl _)) (HG.out.below hBV (Nat.le_refl _)) HSM.out (hP.below hV) hH (by omega) hy16 (by omega) hadj hadj' hno hD hbd HDEG.out)).mono ?_
        rintro e w' ⟨h1, us', col', h2, h3, h4, h5, h6⟩
        refine ⟨h1, ⟨us', col', h2, h3, h4, fun e => ?_⟩, h6.below hBV hBV.size (fun k hk e => by have := hPe.out; omega)⟩
        rw [h5, hdom, ed_lt hxy]
        have hpk : pr (ps[k]?.getD (0, 0)) = (x, y) := by rw [hqe]; simp [pr]
        constructor
        · rintro ⟨h7, h8⟩ j hj
          by_cases hjk : j = k
          · subst hjk; rw [hpk]; exact h8
          · exact h7 j (by omega)
        · intro h7
          exact ⟨fun j hj => h7 j (by omega), by rw [← hpk]; exact h7 k (by omega)⟩
      clear hec hk0 hqe hR hP hH hbd hdom hno hadj hadj' hB
      go_wp2_with (go_at_call 83; refine (HF.out _ ((Below.refl _ wr).alloc (Nat.le_refl _) _)).mono ?_; rintro e w5 ⟨rfl, hR5, hb5⟩; have HR5 := Lib.hid hR5; have HB5 := Lib.hid hb5; clear hR5 hb5)
      exact ⟨⟨k + 1, by omega, int_eq (by omega), HR5, HB5.out⟩, by simp [intOf]; omega⟩
    · have h1 : ¬ (k : Int) < (ps.length : Int) := by omega
      have hke : k = ps.length := by omega
      rw [hke] at hR
      obtain ⟨us, col, hP, hH, hbd, hdom⟩ := hR.out
      have HL := Lib.hid (list_any P G w.heap.size n a cap g us col ps wr (HG.out.below hB (Nat.le_refl _)) (HE.out.below hB (Nat.le_refl _)) hP (fun q hq => by
        obtain ⟨j, hj⟩ := List.getElem?_of_mem hq
        obtain ⟨x, y, h1, _⟩ := HOK.out.edge j (List.getElem?_eq_some_iff.1 hj).1
        rw [hj] at h1; cases h1; exact ⟨by simp, by simp⟩) hlen)
      have HH := Lib.hid hH
      have HBD := Lib.hid hbd
      have HDO := Lib.hid hdom
      have HB := Lib.hid hB
      clear hR hP hH hbd hdom hB hke
      go_wp2_with (go_at_call 82; refine (HL.out).mono ?_; rintro e w5 ⟨v5, rfl, hq5, hb5⟩; obtain ⟨s1, s2, rfl⟩ := hq5.isSlice; have HQ5 := Lib.hid hq5; have HB5 := Lib.hid hb5; clear hq5 hb5)
      go_ret
      refine ⟨_, us, col, rfl, HQ5.out.mono HB.out.size, HB.out.trans (HB5.out.mono HB.out.size), HH.out, HBD.out, fun q hq hc => ?_⟩
      obtain ⟨j, hj⟩ := List.getElem?_of_mem hq
      have := (HDO.out _).1 hc j (List.getElem?_eq_some_iff.1 hj).1
      rw [hj] at this
      exact this rfl
end Go.Proofs.YtpknnjcbcndbbaaDoor
namespace Go.Proofs.YtpknnjcbcndbbaaDoor
open Go.RowKit Go.Shelf

theorem under98 : Tryd.prog.underlying 98 = some (.array 16 3) := by kernel_rfl
theorem index98 (arr : Array Value) (k x : Nat) (W : World) (hk : k < 16) (ha : arr[k]? = some (.int .i64 (x : Int))) : (Instr.index 98 (.agg arr) (.int .i64 (k : Int))).run Tryd.prog W = .ok (.int .i64 (x : Int)) W := by
  have h1 : (k : Int) < 16 := by omega
  have h0 : (0 : Int) ≤ (k : Int) := by omega
  have h2 : (Int.toNat (k : Int)) = k := by omega
  simp [Instr.index, run_underlying under98, asIntOf, go_sem, h1, part, ha]
  intro h; omega
/-- the greatest number of neighbours of the first k vertices -/
def dgTo (g : List Nat) : Nat → Nat
  | 0 => 0
  | k + 1 => max (dgTo g k) (size (g[k]?.getD 0))
set_option maxRecDepth 100000 in
set_option maxHeartbeats 2000000 in
theorem degree_any (G n : Nat) (a : Option Addr) (cap len : Nat) (g : List Nat) (w : World) (hg : GraphAt w G n a cap len g) (hsm : ∀ i : Nat, Sm (g[i]?.getD 0)) :
    Calls Tryd.prog 53 #[.pointer (some ⟨G, 0, none⟩)] w fun e w' => e = .returned (.int .i64 (dgTo g 16 : Nat)) ∧ w' = w := by
  have HSM := Lib.hid hsm
  obtain ⟨s, hs⟩ : ∃ s : Nat → Nat, ∀ j, s j = g[j]?.getD 0 := ⟨fun j => g[j]?.getD 0, fun _ => rfl⟩
  have c0 : w.cell? ⟨G, 2, none⟩ = some (.int .i64 (s 0 : Nat)) := by rw [hs]; exact hg.next 0 (by omega)
  have c1 : w.cell? ⟨G, 3, none⟩ = some (.int .i64 (s 1 : Nat)) := by rw [hs]; exact hg.next 1 (by omega)
  have c2 : w.cell? ⟨G, 4, none⟩ = some (.int .i64 (s 2 : Nat)) := by rw [hs]; exact hg.next 2 (by omega)
  have c3 : w.cell? ⟨G, 5, none⟩ = some (.int .i64 (s 3 : Nat)) := by rw [hs]; exact hg.next 3 (by omega)
  have c4 : w.cell? ⟨G, 6, none⟩ = some (.int .i64 (s 4 : Nat)) := by rw [hs]; exact hg.next 4 (by omega)
  have c5 : w.cell? ⟨G, 7, none⟩ = some (.int .i64 (s 5 : Nat)) := by rw [hs]; exact hg.next 5 (by omega)
  have c6 : w.cell? ⟨G, 8, none⟩ = some (.int .i64 (s 6 : Nat)) := by rw [hs]; exact hg.next 6 (by omega)
  have c7 : w.cell? ⟨G, 9, none⟩ = some (.int .i64 (s 7 : Nat)) := by rw [hs]; exact hg.next 7 (by omega)
  have c8 : w.cell? ⟨G, 10, none⟩ = some (.int .i64 (s 8 : Nat)) := by rw [hs]; exact hg.next 8 (by omega)
  have c9 : w.cell? ⟨G, 11, none⟩ = some (.int .i64 (s 9 : Nat)) := by rw [hs]; exact hg.next 9 (by omega)
  have c10 : w.cell? ⟨G, 12, none⟩ = some (.int .i64 (s 10 : Nat)) := by rw [hs]; exact hg.next 10 (by omega)
  have c11 : w.cell? ⟨G, 13, none⟩ = some (.int .i64 (s 11 : Nat)) := by rw [hs]; exact hg.next 11 (by omega)
  have c12 : w.cell? ⟨G, 14, none⟩ = some (.int .i64 (s 12 : Nat)) := by rw [hs]; exact hg.next 12 (by omega)
  have c13 : w.cell? ⟨G, 15, none⟩ = some (.int .i64 (s 13 : Nat)) := by rw [hs]; exact hg.next 13 (by omega)
  have c14 : w.cell? ⟨G, 16, none⟩ = some (.int .i64 (s 14 : Nat)) := by rw [hs]; exact hg.next 14 (by omega)
  have c15 : w.cell? ⟨G, 17, none⟩ = some (.int .i64 (s 15 : Nat)) := by rw [hs]; exact hg.next 15 (by omega)
  have HS := Lib.hid hs
  clear hg hsm hs
  go_enter Tryd.func53, Tryd.ntmps53
  go_wp2
  obtain ⟨arr, hA⟩ : ∃ arr : Array Value, arr = #[.int .i64 (s 0 : Nat), .int .i64 (s 1 : Nat), .int .i64 (s 2 : Nat), .int .i64 (s 3 : Nat), .int .i64 (s 4 : Nat), .int .i64 (s 5 : Nat), .int .i64 (s 6 : Nat), .int .i64 (s 7 : Nat), .int .i64 (s 8 : Nat), .int .i64 (s 9 : Nat), .int .i64 (s 10 : Nat), .int .i64 (s 11 : Nat), .int .i64 (s 12 : Nat), .int .i64 (s 13 : Nat), .int .i64 (s 14 : Nat), .int .i64 (s 15 : Nat)] := ⟨_, rfl⟩
  have harr : ∀ k : Nat, k < 16 → arr[k]? = some (.int .i64 (s k : Nat)) := fun k hk => by
    have h : k = 0 ∨ k = 1 ∨ k = 2 ∨ k = 3 ∨ k = 4 ∨ k = 5 ∨ k = 6 ∨ k = 7 ∨ k = 8 ∨ k = 9 ∨ k = 10 ∨ k = 11 ∨ k = 12 ∨ k = 13 ∨ k = 14 ∨ k = 15 := by omega
    rw [hA]
    rcases h with rfl | rfl | rfl | rfl | rfl | rfl | rfl | rfl | rfl | rfl | rfl | rfl | rfl | rfl | rfl | rfl <;> rfl
  have hsz : arr.size = 16 := by rw [hA]; rfl
  rw [← hA]
  clear hA c0 c1 c2 c3 c4 c5 c6 c7 c8 c9 c10 c11 c12 c13 c14 c15
  have HARR := Lib.hid harr
  have hmax : ∀ a b : Nat, max (a : Int) (b : Int) = ((max a b : Nat) : Int) := fun a b => by omega
  have HMAX := Lib.hid hmax
  clear harr hmax
  go_loopw [3, 5, 10] (fun s3 _ s10 wr => ∃ k : Nat, k ≤ 16 ∧ s10 = .int .i64 (k : Int) ∧ s3 = .int .i64 (dgTo g k : Nat) ∧ Hid (wr = w)) (fun _ _ s10 _ => 40 - (intOf s10).toNat)
  case atStart => exact ⟨0, by omega, rfl, rfl, rfl⟩
  case round =>
    obtain ⟨k, hk, rfl, rfl, hw⟩ := hrel
    rw [hw.out]
    by_cases hlt : k < 16
    · have h1 : (k : Int) < 16 := by omega
      have h0 : (0 : Int) ≤ (k : Int) := by omega
      have hidx : ∀ W, (Instr.index 98 (.agg arr) (.int .i64 (k : Int))).run Tryd.prog W = .ok (.int .i64 (s k : Nat)) W := fun W => index98 arr k (s k) W hlt (HARR.out k hlt)
      have hsm' : Sm (s k) := by rw [HS.out]; exact HSM.out k
      have hs64 : Hid (s k < 18446744073709551616) := Nat.lt_trans hsm' (by decide)
      have hwr : IntKind.u64.wrap ((s k : Nat) : Int) = ((s k : Nat) : Int) := u64_same _ hs64.out
      go_wp2_with (go_at_call 76; refine (ones (s k) _ hs64).mono ?_; rintro e w' ⟨rfl, rfl⟩)
      refine ⟨⟨k + 1, by omega, int_eq (by omega), ?_, Lib.hid trivial⟩, by simp [intOf]; omega⟩
      refine int_eq ?_
      show _ = ((max (dgTo g k) (size (g[k]?.getD 0)) : Nat) : Int)
      rw [← HS.out k]
      split <;> omega
    · have h1 : ¬ (k : Int) < 16 := by omega
      have hke : k = 16 := by omega
      subst hke
      go_wp2
      go_ret
      exact ⟨rfl, rfl⟩
end Go.Proofs.YtpknnjcbcndbbaaDoor
namespace Go.Proofs.YtpknnjcbcndbbaaDoor
open Go.RowKit

theorem bit_pw (k j : Nat) : (pw k).testBit j = decide (k = j) := by unfold pw; rw [Nat.testBit_two_pow]
theorem foldE_adj : ∀ (ps : List (Int × Int)) (g : List Nat), (∀ e ∈ ps, 0 ≤ e.1 ∧ e.1 < e.2 ∧ e.2 < (g.length : Int)) → ∀ v x : Nat,
    adj (ps.foldl (fun g e => addE g e.1.toNat e.2.toNat) g) v x ↔ adj g v x ∨ ∃ e ∈ ps, (e.1.toNat = v ∧ e.2.toNat = x) ∨ (e.1.toNat = x ∧ e.2.toNat = v)
  | [], g, _, v, x => by simp
  | e :: ps, g, hp, v, x => by
    have he := hp e List.mem_cons_self
    rw [List.foldl_cons, foldE_adj ps _ (fun e' he' => by rw [addE_length]; exact hp e' (List.mem_cons_of_mem _ he')) v x]
    have hadd : adj (addE g e.1.toNat e.2.toNat) v x ↔ adj g v x ∨ (e.1.toNat = v ∧ e.2.toNat = x) ∨ (e.1.toNat = x ∧ e.2.toNat = v) := by
      unfold adj
      rw [addE_at g _ _ v (by omega) (by omega) (by omega)]
      by_cases h1 : v = e.1.toNat
      · rw [if_pos h1, Nat.testBit_or, bit_pw, h1]
        simp only [Bool.or_eq_true, decide_eq_true_eq]
        constructor
        · rintro (h | h)
          · exact .inl h
          · exact .inr (.inl ⟨trivial, h⟩)
        · rintro (h | ⟨_, h⟩ | ⟨h2, h3⟩)
          · exact .inl h
          · exact .inr h
          · omega
      · rw [if_neg h1]
        by_cases h2 : v = e.2.toNat
        · rw [if_pos h2, Nat.testBit_or, bit_pw, h2]
          simp only [Bool.or_eq_true, decide_eq_true_eq]
          constructor
          · rintro (h | h)
            · exact .inl h
            · exact .inr (.inr ⟨h, trivial⟩)
          · rintro (h | ⟨h, _⟩ | ⟨h, _⟩)
            · exact .inl h
            · omega
            · exact .inr h
        · rw [if_neg h2]
          constructor
          · exact .inl
          · rintro (h | ⟨h, _⟩ | ⟨_, h⟩)
            · exact h
            · exact absurd h.symm h1
            · exact absurd h.symm h2
    rw [hadd]
    constructor
    · rintro ((h | h) | ⟨e', he', h⟩)
      · exact .inl h
      · exact .inr ⟨e, List.mem_cons_self, h⟩
      · exact .inr ⟨e', List.mem_cons_of_mem _ he', h⟩
    · rintro (h | ⟨e', he', h⟩)
      · exact .inl (.inl h)
      · rcases List.mem_cons.1 he' with rfl | he'
        · exact .inl (.inr h)
        · exact .inr ⟨e', he', h⟩
/-- neighbours are the ends of an edge -/
theorem adj_ofE {n : Nat} {ps : List (Int × Int)} (h : edgesB n ps = true) (v x : Nat) : adj (ofE n ps) v x ↔ ∃ e ∈ ps, (e.1.toNat = v ∧ e.2.toNat = x) ∨ (e.1.toNat = x ∧ e.2.toNat = v) := by
  unfold ofE
  rw [foldE_adj ps _ (fun e he => by simpa using edgesB_mem h e he)]
  have : ¬ adj (List.replicate n 0) v x := by
    unfold adj
    rw [List.getElem?_replicate]
    split <;> simp
  simp [this]
theorem adj_comm {n : Nat} {ps : List (Int × Int)} (h : edgesB n ps = true) {v x : Nat} : adj (ofE n ps) v x ↔ adj (ofE n ps) x v := by
  rw [adj_ofE h, adj_ofE h]
  constructor <;> (rintro ⟨e, he, h1 | h1⟩ <;> exact ⟨e, he, by omega⟩)
theorem adj_lt {n : Nat} {ps : List (Int × Int)} (h : edgesB n ps = true) {v x : Nat} (ha : adj (ofE n ps) v x) : v < n ∧ x < n ∧ v ≠ x := by
  obtain ⟨e, he, h1⟩ := (adj_ofE h v x).1 ha
  have := edgesB_mem h e he
  omega
theorem szTo_add (s k : Nat) : ∀ f, szTo s (k + f) = szTo s k + (elsFrom s f k).length
  | 0 => by simp [elsFrom]
  | f + 1 => by
    have key : ∀ (f k : Nat), (elsFrom s (f + 1) k).length = (elsFrom s f k).length + tb s (k + f) := by
      intro f
      induction f with
      | zero => intro k; unfold elsFrom elsFrom tb; cases s.testBit k <;> simp
      | succ f ih =>
        intro k
        have h1 := ih (k + 1)
        rw [show k + 1 + f = k + (f + 1) by omega] at h1
        rw [elsFrom]
        conv => rhs; rw [elsFrom]
        cases s.testBit k <;> simp [h1] <;> omega
    rw [key, ← Nat.add_assoc, szTo, szTo_add s k f]
    omega
theorem els_len {s : Nat} (hs : Sm s) : (els s).length = size s := by
  have h1 := szTo_add s 0 20
  rw [Nat.zero_add] at h1
  have h2 : shr s 20 = 0 := Nat.div_eq_of_lt hs
  rw [size_of_stop (Nat.le_refl _) h2] at h1
  unfold els
  rw [h1]; simp [szTo]
theorem dgTo_le (g : List Nat) : ∀ k u, u < k → size (g[u]?.getD 0) ≤ dgTo g k
  | 0, u, h => by omega
  | k + 1, u, h => by
    unfold dgTo
    by_cases hk : u = k
    · subst hk; exact Nat.le_max_right _ _
    · exact Nat.le_trans (dgTo_le g k u (by omega)) (Nat.le_max_left _ _)
theorem dgTo_most (g : List Nat) (D : Nat) : ∀ k, (∀ u, u < k → size (g[u]?.getD 0) ≤ D) → dgTo g k ≤ D
  | 0, _ => Nat.zero_le _
  | k + 1, h => by
    unfold dgTo
    exact Nat.max_le.2 ⟨dgTo_most g D k fun u hu => h u (by omega), h k (by omega)⟩
end Go.Proofs.YtpknnjcbcndbbaaDoor
namespace Go.Proofs.YtpknnjcbcndbbaaDoor
open Go.RowKit

theorem edgesB_step {n : Int} {ps : List (Int × Int)} (h : edgesB n ps = true) {i : Nat} (hi : i + 1 < ps.length) : (ps[i]?.getD (0, 0)).1 < (ps[i + 1]?.getD (0, 0)).1 ∨ ((ps[i]?.getD (0, 0)).1 = (ps[i + 1]?.getD (0, 0)).1 ∧ (ps[i]?.getD (0, 0)).2 < (ps[i + 1]?.getD (0, 0)).2) := by
  have := List.all_eq_true.1 h (i + 1) (List.mem_range.2 hi)
  unfold badAt at this
  rw [show i + 1 - 1 = i by omega] at this
  simp only [Bool.not_eq_true', Bool.or_eq_false_iff, Bool.and_eq_false_iff, decide_eq_false_iff_not] at this
  omega
theorem edgesB_lt {n : Int} {ps : List (Int × Int)} (h : edgesB n ps = true) : ∀ (d i : Nat), i + (d + 1) < ps.length → (ps[i]?.getD (0, 0)).1 < (ps[i + (d + 1)]?.getD (0, 0)).1 ∨ ((ps[i]?.getD (0, 0)).1 = (ps[i + (d + 1)]?.getD (0, 0)).1 ∧ (ps[i]?.getD (0, 0)).2 < (ps[i + (d + 1)]?.getD (0, 0)).2)
  | 0, i, hi => edgesB_step h hi
  | d + 1, i, hi => by
    have h1 := edgesB_lt h d i (by omega)
    have h2 := edgesB_step h (i := i + (d + 1)) (by omega)
    rw [show i + (d + 1 + 1) = i + (d + 1) + 1 by omega]
    omega
theorem edgesOK {n : Nat} {ps : List (Int × Int)} (hn : n ≤ 16) (h : edgesB n ps = true) : EdgesOK (ofE n ps) ps where
  edge := fun j hj => by
    have hm := List.getElem_mem hj
    have h1 := edgesB_mem h _ hm
    have e1 : ((ps[j].1.toNat : Nat) : Int) = ps[j].1 := by omega
    have e2 : ((ps[j].2.toNat : Nat) : Int) = ps[j].2 := by omega
    have ha : adj (ofE n ps) ps[j].1.toNat ps[j].2.toNat := (adj_ofE h _ _).2 ⟨_, hm, .inl ⟨rfl, rfl⟩⟩
    exact ⟨ps[j].1.toNat, ps[j].2.toNat, by rw [List.getElem?_eq_getElem hj, e1, e2], by omega, by omega, ha, (adj_comm h).1 ha⟩
  nd := fun i j hij hj he => by
    have := edgesB_lt h (j - i - 1) i (by omega)
    rw [show i + (j - i - 1 + 1) = j by omega, he] at this
    omega
theorem elsFrom_nd (s : Nat) : ∀ (f k : Nat), (elsFrom s f k).Nodup
  | 0, _ => List.nodup_nil
  | f + 1, k => by
    unfold elsFrom
    split
    · rw [List.nodup_cons]
      exact ⟨fun h => by have := (mem_elsFrom f (k + 1)).1 h; omega, elsFrom_nd s f (k + 1)⟩
    · exact elsFrom_nd s f (k + 1)
theorem deg_lt {n : Nat} {ps : List (Int × Int)} (hn1 : 1 ≤ n) (hn : n ≤ 16) (h : edgesB n ps = true) (u : Nat) : (els ((ofE n ps)[u]?.getD 0)).length ≤ n - 1 := by
  have hs := ofE_sm hn h u
  by_cases hu : u < n
  · have := nodup_sub (u :: els ((ofE n ps)[u]?.getD 0)) (List.range n) (List.nodup_cons.2 ⟨fun hm => (adj_lt h ((mem_els hs).1 hm)).2.2 rfl, elsFrom_nd _ _ _⟩) fun x hx => by
      rcases List.mem_cons.1 hx with rfl | hx
      · exact List.mem_range.2 hu
      · exact List.mem_range.2 (adj_lt h ((mem_els hs).1 hx)).2.1
    simp at this
    omega
  · have : (ofE n ps)[u]? = none := List.getElem?_eq_none (by rw [ofE_length]; omega)
    rw [this]
    show (els 0).length ≤ _
    rw [els_zero]; simp
/-- the degree bounds each vertex, and is below n -/
theorem dg_bounds {n : Nat} {ps : List (Int × Int)} (hn1 : 1 ≤ n) (hn : n ≤ 16) (h : edgesB n ps = true) : (∀ u, u < 16 → (els ((ofE n ps)[u]?.getD 0)).length ≤ dgTo (ofE n ps) 16) ∧ dgTo (ofE n ps) 16 ≤ n - 1 :=
  ⟨fun u hu => by rw [els_len (ofE_sm hn h u)]; exact dgTo_le _ 16 u hu, dgTo_most _ _ 16 fun u hu => by rw [← els_len (ofE_sm hn h u)]; exact deg_lt hn1 hn h u⟩
end Go.Proofs.YtpknnjcbcndbbaaDoor
namespace Go.Proofs.YtpknnjcbcndbbaaDoor
open Go.RowKit

/-- edges join two different vertices, both ways -/
structure Und (g : List Nat) (n : Nat) : Prop where
  lt : ∀ x y, adj g x y → x < n ∧ y < n
  ne : ∀ x y, adj g x y → x ≠ y
  sym : ∀ x y, adj g x y → adj g y x
theorem und_ofE {n : Nat} {ps : List (Int × Int)} (h : edgesB n ps = true) : Und (ofE n ps) n :=
  ⟨fun _ _ ha => ⟨(adj_lt h ha).1, (adj_lt h ha).2.1⟩, fun _ _ ha => (adj_lt h ha).2.2, fun _ _ ha => (adj_comm h).1 ha⟩
/-- s is one side: no edge joins two of it, or two of the others -/
def TwoCol (g : List Nat) (s : Nat) : Prop := ∀ x y, adj g x y → s.testBit x ≠ s.testBit y
/-- a walk of k edges -/
def Wk (g : List Nat) (u : Nat) : Nat → Nat → Prop
  | 0, v => v = u
  | k + 1, w => ∃ v, Wk g u k v ∧ adj g v w
theorem Wk.trans {g : List Nat} {u v : Nat} : ∀ {j k w : Nat}, Wk g u j v → Wk g v k w → Wk g u (j + k) w
  | _, 0, _, h1, h2 => by cases h2; exact h1
  | _, _ + 1, _, h1, ⟨x, h2, h3⟩ => ⟨x, h1.trans h2, h3⟩
theorem Wk.one {g : List Nat} {u v : Nat} (h : adj g u v) : Wk g u 1 v := ⟨u, rfl, h⟩
theorem Wk.rev {g : List Nat} {n : Nat} (U : Und g n) {u : Nat} : ∀ {k v : Nat}, Wk g u k v → Wk g v k u
  | 0, _, h => by cases h; exact rfl
  | k + 1, w, ⟨v, h1, h2⟩ => by
    have := (Wk.one (U.sym _ _ h2)).trans (Wk.rev U h1)
    rw [show k + 1 = 1 + k by omega]; exact this
theorem TwoCol.walk {g : List Nat} {s u : Nat} (h : TwoCol g s) : ∀ {k v : Nat}, Wk g u k v → ((s.testBit v = s.testBit u) ↔ k % 2 = 0)
  | 0, _, e => by cases e; simp
  | k + 1, w, ⟨v, h1, h2⟩ => by
    have h3 := h.walk h1
    have h4 := h _ _ h2
    rcases Nat.mod_two_eq_zero_or_one k with hk | hk
    · have h5 := h3.2 hk
      rw [h5] at h4
      constructor
      · intro e; exact absurd e.symm h4
      · intro e; omega
    · have h5 : ¬ s.testBit v = s.testBit u := fun e => by have := h3.1 e; omega
      constructor
      · intro _; omega
      · intro _; revert h4 h5; cases s.testBit v <;> cases s.testBit u <;> cases s.testBit w <;> simp
/-- a vertex is on the side s just if a walk of even length leads to it from the least vertex that any walk reaches -/
def Rooted (g : List Nat) (s x : Nat) : Prop := ∃ r k, Wk g r k x ∧ (s.testBit x = true ↔ k % 2 = 0) ∧ ∀ k y, Wk g r k y → r ≤ y
theorem two_unique {g : List Nat} {n s t : Nat} (U : Und g n) (hs : TwoCol g s) (ht : TwoCol g t) (rs : ∀ x, x < n → Rooted g s x) (rt : ∀ x, x < n → Rooted g t x) (ls : ∀ x, s.testBit x = true → x < n) (lt : ∀ x, t.testBit x = true → x < n) : s = t := by
  apply Nat.eq_of_testBit_eq
  intro x
  by_cases hx : x < n
  · obtain ⟨r, k, h1, h2, h3⟩ := rs x hx
    obtain ⟨r', k', h1', h2', h3'⟩ := rt x hx
    have e : r = r' := Nat.le_antisymm (h3 _ _ (h1.trans (h1'.rev U))) (h3' _ _ (h1'.trans (h1.rev U)))
    subst e
    have h4 := hs.walk (h1.trans (h1'.rev U))
    have h5 : (k + k') % 2 = 0 := h4.1 rfl
    have : s.testBit x = true ↔ t.testBit x = true := by rw [h2, h2']; omega
    cases hsx : s.testBit x <;> cases htx : t.testBit x <;> simp_all
  · have a : s.testBit x = false := by cases h : s.testBit x with
      | true => exact absurd (ls x h) hx
      | false => rfl
    have b : t.testBit x = false := by cases h : t.testBit x with
      | true => exact absurd (lt x h) hx
      | false => rfl
    rw [a, b]

/-- an odd ring -/
structure OddR (g : List Nat) (l : List Nat) : Prop where
  len : 3 ≤ l.length
  odd : l.length % 2 = 1
  nd : l.Nodup
  edge : ∀ i, i < l.length → adj g (nth l i) (nth l ((i + 1) % l.length))
theorem OddR.walk {g : List Nat} {l : List Nat} (h : OddR g l) : ∀ i, i < l.length → Wk g (nth l 0) i (nth l i)
  | 0, _ => rfl
  | i + 1, hi => ⟨_, h.walk i (by omega), by have := h.edge i (by omega); rw [Nat.mod_eq_of_lt hi] at this; exact this⟩
theorem OddR.no {g : List Nat} {l : List Nat} (h : OddR g l) (s : Nat) : ¬ TwoCol g s := fun hs => by
  have h3 := h.len
  have h1 := h.walk (l.length - 1) (by omega)
  have h2 := h.edge (l.length - 1) (by omega)
  rw [show l.length - 1 + 1 = l.length by omega, Nat.mod_self] at h2
  have h4 : Wk g (nth l 0) (l.length - 1 + 1) (nth l 0) := ⟨_, h1, h2⟩
  have := (hs.walk h4).1 rfl
  have := h.odd
  omega

/-- what is reached: the vertices L in the order in which they were reached, of which the first p are done and the first q are entered; how far each is from its root, and from which it was reached -/
structure BSt (g : List Nat) (n : Nat) (L : List Nat) (p q : Nat) (lev : Nat → Nat) (fr : Nat → Option Nat) (out : Nat) : Prop where
  nd : L.Nodup
  lt : ∀ x ∈ L, x < n
  root : ∀ x ∈ L, fr x = none → lev x = 0 ∧ ∀ k y, Wk g x k y → x ≤ y
  step : ∀ x ∈ L, ∀ y, fr x = some y → y ∈ L ∧ adj g y x ∧ lev x = lev y + 1
  off : ∀ x, x ∉ L → fr x = none
  done : ∀ i, i < p → ∀ y, adj g (nth L i) y → y ∈ L ∧ lev y % 2 ≠ lev (nth L i) % 2
  out : ∀ x, out.testBit x = true ↔ ∃ i, i < q ∧ nth L i = x ∧ lev x % 2 = 0
  ple : p ≤ L.length
  qle : q ≤ L.length
theorem BSt.nil (g : List Nat) (n : Nat) : BSt g n [] 0 0 (fun _ => 0) (fun _ => none) 0 where
  nd := List.nodup_nil
  lt := fun x h => by cases h
  root := fun x h => by cases h
  step := fun x h => by cases h
  off := fun _ _ => rfl
  done := fun i h => by omega
  out := fun x => by simp
  ple := Nat.le_refl _
  qle := Nat.le_refl _
theorem BSt.walk {g : List Nat} {n p q : Nat} {L : List Nat} {lev : Nat → Nat} {fr : Nat → Option Nat} {out : Nat} (B : BSt g n L p q lev fr out) : ∀ (k : Nat) (x : Nat), x ∈ L → lev x = k → ∃ r, r ∈ L ∧ fr r = none ∧ Wk g r k x ∧ ∀ j y, Wk g r j y → r ≤ y
  | 0, x, hx, hk => by
    cases h : fr x with
    | none => exact ⟨x, hx, h, rfl, (B.root x hx h).2⟩
    | some y => have := (B.step x hx y h).2.2; omega
  | k + 1, x, hx, hk => by
    cases h : fr x with
    | none => have := (B.root x hx h).1; omega
    | some y =>
      obtain ⟨h1, h2, h3⟩ := B.step x hx y h
      obtain ⟨r, h4, h4', h5, h6⟩ := B.walk k y h1 (by omega)
      exact ⟨r, h4, h4', ⟨y, h5, h2⟩, h6⟩
theorem BSt.closed {g : List Nat} {n q : Nat} {L : List Nat} {lev : Nat → Nat} {fr : Nat → Option Nat} {out : Nat} (B : BSt g n L L.length q lev fr out) {x : Nat} (hx : x ∈ L) : ∀ {k y : Nat}, Wk g x k y → y ∈ L
  | 0, _, e => by cases e; exact hx
  | k + 1, w, ⟨v, h1, h2⟩ => by
    obtain ⟨i, hi, e⟩ := List.mem_iff_getElem.1 (B.closed hx h1)
    refine (B.done i hi w ?_).1
    unfold nth; rw [List.getElem?_eq_getElem hi, e]; exact h2
theorem nth_app_lt {l : List Nat} {x i : Nat} (h : i < l.length) : nth (l ++ [x]) i = nth l i := nth_app_l h
/-- a new root -/
theorem BSt.new {g : List Nat} {n : Nat} {L : List Nat} {lev : Nat → Nat} {fr : Nat → Option Nat} {out f : Nat} (U : Und g n) (B : BSt g n L L.length L.length lev fr out) (hf : f ∉ L) (hn : f < n) (hall : ∀ y, y < f → y ∈ L) :
    BSt g n (L ++ [f]) L.length L.length (fun x => if x = f then 0 else lev x) fr out where
  nd := List.nodup_append.2 ⟨B.nd, by simp, fun a h1 b hb e => hf (by simp at hb; rw [← hb, ← e]; exact h1)⟩
  lt := fun x hx => by
    rcases List.mem_append.1 hx with h | h
    · exact B.lt x h
    · simp at h; subst h; exact hn
  root := fun x hx h => by
    rcases List.mem_append.1 hx with h1 | h1
    · have hne : x ≠ f := fun e => hf (e ▸ h1)
      simp only [if_neg hne]; exact B.root x h1 h
    · simp at h1; subst h1
      refine ⟨by simp, fun k y hk => Nat.le_of_not_lt fun hlt => hf ?_⟩
      exact B.closed (hall y hlt) (hk.rev U)
  step := fun x hx y h => by
    rcases List.mem_append.1 hx with h1 | h1
    · have hne : x ≠ f := fun e => hf (e ▸ h1)
      obtain ⟨h2, h3, h4⟩ := B.step x h1 y h
      have hne' : y ≠ f := fun e => hf (e ▸ h2)
      simp only [if_neg hne, if_neg hne']
      exact ⟨List.mem_append_left _ h2, h3, h4⟩
    · simp at h1; subst h1; rw [B.off x hf] at h; cases h
  off := fun x hx => B.off x fun h => hx (List.mem_append_left _ h)
  done := fun i hi y hy => by
    rw [nth_app_lt hi] at hy ⊢
    obtain ⟨h1, h2⟩ := B.done i hi y hy
    have hne : y ≠ f := fun e => hf (e ▸ h1)
    have hne' : nth L i ≠ f := fun e => hf (e ▸ nth_mem hi)
    simp only [if_neg hne, if_neg hne']
    exact ⟨List.mem_append_left _ h1, h2⟩
  out := fun x => by
    rw [B.out]
    constructor
    · rintro ⟨i, hi, e, h⟩
      have hne : x ≠ f := fun e' => hf (e' ▸ e ▸ nth_mem hi)
      exact ⟨i, hi, by rw [nth_app_lt hi]; exact e, by simp only [if_neg hne]; exact h⟩
    · rintro ⟨i, hi, e, h⟩
      rw [nth_app_lt hi] at e
      have hne : x ≠ f := fun e' => hf (e' ▸ e ▸ nth_mem hi)
      simp only [if_neg hne] at h
      exact ⟨i, hi, e, h⟩
  ple := by simp
  qle := by simp
/-- the next one is entered -/
theorem BSt.pop {g : List Nat} {n p : Nat} {L : List Nat} {lev : Nat → Nat} {fr : Nat → Option Nat} {out : Nat} (B : BSt g n L p p lev fr out) (hp : p < L.length) :
    BSt g n L p (p + 1) lev fr (if lev (nth L p) % 2 = 0 then out ||| pw (nth L p) else out) where
  nd := B.nd
  lt := B.lt
  root := B.root
  step := B.step
  off := B.off
  done := B.done
  out := fun x => by
    have h1 := B.out x
    by_cases h : lev (nth L p) % 2 = 0
    · rw [if_pos h]
      unfold pw
      rw [Nat.testBit_or, Nat.testBit_two_pow]
      simp only [Bool.or_eq_true, decide_eq_true_eq, h1]
      constructor
      · rintro (⟨i, hi, e⟩ | e)
        · exact ⟨i, by omega, e⟩
        · exact ⟨p, by omega, e, e ▸ h⟩
      · rintro ⟨i, hi, e⟩
        by_cases hip : i = p
        · subst hip; exact .inr e.1
        · exact .inl ⟨i, by omega, e⟩
    · rw [if_neg h, h1]
      constructor
      · rintro ⟨i, hi, e⟩; exact ⟨i, by omega, e⟩
      · rintro ⟨i, hi, e⟩
        by_cases hip : i = p
        · subst hip; rw [← e.1] at e; exact absurd e.2 h
        · exact ⟨i, by omega, e⟩
  ple := B.ple
  qle := hp
/-- a neighbour is reached -/
theorem BSt.add {g : List Nat} {n p q : Nat} {L : List Nat} {lev : Nat → Nat} {fr : Nat → Option Nat} {out w : Nat} (U : Und g n) (B : BSt g n L p q lev fr out) {v : Nat} (hv : v ∈ L) (hw : w ∉ L) (ha : adj g v w) :
    BSt g n (L ++ [w]) p q (fun x => if x = w then lev v + 1 else lev x) (fun x => if x = w then some v else fr x) out where
  nd := List.nodup_append.2 ⟨B.nd, by simp, fun a h1 b hb e => hw (by simp at hb; rw [← hb, ← e]; exact h1)⟩
  lt := fun x hx => by
    rcases List.mem_append.1 hx with h | h
    · exact B.lt x h
    · simp at h; subst h; exact (U.lt _ _ ha).2
  root := fun x hx h => by
    rcases List.mem_append.1 hx with h1 | h1
    · have hne : x ≠ w := fun e => hw (e ▸ h1)
      simp only [if_neg hne] at h ⊢; exact B.root x h1 h
    · simp at h1; subst h1; simp at h
  step := fun x hx y h => by
    rcases List.mem_append.1 hx with h1 | h1
    · have hne : x ≠ w := fun e => hw (e ▸ h1)
      simp only [if_neg hne] at h
      obtain ⟨h2, h3, h4⟩ := B.step x h1 y h
      have hne' : y ≠ w := fun e => hw (e ▸ h2)
      simp only [if_neg hne, if_neg hne']
      exact ⟨List.mem_append_left _ h2, h3, h4⟩
    · simp at h1; subst h1
      simp only [if_true, Option.some.injEq] at h
      subst h
      have hne : v ≠ x := fun e => hw (e ▸ hv)
      simp only [if_true, if_neg hne]
      exact ⟨List.mem_append_left _ hv, ha, trivial⟩
  off := fun x hx => by
    have hne : x ≠ w := fun e => hx (by rw [e]; simp)
    simp only [if_neg hne]
    exact B.off x fun h => hx (List.mem_append_left _ h)
  done := fun i hi y hy => by
    have hil : i < L.length := Nat.lt_of_lt_of_le hi B.ple
    rw [nth_app_lt hil] at hy ⊢
    obtain ⟨h1, h2⟩ := B.done i hi y hy
    have hne : y ≠ w := fun e => hw (e ▸ h1)
    have hne' : nth L i ≠ w := fun e => hw (e ▸ nth_mem hil)
    simp only [if_neg hne, if_neg hne']
    exact ⟨List.mem_append_left _ h1, h2⟩
  out := fun x => by
    rw [B.out]
    constructor
    · rintro ⟨i, hi, e, h⟩
      have hil : i < L.length := Nat.lt_of_lt_of_le hi B.qle
      have hne : x ≠ w := fun e' => hw (e' ▸ e ▸ nth_mem hil)
      exact ⟨i, hi, by rw [nth_app_lt hil]; exact e, by simp only [if_neg hne]; exact h⟩
    · rintro ⟨i, hi, e, h⟩
      have hil : i < L.length := Nat.lt_of_lt_of_le hi B.qle
      rw [nth_app_lt hil] at e
      have hne : x ≠ w := fun e' => hw (e' ▸ e ▸ nth_mem hil)
      simp only [if_neg hne] at h
      exact ⟨i, hi, e, h⟩
  ple := by have := B.ple; simp; omega
  qle := by have := B.qle; simp; omega
/-- all neighbours have been seen -/
theorem BSt.next {g : List Nat} {n p q : Nat} {L : List Nat} {lev : Nat → Nat} {fr : Nat → Option Nat} {out : Nat} (B : BSt g n L p q lev fr out) (hp : p < L.length) (h : ∀ y, adj g (nth L p) y → y ∈ L ∧ lev y % 2 ≠ lev (nth L p) % 2) : BSt g n L (p + 1) q lev fr out where
  nd := B.nd
  lt := B.lt
  root := B.root
  step := B.step
  off := B.off
  done := fun i hi => by
    by_cases hip : i = p
    · subst hip; exact h
    · exact B.done i (by omega)
  out := B.out
  ple := hp
  qle := B.qle
/-- at the end there are two sides -/
theorem BSt.two {g : List Nat} {n : Nat} {L : List Nat} {lev : Nat → Nat} {fr : Nat → Option Nat} {out : Nat} (U : Und g n) (B : BSt g n L L.length L.length lev fr out) (hall : ∀ y, y < n → y ∈ L) : TwoCol g out ∧ (∀ x, x < n → Rooted g out x) ∧ ∀ x, out.testBit x = true → x < n := by
  have hbit : ∀ x, x ∈ L → (out.testBit x = true ↔ lev x % 2 = 0) := fun x hx => by
    rw [B.out]
    constructor
    · rintro ⟨_, _, _, h⟩; exact h
    · intro h
      obtain ⟨i, hi, e⟩ := List.mem_iff_getElem.1 hx
      exact ⟨i, hi, by unfold nth; rw [List.getElem?_eq_getElem hi, e]; rfl, h⟩
  refine ⟨fun x y ha e => ?_, fun x hx => ?_, fun x hx => ?_⟩
  · have hx := hall x (U.lt _ _ ha).1
    obtain ⟨i, hi, e'⟩ := List.mem_iff_getElem.1 hx
    have hn : nth L i = x := by unfold nth; rw [List.getElem?_eq_getElem hi, e']; rfl
    obtain ⟨h1, h2⟩ := B.done i hi y (by rw [hn]; exact ha)
    rw [hn] at h2
    have h3 := hbit x hx
    have h4 := hbit y h1
    rw [e] at h3
    rw [h3] at h4
    omega
  · obtain ⟨r, _, _, h1, h2⟩ := B.walk _ x (hall x hx) rfl
    exact ⟨r, _, h1, hbit x (hall x hx), h2⟩
  · obtain ⟨i, hi, e, _⟩ := (B.out x).1 hx
    exact B.lt x (e ▸ nth_mem hi)

theorem nodup_nth {l : List Nat} (h : ∀ i j, i < j → j < l.length → nth l i ≠ nth l j) : l.Nodup := by
  refine List.pairwise_iff_getElem.2 fun i j hi hj hij e => h i j hij hj ?_
  unfold nth; rw [List.getElem?_eq_getElem hi, List.getElem?_eq_getElem hj, e]
theorem nth_take {l : List Nat} {m i : Nat} (h : i < m) : nth (l.take m) i = nth l i := by unfold nth; rw [List.getElem?_take, if_pos h]
/-- the way from a vertex to its root -/
def wayF (fr : Nat → Option Nat) : Nat → Nat → List Nat
  | 0, _ => []
  | f + 1, x => x :: (match fr x with | none => [] | some y => wayF fr f y)
def way (lev : Nat → Nat) (fr : Nat → Option Nat) (x : Nat) : List Nat := wayF fr (lev x + 1) x
section
variable {g : List Nat} {n p q : Nat} {L : List Nat} {lev : Nat → Nat} {fr : Nat → Option Nat} {out : Nat}
theorem BSt.way_none (B : BSt g n L p q lev fr out) {x : Nat} (hx : x ∈ L) (h : fr x = none) : way lev fr x = [x] := by
  unfold way; rw [(B.root x hx h).1]; simp [wayF, h]
theorem BSt.way_some (B : BSt g n L p q lev fr out) {x y : Nat} (hx : x ∈ L) (h : fr x = some y) : way lev fr x = x :: way lev fr y := by
  unfold way; rw [(B.step x hx y h).2.2]; simp [wayF, h]
theorem nth_cons_zero (x : Nat) (l : List Nat) : nth (x :: l) 0 = x := rfl
theorem nth_cons_succ (x : Nat) (l : List Nat) (i : Nat) : nth (x :: l) (i + 1) = nth l i := by unfold nth; simp
theorem BSt.way_facts (B : BSt g n L p q lev fr out) : ∀ (k : Nat) (x : Nat), x ∈ L → lev x = k → (way lev fr x).length = k + 1 ∧ nth (way lev fr x) 0 = x ∧ (∀ i, i < k + 1 → nth (way lev fr x) i ∈ L ∧ lev (nth (way lev fr x) i) = k - i) ∧ (∀ i, i < k → fr (nth (way lev fr x) i) = some (nth (way lev fr x) (i + 1))) ∧ fr (nth (way lev fr x) k) = none
  | 0, x, hx, hk => by
    have h : fr x = none := by cases h : fr x with
      | none => rfl
      | some y => have := (B.step x hx y h).2.2; omega
    rw [B.way_none hx h]
    refine ⟨rfl, rfl, fun i hi => ?_, fun i hi => by omega, h⟩
    have : i = 0 := by omega
    subst this
    exact ⟨hx, hk⟩
  | k + 1, x, hx, hk => by
    cases h : fr x with
    | none => have := (B.root x hx h).1; omega
    | some y =>
      obtain ⟨h1, h2, h3⟩ := B.step x hx y h
      obtain ⟨f1, f2, f3, f4, f5⟩ := B.way_facts k y h1 (by omega)
      rw [B.way_some hx h]
      refine ⟨by simp [f1], rfl, fun i hi => ?_, fun i hi => ?_, by rw [nth_cons_succ]; exact f5⟩
      · cases i with
        | zero => exact ⟨hx, hk⟩
        | succ i => rw [nth_cons_succ]; have := f3 i (by omega); exact ⟨this.1, by rw [this.2]; omega⟩
      · cases i with
        | zero => rw [nth_cons_succ, f2]; exact h
        | succ i => rw [nth_cons_succ, nth_cons_succ]; exact f4 i (by omega)
/-- levels are small -/
theorem BSt.lev_lt (B : BSt g n L p q lev fr out) {x : Nat} (hx : x ∈ L) : lev x < n := by
  obtain ⟨f1, _, f3, _, _⟩ := B.way_facts _ x hx rfl
  have hnd : (way lev fr x).Nodup := nodup_nth fun i j hij hj this => by
    have h1 := (f3 i (by omega)).2
    have h2 := (f3 j (by omega)).2
    rw [this] at h1
    omega
  have := nodup_sub (way lev fr x) (List.range n) hnd fun z hz => by
    obtain ⟨i, hi, e⟩ := List.mem_iff_getElem.1 hz
    have : nth (way lev fr x) i = z := by unfold nth; rw [List.getElem?_eq_getElem hi, e]; rfl
    exact List.mem_range.2 (B.lt z (this ▸ (f3 i (by omega)).1))
  simp at this
  omega
/-- two ways that end at the same vertex, without what they have in common but for its first vertex, make an odd ring with the edge between their beginnings -/
theorem BSt.ring (U : Und g n) (B : BSt g n L p q lev fr out) {v w : Nat} (hv : v ∈ L) (hw : w ∈ L) (ha : adj g v w) (hl : lev v % 2 = lev w % 2) {la lb : Nat} (h1 : 0 < la) (h2 : 0 < lb) (h3 : la ≤ lev v + 1) (h4 : lb ≤ lev w + 1)
    (he : nth (way lev fr v) (la - 1) = nth (way lev fr w) (lb - 1)) (hstop : 1 < la → 1 < lb → nth (way lev fr v) (la - 2) ≠ nth (way lev fr w) (lb - 2)) :
    OddR g ((way lev fr v).take la ++ ((way lev fr w).take (lb - 1)).reverse) := by
  obtain ⟨a1, a2, a3, a4, a5⟩ := B.way_facts _ v hv rfl
  obtain ⟨b1, b2, b3, b4, b5⟩ := B.way_facts _ w hw rfl
  generalize way lev fr v = a at *
  generalize way lev fr w = b at *
  have hlev : lev v - (la - 1) = lev w - (lb - 1) := by
    rw [← (a3 (la - 1) (by omega)).2, ← (b3 (lb - 1) (by omega)).2, he]
  have hlen : (a.take la ++ (b.take (lb - 1)).reverse).length = la + (lb - 1) := by simp [a1, b1]; omega
  have hA : ∀ i, i < la → nth (a.take la ++ (b.take (lb - 1)).reverse) i = nth a i := fun i hi => by
    unfold nth
    rw [List.getElem?_append_left (by simp [a1]; omega), List.getElem?_take, if_pos hi]
  have hB : ∀ i, i < lb - 1 → nth (a.take la ++ (b.take (lb - 1)).reverse) (la + i) = nth b (lb - 2 - i) := fun i hi => by
    unfold nth
    rw [List.getElem?_append_right (by simp [a1]; omega), List.getElem?_reverse (by simp [a1, b1]; omega), List.getElem?_take]
    have e1 : (a.take la).length = la := by simp [a1]; omega
    have e2 : (b.take (lb - 1)).length = lb - 1 := by simp [b1]; omega
    rw [e1, e2, if_pos (by omega)]
    rw [show lb - 1 - 1 - (la + i - la) = lb - 2 - i by omega]
  have hne : v ≠ w := U.ne _ _ ha
  have hstepA : ∀ i, i + 1 < la → adj g (nth a i) (nth a (i + 1)) := fun i hi => U.sym _ _ (B.step _ (a3 i (by omega)).1 _ (a4 i (by omega))).2.1
  have hstepB : ∀ i, i + 1 < lb → adj g (nth b (i + 1)) (nth b i) := fun i hi => (B.step _ (b3 i (by omega)).1 _ (b4 i (by omega))).2.1
  have h11 : ¬ (la = 1 ∧ lb = 1) := fun ⟨e1, e2⟩ => by
    subst e1 e2; rw [show (1 - 1 : Nat) = 0 from rfl, a2, b2] at he; exact hne he
  have hsame : ∀ d i j, i + d = la - 1 → j + d = lb - 1 → nth a i = nth b j → 0 < d → nth a (la - 2) = nth b (lb - 2) := by
    intro d
    induction d with
    | zero => intro i j _ _ _ h; omega
    | succ d ih =>
      intro i j h1 h2 h3 _
      by_cases hd : d = 0
      · subst hd; rw [show la - 2 = i by omega, show lb - 2 = j by omega]; exact h3
      · refine ih (i + 1) (j + 1) (by omega) (by omega) ?_ (by omega)
        have e1 := a4 i (by omega)
        have e2 := b4 j (by omega)
        rw [h3, e2] at e1
        exact (Option.some.inj e1).symm
  refine ⟨by rw [hlen]; omega, by rw [hlen]; omega, ?_, fun i hi => ?_⟩
  · rw [List.nodup_append]
    refine ⟨?_, ?_, ?_⟩
    · refine nodup_nth fun i j hij hj e1 => ?_
      have hj' : j < la := by simp [a1] at hj; omega
      rw [nth_take (by omega), nth_take hj'] at e1
      have l1 := (a3 i (by omega)).2
      have l2 := (a3 j (by omega)).2
      rw [e1] at l1
      omega
    · refine List.pairwise_reverse.2 (List.Pairwise.imp (fun h => Ne.symm h) (nodup_nth fun i j hij hj e1 => ?_))
      have hj' : j < lb - 1 := by simp [b1] at hj; omega
      rw [nth_take (by omega), nth_take hj'] at e1
      have l1 := (b3 i (by omega)).2
      have l2 := (b3 j (by omega)).2
      rw [e1] at l1
      omega
    · intro x hx y hy exy
      subst exy
      obtain ⟨i, hi, e1⟩ := List.mem_iff_getElem?.1 hx |>.imp fun i h => (⟨(List.getElem?_eq_some_iff.1 h).1, h⟩ : i < _ ∧ _)
      obtain ⟨j, hj, e2⟩ := List.mem_iff_getElem?.1 (List.mem_reverse.1 hy) |>.imp fun i h => (⟨(List.getElem?_eq_some_iff.1 h).1, h⟩ : i < _ ∧ _)
      have hi' : i < la := by simp [a1] at hi; omega
      have hj' : j < lb - 1 := by simp [b1] at hj; omega
      rw [List.getElem?_take, if_pos hi'] at e1
      rw [List.getElem?_take, if_pos hj'] at e2
      have e3 : nth a i = nth b j := by unfold nth; rw [e1, e2]
      have l1 := (a3 i (by omega)).2
      have l2 := (b3 j (by omega)).2
      rw [e3, l2] at l1
      refine hstop (by omega) (by omega) (hsame (lb - 1 - j) i j (by omega) (by omega) e3 (by omega))
  · rw [hlen] at hi ⊢
    by_cases c1 : i + 1 < la
    · rw [Nat.mod_eq_of_lt (by omega), hA i (by omega), hA (i + 1) c1]; exact hstepA i c1
    · by_cases c2 : i = la - 1
      · subst c2
        rw [hA (la - 1) (by omega), he]
        by_cases c3 : lb = 1
        · rw [show la - 1 + 1 = la + (lb - 1) by omega, Nat.mod_self, hA 0 h1, a2, c3]
          rw [show (1 - 1 : Nat) = 0 from rfl, b2]; exact U.sym _ _ ha
        · rw [Nat.mod_eq_of_lt (by omega), show la - 1 + 1 = la + 0 by omega, hB 0 (by omega)]
          have := hstepB (lb - 2) (by omega)
          rw [show lb - 2 + 1 = lb - 1 by omega] at this
          rw [show lb - 2 - 0 = lb - 2 by omega]; exact this
      · obtain ⟨t, rfl⟩ : ∃ t, i = la + t := ⟨i - la, by omega⟩
        rw [hB t (by omega)]
        by_cases c3 : t + 2 = lb
        · rw [show la + t + 1 = la + (lb - 1) by omega, Nat.mod_self, hA 0 h1, a2, show lb - 2 - t = 0 by omega, b2]; exact U.sym _ _ ha
        · rw [Nat.mod_eq_of_lt (by omega), show la + t + 1 = la + (t + 1) by omega, hB (t + 1) (by omega)]
          have := hstepB (lb - 2 - (t + 1)) (by omega)
          rw [show lb - 2 - (t + 1) + 1 = lb - 2 - t by omega] at this; exact this
/-- an edge between two of the same parity: their ways end at the same root -/
theorem BSt.meet (U : Und g n) (B : BSt g n L p q lev fr out) {v w : Nat} (hv : v ∈ L) (hw : w ∈ L) (ha : adj g v w) : nth (way lev fr v) (lev v + 1 - 1) = nth (way lev fr w) (lev w + 1 - 1) := by
  have key : ∀ x ∈ L, (∀ k y, Wk g (nth (way lev fr x) (lev x)) k y → nth (way lev fr x) (lev x) ≤ y) ∧ ∃ k, Wk g (nth (way lev fr x) (lev x)) k x := fun x hx => by
    obtain ⟨a1, a2, a3, a4, a5⟩ := B.way_facts _ x hx rfl
    refine ⟨(B.root _ (a3 (lev x) (by omega)).1 a5).2, ?_⟩
    have : ∀ i, i ≤ lev x → Wk g (nth (way lev fr x) i) i x := by
      intro i
      induction i with
      | zero => intro _; rw [a2]; rfl
      | succ i ih =>
        intro hi
        have h1 := ih (by omega)
        have h2 := (B.step _ (a3 i (by omega)).1 _ (a4 i (by omega))).2.1
        have := (Wk.one h2).trans h1
        exact (Nat.add_comm 1 i) ▸ this
    exact ⟨_, this _ (Nat.le_refl _)⟩
  obtain ⟨v1, kv, v2⟩ := key v hv
  obtain ⟨w1, kw, w2⟩ := key w hw
  simp only [Nat.add_sub_cancel]
  have hvw : Wk g (nth (way lev fr v) (lev v)) (kv + 1) w := ⟨v, v2, ha⟩
  exact Nat.le_antisymm (v1 _ _ (hvw.trans (w2.rev U))) (w1 _ _ (w2.trans (hvw.rev U)))
end
end Go.Proofs.YtpknnjcbcndbbaaDoor
