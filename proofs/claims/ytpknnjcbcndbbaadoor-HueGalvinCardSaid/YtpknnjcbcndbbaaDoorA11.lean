/- The program's fan: what holds while it grows. The program's turn of a fan by one edge: a walk. -/
import Derived.Test.YtpknnjcbcndbbaaDoorA10
import Derived.Sort.CutIn
import Derived.StillTailTactics
set_option linter.unusedVariables false
set_option linter.unusedSimpArgs false
namespace Go.Proofs.YtpknnjcbcndbbaaDoor
open Go.RowKit Go.Shelf
attribute [local go_sem] Oper.semAt_some

def marks (Ds : List Nat) : List Deferred := Ds.map fun D => { target := .collected D, args := #[] }
theorem leave_marks {F : Fence} {n : Nat} {P : Program} {fn : Func} {tmps : Array Value} {R : Ending → World → Prop} : ∀ (Ds : List Nat) (W : World), Ds.Nodup → (∀ D ∈ Ds, W.heap[D]? = some (.deferred (some []))) →
    (∀ W' : World, W'.os = W.os → W'.tape = W.tape → W'.output = W.output → W'.heap.size = W.heap.size → (∀ k, k ∉ Ds → W'.heap[k]? = W.heap[k]?) → LeavesInM F n P fn tmps R [] .returning W') → LeavesInM F n P fn tmps R (marks Ds) .returning W
  | [], W, _, _, h => h W rfl rfl rfl rfl (fun _ _ => rfl)
  | D :: Ds, W, hn, hd, h => by
    have hD := hd D List.mem_cons_self
    rw [List.nodup_cons] at hn
    refine ⟨by simp, .inl ⟨D, _, rfl, run_takeDeferred hD, ?_⟩⟩
    refine leave_marks Ds _ hn.2 (fun D' hD' => (World.putObj_heap_other (fun e => hn.1 (by rw [← e]; exact hD'))).trans (hd D' (List.mem_cons_of_mem _ hD'))) fun W' h1 h2 h3 h4 h5 => h W' h1 h2 h3 (by rw [h4]; simp) fun k hk => ?_
    rw [List.mem_cons, not_or] at hk
    exact (h5 k hk.2).trans (World.putObj_heap_other hk.1)
/-- the vertices of a list as bits -/
def ms (l : List Nat) : Nat := l.foldl (fun a x => a ||| 2 ^ x) 0
theorem ms_snoc (l : List Nat) (x : Nat) : ms (l ++ [x]) = ms l ||| 2 ^ x := by unfold ms; rw [List.foldl_append]; rfl
theorem ms_bit (l : List Nat) (x : Nat) : (ms l).testBit x = true ↔ x ∈ l := by
  have key : ∀ (l : List Nat) (a : Nat), (l.foldl (fun a x => a ||| 2 ^ x) a).testBit x = true ↔ a.testBit x = true ∨ x ∈ l := fun l => by
    induction l with
    | nil => simp
    | cons y l ih =>
      intro a
      rw [List.foldl_cons, ih, bit_or_pow, List.mem_cons]
      simp only [Bool.or_eq_true, decide_eq_true_eq]
      constructor
      · rintro ((h | h) | h)
        · exact .inl h
        · exact .inr (.inl h.symm)
        · exact .inr (.inr h)
      · rintro (h | h | h)
        · exact .inl (.inl h)
        · exact .inl (.inr h.symm)
        · exact .inr h
  have := key l 0
  unfold ms
  simpa using this
theorem ms_lt {l : List Nat} (h : ∀ x ∈ l, x < 16) : ms l < 65536 := by
  refine Nat.lt_pow_two_of_testBit (n := 16) _ fun i hi => ?_
  cases hb : (ms l).testBit i with
  | false => rfl
  | true => have := h i ((ms_bit l i).1 hb); omega
/-- the fan under way in memory; b: the heap's size at the call -/
structure FFix (w W : World) (b p v gB : Nat) (Ds : List Nat) (l : List Nat) (gr : Bool) : Prop where
  c : Boxed W b 112 (.pointer (some ⟨p, 0, none⟩))
  v : Boxed W (b + 1) 3 (.int .i64 (v : Int))
  below : Below w.heap.size w W
  marks : Ds.Nodup ∧ ∀ D ∈ Ds, b + 1 + 1 + 1 + 1 < D ∧ W.heap[D]? = some (.deferred (some []))
  fan : ∃ qv, Boxed W (b + 1 + 1 + 1) 25 qv ∧ QRow W (b + 1 + 1) 3 1 qv l.length (iv l) ∧ qv.ownBlock ≠ some (b + 1 + 1 + 1 + 1)
  inb : Boxed W (b + 1 + 1 + 1 + 1) 3 (.int .i64 (ms l : Nat))
  grow : Boxed W gB 4 (.bool gr)
  hgB : b + 1 + 1 + 1 + 1 < gB
theorem FFix.ag {ex : Nat → Prop} {w W W' : World} {b p v gB : Nat} {Ds l : List Nat} {gr : Bool} (h : FFix w W b p v gB Ds l gr) (hg : Ag ex W W') (he : ∀ k, ex k → w.heap.size ≤ k ∧ k ∉ Ds ∧ ∀ o, W.heap[k]? = some o → o.isCells = false) : FFix w W' b p v gB Ds l gr := by
  have nc : ∀ {k : Nat} {o : Obj}, W.heap[k]? = some o → o.isCells = true → ¬ ex k := fun {k o} ho hc hx => by rw [(he k hx).2.2 o ho] at hc; cases hc
  obtain ⟨qv, q1, q2, q3⟩ := h.fan
  refine ⟨hg.boxed h.c (nc h.c rfl), hg.boxed h.v (nc h.v rfl), hg.below h.below h.below.size (fun k hk e => by have := (he k e).1; omega), ⟨h.marks.1, fun D hD => ⟨(h.marks.2 D hD).1, hg.obj (h.marks.2 D hD).2 (fun e => (he D e).2.1 hD)⟩⟩, ⟨qv, hg.boxed q1 (nc q1 rfl), hg.qrow q2 (fun k hk => ?_), q3⟩, hg.boxed h.inb (nc h.inb rfl), hg.boxed h.grow (nc h.grow rfl), h.hgB⟩
  rcases q2.2 with ⟨rfl, _⟩ | ⟨g, o, cap, cur, rfl, _, e3, _⟩
  · cases hk
  · cases hk; exact nc e3 rfl
theorem FFix.keep {w W W' : World} {b p v gB : Nat} {Ds l : List Nat} {gr : Bool} (h : FFix w W b p v gB Ds l gr) (hB : Below W.heap.size W W') : FFix w W' b p v gB Ds l gr :=
  h.ag (ex := fun _ => False) (Ag.of_below hB) (fun _ e => e.elim)
def fanFr (p v w0 b gB : Nat) (j : Nat → Value) : Array Value :=
  #[.pointer (some ⟨p, 0, none⟩), .int .i64 (v : Int), .int .i64 (w0 : Int), .pointer (some ⟨b, 0, none⟩), .pointer (some ⟨b + 1, 0, none⟩), j 5, .pointer (some ⟨b + 1 + 1 + 1, 0, none⟩), .pointer (some ⟨b + 1 + 1 + 1 + 1, 0, none⟩), .pointer (some ⟨gB, 0, none⟩), j 9, j 10, j 11, j 12, j 13, j 14, j 15, j 16, j 17, j 18, j 19, j 20, j 21, j 22, j 23, j 24, j 25, j 26, j 27, j 28, j 29, j 30, j 31, j 32, j 33, j 34, j 35, j 36, j 37, j 38, j 39, j 40, j 41, j 42, j 43, j 44, j 45, j 46, j 47, j 48, j 49, j 50, j 51, j 52, j 53, j 54, j 55, j 56, j 57, j 58, j 59, j 60, j 61, j 62, j 63, j 64, j 65, j 66, j 67, j 68, j 69, j 70, j 71, j 72, j 73, j 74, j 75, j 76, j 77, j 78, j 79, j 80, j 81, j 82, j 83, j 84, j 85, j 86, j 87, j 88, j 89, j 90, j 91, j 92, j 93, j 94, j 95, j 96, j 97, j 98, j 99, j 100, j 101, j 102, j 103, j 104, j 105, j 106, j 107, j 108, j 109, j 110, j 111, j 112, j 113, j 114, j 115, j 116, j 117, j 118, j 119, j 120, j 121, j 122, j 123, j 124, j 125, j 126, j 127, j 128, j 129, j 130, j 131, j 132, j 133, j 134, j 135, j 136, j 137, j 138, j 139, j 140, j 141, j 142, j 143, j 144, j 145, j 146, j 147, j 148, j 149, j 150, j 151, j 152, j 153, j 154]
theorem fanFr_of {p v w0 b gB : Nat} (t : Array Value) (h : t = fanFr p v w0 b gB fun n => t.getD n undef) : ∃ j, t = fanFr p v w0 b gB j := ⟨_, h⟩
theorem FFix.turn {w W : World} {b p v gB : Nat} {Ds l : List Nat} {gr : Bool} (h : FFix w W b p v gB Ds l gr) (hb : w.heap.size ≤ b) (r : Bool) : FFix w (W.setCell ⟨gB, 0, none⟩ (.bool r)) b p v gB Ds l r := by
  have hg : Ag (fun k => k = gB) W (W.setCell ⟨gB, 0, none⟩ (.bool r)) := (Ag.refl _ W).set _ _ (.inr rfl)
  have := h.hgB
  obtain ⟨qv, q1, q2, q3⟩ := h.fan
  exact ⟨hg.boxed h.c (by omega), hg.boxed h.v (by omega), hg.below h.below h.below.size (fun k hk e => by omega), ⟨h.marks.1, fun D hD => ⟨(h.marks.2 D hD).1, hg.obj (h.marks.2 D hD).2 (fun e => by
    have h1 := (h.marks.2 D hD).2
    rw [e, show W.heap[gB]? = _ from h.grow] at h1; cases h1)⟩⟩, ⟨qv, hg.boxed q1 (by omega), hg.qrow q2 (fun k hk e => q2.ne_box h.grow (by decide) (e ▸ hk)), q3⟩, hg.boxed h.inb (by omega), Boxed.set _ h.grow, h.hgB⟩
theorem boxed_otherN {W : World} {B B' i : Nat} {t : TypeId} {v : Value} (h : Boxed W B t v) (hne : B ≠ B') (u : Value) : Boxed (W.setCell ⟨B', i, none⟩ u) B t v := BoxN.other (vs := #[v]) h (a := ⟨B', i, none⟩) hne u
theorem QRow.own_cells {W : World} {base : Nat} {e : TypeId} {size : Nat} {v : Value} {n : Nat} {xs : List Value} (h : QRow W base e size v n xs) {k : Nat} (hk : v.ownBlock = some k) : ∃ o, W.heap[k]? = some o ∧ o.isCells = true := by
  rcases h.2 with ⟨rfl, _⟩ | ⟨g, o, cap, cur, rfl, _, e3, _⟩
  · cases hk
  · cases hk; exact ⟨_, e3, rfl⟩
theorem FFix.longer {w Z V4 : World} {b p v gB x mv : Nat} {Ds l : List Nat} {qv v4 : Value} {ob : Obj} (F : FFix w Z b p v gB Ds l false) (hb : w.heap.size ≤ b) (q1 : Boxed Z (b + 1 + 1 + 1) 25 qv) (q2 : QRow Z (b + 1 + 1) 3 1 qv l.length (iv l)) (q3 : qv.ownBlock ≠ some (b + 1 + 1 + 1 + 1))
    (r : QRow V4 (b + 1 + 1) 3 1 v4 (l.length + 1) (iv l ++ [.int .i64 (x : Int)])) (hg : (Z.alloc ob).grownBy V4 qv.ownBlock) (ho : ∀ k, v4.ownBlock = some k → qv.ownBlock = some k ∨ (Z.alloc ob).heap.size ≤ k) (hmv : mv = ms (l ++ [x])) :
    FFix w (((V4.setCell ⟨b + 1 + 1 + 1, 0, none⟩ v4).setCell ⟨b + 1 + 1 + 1 + 1, 0, none⟩ (.int .i64 (mv : Nat))).setCell ⟨gB, 0, none⟩ (.bool true)) b p v gB Ds (l ++ [x]) true ∧
    Ag (fun k => k = b + 1 + 1 + 1 ∨ k = b + 1 + 1 + 1 + 1 ∨ k = gB ∨ qv.ownBlock = some k) Z (((V4.setCell ⟨b + 1 + 1 + 1, 0, none⟩ v4).setCell ⟨b + 1 + 1 + 1 + 1, 0, none⟩ (.int .i64 (mv : Nat))).setCell ⟨gB, 0, none⟩ (.bool true)) := by
  have hgb := F.hgB
  have hag : Ag (fun k => k = b + 1 + 1 + 1 ∨ k = b + 1 + 1 + 1 + 1 ∨ k = gB ∨ qv.ownBlock = some k) Z (((V4.setCell ⟨b + 1 + 1 + 1, 0, none⟩ v4).setCell ⟨b + 1 + 1 + 1 + 1, 0, none⟩ (.int .i64 (mv : Nat))).setCell ⟨gB, 0, none⟩ (.bool true)) :=
    ((((((Ag.refl _ Z).alloc ob).grown hg (fun k e => .inr (.inr (.inr (.inr e))))).set _ _ (.inr (.inl rfl))).set _ _ (.inr (.inr (.inl rfl)))).set _ _ (.inr (.inr (.inr (.inl rfl)))))
  have own : ∀ k, qv.ownBlock = some k → b + 1 + 1 ≤ k := fun k e => (q2.lt k e).1
  have hcells : ∀ k, (k = b + 1 + 1 + 1 ∨ k = b + 1 + 1 + 1 + 1 ∨ k = gB ∨ qv.ownBlock = some k) → ∃ o, Z.heap[k]? = some o ∧ o.isCells = true := fun k e => by
    rcases e with rfl | rfl | rfl | e
    · exact ⟨_, q1, rfl⟩
    · exact ⟨_, F.inb, rfl⟩
    · exact ⟨_, F.grow, rfl⟩
    · exact q2.own_cells e
  have n3 : qv.ownBlock ≠ some (b + 1 + 1 + 1) := q2.ne_box q1 (by decide)
  have n5 : qv.ownBlock ≠ some gB := q2.ne_box F.grow (by decide)
  have w3 : Boxed V4 (b + 1 + 1 + 1) 25 qv := (q1.alloc ob).kept hg n3.symm
  have w4 : Boxed V4 (b + 1 + 1 + 1 + 1) 3 (.int .i64 (ms l : Nat)) := (F.inb.alloc ob).kept hg q3.symm
  have w5 : Boxed V4 gB 4 (.bool false) := (F.grow.alloc ob).kept hg n5.symm
  have m3 : v4.ownBlock ≠ some (b + 1 + 1 + 1) := r.ne_box w3 (by decide)
  have m5 : v4.ownBlock ≠ some gB := r.ne_box w5 (by decide)
  have m4 : v4.ownBlock ≠ some (b + 1 + 1 + 1 + 1) := fun e => by
    rcases ho _ e with h | h
    · exact q3 h
    · have := F.inb.lt
      simp at h; omega
  refine ⟨⟨hag.boxed F.c (fun e => ?_), hag.boxed F.v (fun e => ?_), hag.below F.below F.below.size (fun k hk e => ?_), ⟨F.marks.1, fun D hD => ⟨(F.marks.2 D hD).1, hag.obj (F.marks.2 D hD).2 (fun e => ?_)⟩⟩, ⟨v4, ?_, ?_, m4⟩, ?_, ?_, F.hgB⟩, hag⟩
  · rcases e with e | e | e | e <;> (try have := own _ e) <;> omega
  · rcases e with e | e | e | e <;> (try have := own _ e) <;> omega
  · rcases e with e | e | e | e <;> (try have := own _ e) <;> omega
  · obtain ⟨o, h1, h2⟩ := hcells D e
    rw [(F.marks.2 D hD).2] at h1; cases h1; cases h2
  · exact boxed_otherN (boxed_otherN (Boxed.set v4 w3) (by omega) _) (by omega) _
  · rw [List.length_append, iv_snoc]
    exact ((r.other (a := ⟨b + 1 + 1 + 1, 0, none⟩) (fun k e h => m3 (e.trans (congrArg some h))) v4).other (a := ⟨b + 1 + 1 + 1 + 1, 0, none⟩) (fun k e h => m4 (e.trans (congrArg some h))) _).other (a := ⟨gB, 0, none⟩) (fun k e h => m5 (e.trans (congrArg some h))) _
  · rw [← hmv]
    exact boxed_otherN (Boxed.set _ (boxed_otherN w4 (by omega) _)) (by omega) _
  · exact Boxed.set _ (boxed_otherN (boxed_otherN w5 (by omega) _) (by omega) _)
/-- behind a round: a fresh box for what was in the old -/
theorem FFix.round {w X : World} {b p v gB Dm : Nat} {Ds l : List Nat} {gr : Bool} (F : FFix w X b p v gB Ds l gr) (hd : X.heap[Dm]? = some (.deferred (some []))) (hn : Dm ∉ Ds) (hD : b + 1 + 1 + 1 + 1 < Dm) (r : Bool) : FFix w (X.alloc (.cells #[.bool r] 4)) b p v X.heap.size (Dm :: Ds) l r := by
  have hg : Ag (fun _ => False) X (X.alloc (.cells #[.bool r] 4)) := (Ag.refl _ X).alloc _
  have FN := F.ag hg (fun _ e => e.elim)
  exact ⟨FN.c, FN.v, FN.below, ⟨List.nodup_cons.2 ⟨hn, FN.marks.1⟩, fun D hD' => by
    rcases List.mem_cons.1 hD' with rfl | hD'
    · exact ⟨hD, hg.obj hd id⟩
    · exact FN.marks.2 D hD'⟩, FN.fan, FN.inb, boxed_at rfl, F.inb.lt⟩
/-- the loop's relation; k bounds the rounds -/
def FI (w : World) (b p v w0 : Nat) (g : List Nat) (col : Nat × Nat → Option Nat) (k : Nat) (a : Act) (W : World) : Prop :=
  ∃ (gB : Nat) (Ds l : List Nat) (gr : Bool), (∃ j, a.tmps = fanFr p v w0 b gB j) ∧ a.defers = marks Ds ∧ FFix w W b p v gB Ds l gr ∧ FanOK g col v l ∧ nth l 0 = w0 ∧ (gr = false → FanMax col v l) ∧ 2 * (17 - l.length) + (if gr then 1 else 0) ≤ k
theorem FanOK.len {g : List Nat} {col : Nat × Nat → Option Nat} {v : Nat} {l : List Nat} (F : FanOK g col v l) : l.length ≤ 16 :=
  nodup_below' 16 l F.nd fun x hx => by obtain ⟨i, hi, rfl⟩ := mem_nth hx; exact (F.adj i hi).2.2.1
theorem tb_bit1 {a k : Nat} (h : a.testBit k = true) : tb a k = 1 := by unfold tb; rw [h]; rfl
theorem tb_bit0 {a k : Nat} (h : a.testBit k = false) : tb a k = 0 := by unfold tb; rw [h]; rfl
theorem shr_and1_u (a k : Nat) (ha : a < 18446744073709551616) : bits .and .u64 ((shr a k : Nat) : Int) 1 = ((tb a k : Nat) : Int) := by
  have hx : shr a k < 18446744073709551616 := Nat.lt_of_le_of_lt (Nat.div_le_self _ _) ha
  have h1 : shr a k &&& 1 = tb a k := by rw [tb_eq, Nat.and_one_is_mod]; rfl
  show IntKind.u64.wrap ((BitVec.ofInt 64 ((shr a k : Nat) : Int) &&& BitVec.ofInt 64 (1 : Int)).toNat : Int) = _
  rw [BitVec.toNat_and, ofNat64 _ hx, show (BitVec.ofInt 64 (1 : Int)).toNat = 1 from rfl, h1, u64_same _ (by rw [tb_eq]; omega)]
end Go.Proofs.YtpknnjcbcndbbaaDoor
namespace Go.Proofs.YtpknnjcbcndbbaaDoor
open Go.RowKit Go.Shelf

set_option maxRecDepth 100000 in
set_option maxHeartbeats 2000000 in
theorem turn_any (p G M v i x y h b n fb fo fc : Nat) (g : List Nat) (us : Nat → Nat) (col : Nat × Nat → Option Nat) (w : World) (hP : PaintAt w p G M us col) (H : HInv g us col)
    (hc : Boxed w b 112 (.pointer (some ⟨p, 0, none⟩))) (hv1 : Boxed w (b + 1) 3 (.int .i64 (v : Int))) (hf : Boxed w (b + 1 + 1 + 1) 25 (.slice (some ⟨fb, fo, none⟩) n fc)) (cx : w.cell? ⟨fb, fo + i, none⟩ = some (.int .i64 (x : Int))) (cy : w.cell? ⟨fb, fo + (i + 1), none⟩ = some (.int .i64 (y : Int)))
    (hin : i + 1 < n) (hn : n ≤ 16) (hpb : p < b) (hMb : M < b) (hfb : b < fb) (hfl : fb < w.heap.size) (hv : v < 16) (hx : x < 16) (hy : y < 16) (hvx : v ≠ x) (hvy : v ≠ y) (hxy : x ≠ y) (ha : adj g v x) (ha' : adj g x v) (hh : h < 64) (hcol : col (ed v y) = some h) (hno : col (ed v x) = none) (hfx : ∀ z, col (ed x z) ≠ some h) :
    Calls Tryd.prog 97 #[.int .i64 (i : Int), .pointer (some ⟨b, 0, none⟩), .pointer (some ⟨b + 1, 0, none⟩), .pointer (some ⟨b + 1 + 1 + 1, 0, none⟩)] w fun e w' => e = .returned (.tuple #[]) ∧ (∃ us', PaintAt w' p G M us' (setF (setF col (ed v y) none) (ed v x) (some h)) ∧ HInv g us' (setF (setF col (ed v y) none) (ed v x) (some h))) ∧ Ag (fun k => k = p ∨ k = M) w w' := by
  have r0 : ∀ d : BW w.heap.size w, d.w.cell? ⟨b, 0, none⟩ = some (.pointer (some ⟨p, 0, none⟩)) := fun d => d.cell hc.lt hc.cell
  have r1 : ∀ d : BW w.heap.size w, d.w.cell? ⟨b + 1, 0, none⟩ = some (.int .i64 (v : Int)) := fun d => d.cell hv1.lt hv1.cell
  have r2 : ∀ d : BW w.heap.size w, d.w.cell? ⟨b + 1 + 1 + 1, 0, none⟩ = some (.slice (some ⟨fb, fo, none⟩) n fc) := fun d => d.cell hf.lt hf.cell
  have r3 : ∀ d : BW w.heap.size w, d.w.cell? ⟨fb, fo + (i + 1), none⟩ = some (.int .i64 (y : Int)) := fun d => d.cell hfl cy
  have HT : Hid (∀ d : BW w.heap.size w, Calls Tryd.prog 81 #[.pointer (some ⟨p, 0, none⟩), .int .i64 (v : Int), .int .i64 (y : Int)] d.w fun e w' => e = .returned (.int .i64 (h : Int)) ∧ (∃ us', PaintAt w' p G M us' (setF col (ed v y) none) ∧ HInv g us' (setF col (ed v y) none)) ∧ Ag (fun k => k = p ∨ k = M) d.w w') := fun d =>
    (take_any p G M v y h us col d.w (hP.below d.b) hv hy hvy hh hcol).mono fun e w' ⟨h1, h2, h3⟩ => ⟨h1, ⟨_, h2, H.take hcol⟩, h3⟩
  have hno2 : setF col (ed v y) none (ed v x) = none := by rw [setF_ne _ _ (fun e => hxy (ed_inj e))]; exact hno
  have hfv2 : ∀ z, setF col (ed v y) none (ed v z) ≠ some h := fun z hz => by
    by_cases e : z = y
    · subst e; rw [setF_same] at hz; cases hz
    · rw [setF_ne _ _ (fun e2 => e (ed_inj e2))] at hz
      exact e (H.inj v z y h hz hcol)
  have hfx2 : ∀ z, setF col (ed v y) none (ed x z) ≠ some h := fun z hz => by
    by_cases e : ed x z = ed v y
    · rw [e, setF_same] at hz; cases hz
    · rw [setF_ne _ _ e] at hz; exact hfx z hz
  have HPUT : Hid (∀ us' W, PaintAt W p G M us' (setF col (ed v y) none) → HInv g us' (setF col (ed v y) none) → Calls Tryd.prog 79 #[.pointer (some ⟨p, 0, none⟩), .int .i64 (v : Int), .int .i64 (x : Int), .int .i64 (h : Int)] W fun e w' => e = .returned (.tuple #[]) ∧ (∃ us', PaintAt w' p G M us' (setF (setF col (ed v y) none) (ed v x) (some h)) ∧ HInv g us' (setF (setF col (ed v y) none) (ed v x) (some h))) ∧ Ag (fun k => k = p ∨ k = M) W w') := fun us' W h1 h2 =>
    (put_any p G M v x h us' _ W h1 hv hx hvx hh).mono fun e w' ⟨e1, e2, e3⟩ => ⟨e1, ⟨_, e2, h2.put hv hx hvx ha ha' hh hno2 hfv2 hfx2⟩, e3⟩
  have hbs := hc.lt
  have hv1l := hv1.lt
  have hfl3 := hf.lt
  have HC := Lib.hid hc
  have HV1 := Lib.hid hv1
  have HF := Lib.hid hf
  have HCX := Lib.hid cx
  clear hP H hc hv1 hf cx cy hcol hno hfx hno2 hfv2 hfx2 ha ha'
  have e1 : (i : Int) + 1 < (n : Int) := by omega
  have e2 : (0 : Int) ≤ (i : Int) + 1 := by omega
  have e3 : ((i : Int) + 1).toNat = i + 1 := by omega
  have e5 : (i : Int) < (n : Int) := by omega
  have e6 : (0 : Int) ≤ (i : Int) := by omega
  go_enter Tryd.func97, Tryd.ntmps97
  go_wp2
  refine wp_region_bw_tail 7 (by kernel_rfl) (by kernel_rfl) ?_
  simp only [List.take_succ_cons, List.take_zero, List.drop_succ_cons, List.drop_zero]
  repeat (go_big_quiet_step (rfl))
  refine wpQuiet_nil ?_
  rintro _ ⟨d, rfl⟩
  clear r0 r1 r2 r3
  have HD := Lib.hid d.b
  have hdsz := d.b.size
  go_wp2_with (go_at_call 81; refine ((HT.out) d).mono ?_; rintro e w2 ⟨rfl, hR2, hag2⟩; have HR2 := Lib.hid hR2; have HA2 := Lib.hid ((Ag.of_below d.b).trans hag2); clear hR2 hag2)
  have hA := HA2.out
  have s0 : ∀ d : BW w2.heap.size w2, d.w.cell? ⟨b, 0, none⟩ = some (.pointer (some ⟨p, 0, none⟩)) := fun d => by have h := hA.boxed HC.out (by omega); exact d.cell h.lt h.cell
  have s1 : ∀ d : BW w2.heap.size w2, d.w.cell? ⟨b + 1, 0, none⟩ = some (.int .i64 (v : Int)) := fun d => by have h := hA.boxed HV1.out (by omega); exact d.cell h.lt h.cell
  have s2 : ∀ d : BW w2.heap.size w2, d.w.cell? ⟨b + 1 + 1 + 1, 0, none⟩ = some (.slice (some ⟨fb, fo, none⟩) n fc) := fun d => by have h := hA.boxed HF.out (by omega); exact d.cell h.lt h.cell
  have s3 : ∀ d : BW w2.heap.size w2, d.w.cell? ⟨fb, fo + i, none⟩ = some (.int .i64 (x : Int)) := fun d => d.cell (Nat.lt_of_lt_of_le hfl hA.size) ((World.cell?_of_block (hA.block fb hfl (by omega))).trans HCX.out)
  clear hA
  refine wp_region_bw_tail 7 (by kernel_rfl) (by kernel_rfl) ?_
  simp only [List.take_succ_cons, List.take_zero, List.drop_succ_cons, List.drop_zero]
  repeat (go_big_quiet_step (rfl))
  refine wpQuiet_nil ?_
  rintro _ ⟨d3, rfl⟩
  clear s0 s1 s2 s3
  obtain ⟨us3, hP3, hH3⟩ := HR2.out
  have HP3 : Hid (Calls Tryd.prog 79 #[.pointer (some ⟨p, 0, none⟩), .int .i64 (v : Int), .int .i64 (x : Int), .int .i64 (h : Int)] d3.w fun e w' => e = .returned (.tuple #[]) ∧ (∃ us', PaintAt w' p G M us' (setF (setF col (ed v y) none) (ed v x) (some h)) ∧ HInv g us' (setF (setF col (ed v y) none) (ed v x) (some h))) ∧ Ag (fun k => k = p ∨ k = M) d3.w w') := HPUT.out us3 d3.w (hP3.below d3.b) hH3
  clear hP3 hH3
  go_wp2_with (go_at_call 79; refine (HP3.out).mono ?_; rintro e w4 ⟨rfl, hR4, hag4⟩; have HR4 := Lib.hid hR4; have HA4 := Lib.hid ((HA2.out.trans (Ag.of_below d3.b)).trans hag4); clear hR4 hag4)
  go_end0
  exact ⟨rfl, HR4.out, HA4.out⟩
end Go.Proofs.YtpknnjcbcndbbaaDoor
