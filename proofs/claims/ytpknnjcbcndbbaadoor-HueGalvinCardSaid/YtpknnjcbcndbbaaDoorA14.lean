/- slices.Reverse by its contract off the shelf. The program's way to the root: a walk. The program's ring: a walk. The program's order and cores: walks. Colours from lists, in plain text. Rows of numbers that a call makes; what holds in memory while the sides are found. The program's colours by trial: a walk. -/
import Derived.Test.YtpknnjcbcndbbaaDoorA06
import Derived.Ground.NamesProg
import Derived.Shelf.Slices.Cells
import Derived.Shelf.Slices.Turned
import Derived.WalkKit
import Derived.Test.YtpknnjcbcndbbaaDoorA12
import Derived.Test.YtpknnjcbcndbbaaDoorOd
import Derived.Test.YtpknnjcbcndbbaaDoorA11
set_option linter.unusedVariables false
set_option linter.unusedSimpArgs false
namespace Go.Proofs
open Go.Shelf
def Tryd.lays112_ren : Go.Shelf.Ren := ⟨fun | 112 => 84 | n => n, fun | 28 => 25 | 3 => 3 | 4 => 4 | 0 => 0 | n => n, fun | n => n⟩
theorem Tryd.lays112 : Go.Proofs.Lays.n112 Tryd.prog Tryd.lays112_ren := {
  mixed := by kernel_rfl
  f112 := Tryd.func84.trans (congrArg some (by kernel_rfl))
  t0 := Tryd.underlying0
  a0 := Tryd.isAgg0
  z0 := Tryd.sizeOf0
  v0 := Tryd.zeroValue0
  t3 := Tryd.underlying3
  a3 := Tryd.isAgg3
  z3 := Tryd.sizeOf3
  v3 := Tryd.zeroValue3
  t4 := Tryd.underlying4
  a4 := Tryd.isAgg4
  z4 := Tryd.sizeOf4
  v4 := Tryd.zeroValue4
  t28 := Tryd.underlying25
  a28 := Tryd.isAgg25
  z28 := Tryd.sizeOf25
  v28 := Tryd.zeroValue25 }
end Go.Proofs
namespace Go.Proofs.YtpknnjcbcndbbaaDoor
open Go.RowKit Go.Shelf
def setL : List Value → Nat → List Value → List Value
  | xs, _, [] => xs
  | xs, k, v :: r => setL (xs.set k v) (k + 1) r
theorem setL_get : ∀ (vs xs : List Value) (k j : Nat), k + vs.length ≤ xs.length → (setL xs k vs)[j]? = if k ≤ j ∧ j < k + vs.length then vs[j - k]? else xs[j]?
  | [], xs, k, j, _ => by simp [setL]; intro h1 h2; omega
  | v :: r, xs, k, j, h => by
    rw [List.length_cons] at h
    rw [setL, setL_get r (xs.set k v) (k + 1) j (by simp; omega), List.length_cons]
    by_cases e : j = k
    · subst e
      rw [if_neg (by omega), if_pos (by omega), List.getElem?_set_self (by omega)]; simp
    · by_cases e2 : k + 1 ≤ j ∧ j < k + 1 + r.length
      · rw [if_pos e2, if_pos (by omega)]
        obtain ⟨m, rfl⟩ : ∃ m, j = k + 1 + m := ⟨j - (k + 1), by omega⟩
        rw [show k + 1 + m - (k + 1) = m by omega, show k + 1 + m - k = m + 1 by omega, List.getElem?_cons_succ]
      · rw [if_neg e2, if_neg (by omega), List.getElem?_set_ne (Ne.symm e)]
theorem QRow.setCells {base : Nat} {e : TypeId} {size : Nat} {g o cap n : Nat} : ∀ (vs : List Value) (W : World) (xs : List Value) (k : Nat), QRow W base e size (.slice (some ⟨g, o, none⟩) n cap) n xs → k + vs.length ≤ n * size →
    QRow (W.setCells g (o + k) vs) base e size (.slice (some ⟨g, o, none⟩) n cap) n (setL xs k vs) ∧ Ag (· = g) W (W.setCells g (o + k) vs)
  | [], W, xs, k, h, _ => ⟨h, Ag.refl _ _⟩
  | v :: r, W, xs, k, h, hk => by
    rw [List.length_cons] at hk
    have h1 := h.set k (by omega) v
    have h2 := QRow.setCells r _ _ (k + 1) h1 (by omega)
    exact ⟨h2.1, ((Ag.refl (· = g) W).set ⟨g, o + k, none⟩ v (.inr rfl)).trans h2.2⟩
theorem QRow.drewN {W : World} {base : Nat} {e : TypeId} {size : Nat} {v : Value} {n : Nat} {xs : List Value} (h : QRow W base e size v n xs) (k : Nat) : QRow (W.drewN k) base e size v n xs := h
theorem reverse_q (W : World) (base : Nat) (v : Value) (xs : List Int) (h : QRow W base 3 1 v xs.length (xs.map (Value.int .i64))) (hn : xs.length ≤ maxLen) :
    Calls Tryd.prog 84 #[v] W fun e w' => e = .returned (.tuple #[]) ∧ QRow w' base 3 1 v xs.length (xs.reverse.map (Value.int .i64)) ∧ Ag (fun k => v.ownBlock = some k) W w' := by
  rcases hv : xs with _ | ⟨x, r⟩
  · subst hv
    obtain ⟨p, c, rfl⟩ := h.isSlice
    refine (show Calls Tryd.prog 84 #[.slice p 0 c] W _ from Any.slices_Reverse_int_empty Tryd.lays112 p c W).mono ?_
    rintro e w' ⟨rfl, rfl⟩
    exact ⟨rfl, h, Ag.refl _ _⟩
  · rw [← hv]
    obtain ⟨g, o, cap, rfl, h1, h2, h3, h4, h5, h6⟩ := h.at (by rw [hv]; simp)
    refine (show Calls Tryd.prog 84 #[.slice (some ⟨g, o, none⟩) xs.length cap] W _ from Any.slices_Reverse_int_cells Tryd.lays112 g o xs.length cap xs W (Nat.le_refl _) (by unfold maxLen at hn; omega) (fun j hj => ?_) (fun j hj => h6 _)).mono ?_
    · rw [h5 j (by omega)]
      simp [List.getElem?_map, List.getElem?_eq_getElem hj, List.getD_eq_getElem?_getD]
    · rintro e w' ⟨rfl, q, rfl⟩
      have := QRow.setCells ((xs.take xs.length).reverse.map (Value.int .i64)) (W.drewN q) _ 0 (h.drewN q) (by simp)
      refine ⟨rfl, ?_, ?_⟩
      · have e2 : setL (xs.map (Value.int .i64)) 0 ((xs.take xs.length).reverse.map (Value.int .i64)) = xs.reverse.map (Value.int .i64) := by
          apply List.ext_getElem?
          intro j
          rw [setL_get _ _ _ _ (by simp)]
          by_cases e : j < xs.length
          · rw [if_pos (by simp; exact e), List.take_length]; rfl
          · rw [if_neg (by simp; omega), List.getElem?_eq_none (by simp; omega), List.getElem?_eq_none (by simp; omega)]
        rw [e2] at this
        exact this.1
      · exact ((Ag.refl _ W).drewN q).trans (this.2.mono (fun k hk => by subst hk; rfl))
end Go.Proofs.YtpknnjcbcndbbaaDoor
namespace Go.Proofs.YtpknnjcbcndbbaaDoor
open Go.RowKit Go.Shelf

theorem QRow.take {w : World} {base : Nat} {e : TypeId} {size : Nat} {g o cap n : Nat} {xs : List Value} (h : QRow w base e size (.slice (some ⟨g, o, none⟩) n cap) n xs) (m : Nat) (hm : m ≤ n) :
    QRow w base e size (.slice (some ⟨g, o, none⟩) m cap) m (xs.take (m * size)) := by
  have hms := Nat.mul_le_mul_right size hm
  refine ⟨by rw [List.length_take, h.1]; omega, .inr ?_⟩
  rcases h.2 with ⟨e0, _⟩ | ⟨g', o', cap', cur, e1, hb, hg, h1, h2, h3, h4⟩
  · cases e0
  · cases e1
    exact ⟨g, o, cap, cur, rfl, hb, hg, by omega, h2, h3, fun j hj => by rw [List.getElem?_take, if_pos hj]; exact h4 j (by omega)⟩
theorem iv_take (l : List Nat) (m : Nat) : (iv l).take m = iv (l.take m) := by unfold iv; rw [List.map_take]
/-- a row of numbers -/
def RowF (W : World) (fb fo n : Nat) (f : Nat → Int) : Prop := fb < W.heap.size ∧ ∀ x, x < n → W.cell? ⟨fb, fo + x, none⟩ = some (.int .i64 (f x))
theorem RowF.below {W W' : World} {fb fo n k : Nat} {f : Nat → Int} (h : RowF W fb fo n f) (hB : Below k W W') (hk : fb < k) : RowF W' fb fo n f :=
  ⟨Nat.lt_of_lt_of_le h.1 hB.size, fun x hx => (hB.cell (p := ⟨fb, fo + x, none⟩) hk).trans (h.2 x hx)⟩
/-- a list in which each is where the one before it was reached from -/
structure Chn (f : Nat → Int) (n : Nat) (a : List Nat) (v : Nat) : Prop where
  pos : 0 < a.length
  first : nth a 0 = v
  lt : ∀ i, i < a.length → nth a i < n
  next : ∀ i, i + 1 < a.length → f (nth a i) = (nth a (i + 1) : Nat)
  last : f (nth a (a.length - 1)) = -1
  len : a.length ≤ 16

set_option maxRecDepth 100000 in
set_option maxHeartbeats 2000000 in
theorem way_any (bx fb fo fc n v : Nat) (f : Nat → Int) (a : List Nat) (w : World) (hbx : Boxed w bx 25 (.slice (some ⟨fb, fo, none⟩) n fc)) (hF : RowF w fb fo n f) (hC : Chn f n a v) :
    Calls Tryd.prog 100 #[.int .i64 (v : Int), .pointer (some ⟨bx, 0, none⟩)] w fun e w' => ∃ r, e = .returned r ∧ QRow w' w.heap.size 3 1 r a.length (iv a) ∧ Below w.heap.size w w' := by
  obtain ⟨i0, hi, hz0, hz1, hz2⟩ := info_parts info3
  have HF := Lib.hid hF
  have HC := Lib.hid hC
  have HX := Lib.hid hbx
  clear hF hC hbx
  go_enter Tryd.func100, Tryd.ntmps100
  go_wp2
  go_loopw [0, 4] (fun s0 s4 wr => ∃ k : Nat, k ≤ a.length ∧ s0 = .int .i64 (if k < a.length then (nth a k : Int) else -1) ∧ QRow wr w.heap.size 3 1 s4 k (iv (a.take k)) ∧ Below w.heap.size w wr) (fun _ s4 _ => 40 - lenV s4)
  case atStart => exact ⟨0, by omega, by rw [if_pos HC.out.pos, HC.out.first], QRow.nil _ _ _ _, Below.refl _ _⟩
  case round =>
    obtain ⟨k, hk, rfl, hq, hB⟩ := hrel
    have hlen := HC.out.len
    obtain ⟨p4, c4, rfl⟩ := hq.isSlice
    by_cases hlt : k < a.length
    · simp only [if_pos hlt]
      have hxn := HC.out.lt k hlt
      obtain ⟨x, hx⟩ : ∃ x, Hid (x = nth a k) := ⟨_, rfl⟩
      rw [← hx.out] at hxn ⊢
      have h1 : (0 : Int) ≤ (x : Int) := by omega
      have h2 : (x : Int) < (n : Int) := by omega
      have hc1 : f x = (if k + 1 < a.length then (nth a (k + 1) : Int) else -1) := by
        rw [hx.out]
        split
        · rename_i h; exact HC.out.next k h
        · have := HC.out.last
          rw [show a.length - 1 = k by omega] at this; exact this
      have hsn : iv (a.take (k + 1)) = iv (a.take k) ++ [.int .i64 (x : Int)] := by
        rw [List.take_succ_eq_append_getElem hlt, iv_snoc, hx.out]
        unfold nth
        rw [List.getElem?_eq_getElem hlt]; rfl
      have HSN := Lib.hid hsn
      have HC1 := Lib.hid hc1
      have HB := Lib.hid hB
      have HQ := Lib.hid hq
      have hbl := hq.lt
      have HBL := Lib.hid hbl
      clear hsn hc1 hB hq hbl
      go_wp2_with (at_builtin; go_must (refine wpList_append_q _ rfl (.tmp 11) (.tmp 13) 25 rfl w.heap.size 3 i0 (.int .i64 0) 1 8 Tryd.underlying25 hi hz0 hz1 hz2 rfl (by decide) _ k (iv (a.take k)) rfl (HQ.out.alloc (.cells #[.int .i64 (x : Int)] 3)) ⟨wr.heap.size, 0, none⟩ 1 1 [.int .i64 (x : Int)] rfl rfl (cells_new1 _ _ _) (by simp [Value.oneCell']) (by unfold maxLen; omega) (by omega) (by have := HB.out.size; simp; omega) ?_); intro v4 w4 hq4 hg4 ho4; obtain ⟨q1, q2, rfl⟩ := hq4.isSlice; have HQ4 := Lib.hid hq4; have HB4 : Hid (Below w.heap.size w w4) := Below.grown (HB.out.alloc HB.out.size _) hg4 (by have := HB.out.size; simp; omega) (fun kk e => (HBL.out kk e).1); clear hq4 hg4 ho4; have c0 := (HB4.out.cell (p := ⟨bx, 0, none⟩) HX.out.lt).trans HX.out.cell; have c1 := (HF.out.below HB4.out HF.out.1).2 x hxn)
      exact ⟨⟨k + 1, by omega, by rw [HC1.out], by rw [HSN.out]; exact HQ4.out, HB4.out⟩, by simp [lenV]; omega⟩
    · simp only [if_neg hlt]
      have hke : k = a.length := by omega
      rw [hke, List.take_length] at hq
      have HB := Lib.hid hB
      have HQ := Lib.hid hq
      clear hq hB hke
      rw [show k = a.length by omega]
      go_wp2
      go_ret
      exact ⟨_, rfl, HQ.out, HB.out⟩
end Go.Proofs.YtpknnjcbcndbbaaDoor
namespace Go.Proofs.YtpknnjcbcndbbaaDoor
open Go.RowKit Go.Shelf

/-- where the ring's two ways are cut -/
def RingC (a b : List Nat) (la lb : Nat) : Prop := 0 < la ∧ 0 < lb ∧ la ≤ a.length ∧ lb ≤ b.length ∧ nth a (la - 1) = nth b (lb - 1) ∧ (1 < la → 1 < lb → nth a (la - 2) ≠ nth b (lb - 2))
theorem iv_int (l : List Nat) : iv l = (l.map fun (x : Nat) => (x : Int)).map (Value.int .i64) := by unfold iv; rw [List.map_map]; rfl
theorem iv_append (l r : List Nat) : iv (l ++ r) = iv l ++ iv r := by unfold iv; rw [List.map_append]
theorem iv_one (l : List Nat) : ∀ u ∈ iv l, u.oneCell' = true := fun u hu => by unfold iv at hu; obtain ⟨x, _, rfl⟩ := List.mem_map.1 hu; rfl
theorem q_cells {w : World} {base : Nat} {e : TypeId} {g o cap n : Nat} {xs : List Value} (h : QRow w base e 1 (.slice (some ⟨g, o, none⟩) n cap) n xs) : ∀ j u, xs[j]? = some u → w.cell? ((⟨g, o, none⟩ : Addr).add j) = some u := fun j u hu => by
  have hj := (List.getElem?_eq_some_iff.1 hu).1
  rw [h.1, Nat.mul_one] at hj
  obtain ⟨_, _, _, e, _, _, _, _, h5, _⟩ := h.at (by omega)
  cases e
  rw [Addr.add_lit, h5 j (by omega)]; exact hu
theorem wr1 (z : Int) (h0 : 0 ≤ z) (h : z < 1000) : IntKind.i64.wrap (z + 1 - 1) = z ∧ IntKind.i64.wrap z = z ∧ wrap64 z = z := by
  have h2 : IntKind.i64.wrap z = z := IntWalk.i64_in _ (by omega)
  refine ⟨?_, h2, (IntWalk.i64_left _).symm.trans h2⟩
  rw [Int.add_sub_cancel]; exact h2
set_option maxRecDepth 100000 in
set_option maxHeartbeats 8000000 in
theorem ring_any (fb fo fc n v u : Nat) (f : Nat → Int) (a b : List Nat) (w : World) (hF : RowF w fb fo n f) (hA : Chn f n a v) (hB : Chn f n b u) (he : nth a (a.length - 1) = nth b (b.length - 1)) :
    Calls Tryd.prog 86 #[.slice (some ⟨fb, fo, none⟩) n fc, .int .i64 (v : Int), .int .i64 (u : Int)] w fun e w' => ∃ r la lb, e = .returned r ∧ RingC a b la lb ∧ QRow w' w.heap.size 3 1 r (la + (lb - 1)) (iv (a.take la ++ (b.take (lb - 1)).reverse)) ∧ Below w.heap.size w w' := by
  obtain ⟨i0, hi, hz0, hz1, hz2⟩ := info_parts info3
  have hap := hA.pos
  have hbp := hB.pos
  have hal := hA.len
  have hbl := hB.len
  have HB1 : Hid (Below w.heap.size w (w.alloc (.cells #[.slice (some ⟨fb, fo, none⟩) n fc] 25))) := (Below.refl _ w).alloc (Nat.le_refl _) _
  have HX1 : Hid (Boxed (w.alloc (.cells #[.slice (some ⟨fb, fo, none⟩) n fc] 25)) w.heap.size 25 (.slice (some ⟨fb, fo, none⟩) n fc)) := boxed_at rfl
  have HWAY : Hid (∀ W x c, Below (w.heap.size + 1) (w.alloc (.cells #[.slice (some ⟨fb, fo, none⟩) n fc] 25)) W → Chn f n c x → Calls Tryd.prog 100 #[.int .i64 (x : Int), .pointer (some ⟨w.heap.size, 0, none⟩)] W fun e w' => ∃ g o cap, e = .returned (.slice (some ⟨g, o, none⟩) c.length cap) ∧ QRow w' W.heap.size 3 1 (.slice (some ⟨g, o, none⟩) c.length cap) c.length (iv c) ∧ W.heap.size ≤ g ∧ g < w'.heap.size ∧ c.length ≤ cap ∧ Below W.heap.size W w') := fun W x c hW hc => by
    refine (way_any w.heap.size fb fo fc n x f c W (boxed_below HX1.out (hW.mono (by simp))) ((hF.below HB1.out hF.1).below hW (by have := hF.1; omega)) hc).mono ?_
    rintro e w' ⟨r, rfl, hq, hb⟩
    obtain ⟨g, o, cap, rfl, h1, h2, h3, h4, h5, h6⟩ := hq.at hc.pos
    exact ⟨g, o, cap, rfl, hq, h1, h2, h3, hb⟩
  have HA := Lib.hid hA
  have HB := Lib.hid hB
  have HE := Lib.hid he
  have hs0 : w.heap.size + 1 ≤ (w.alloc (.cells #[.slice (some ⟨fb, fo, none⟩) n fc] 25)).heap.size := by simp
  clear hF hA hB he
  go_enter Tryd.func86, Tryd.ntmps86
  go_wp2_with (first
    | (go_at_call 100; with_reducible refine Calls.mono (HWAY.out _ v a (Below.refl _ _) HA.out) ?_; rintro e w2 ⟨ga, oa, ca, rfl, hqa, hga1, hga, hca, hb2⟩; have HQA := Lib.hid hqa; have HB2 := Lib.hid hb2; clear hqa hb2; try dsimp only)
    | (go_at_call 100; with_reducible refine Calls.mono (HWAY.out _ u b (HB2.out.mono hs0) HB.out) ?_; rintro e w3 ⟨gb, ob, cb, rfl, hqb, hgb1, hgb, hcb, hb3⟩; have HQB := Lib.hid hqb; have HBB := Lib.hid hb3; clear hqb hb3; try dsimp only))
  have hs1 : (w.alloc (.cells #[.slice (some ⟨fb, fo, none⟩) n fc] 25)).heap.size = w.heap.size + 1 := by simp
  have hs2 := HB2.out.size
  have hs3 := HBB.out.size
  have HB3 := Lib.hid (HB1.out.trans ((HB2.out.mono HB1.out.size).trans (HBB.out.mono (Nat.le_trans HB1.out.size hs2))))
  have HQA := Lib.hid (HQA.out.below HBB.out (fun kk e => by have e' : some ga = some kk := e; cases e'; exact hga))
  have hga : ga < w3.heap.size := by omega
  have hbase : w.heap.size ≤ (w.alloc (.cells #[.slice (some ⟨fb, fo, none⟩) n fc] 25)).heap.size := by omega
  have hbase2 : w.heap.size ≤ w2.heap.size := by omega
  have hne : ga ≠ gb := by omega
  have hgaw : w.heap.size ≤ ga := by omega
  have hgbw : w.heap.size ≤ gb := by omega
  clear HWAY HX1 HB1
  go_loopw [8, 9] (fun s8 s9 wr => ∃ la lb, Hid (0 < la ∧ 0 < lb ∧ la ≤ a.length ∧ lb ≤ b.length ∧ nth a (la - 1) = nth b (lb - 1)) ∧ s8 = .slice (some ⟨ga, oa, none⟩) la ca ∧ s9 = .slice (some ⟨gb, ob, none⟩) lb cb ∧ Below w3.heap.size w3 wr) (fun s8 _ _ => lenV s8)
  case atStart => exact ⟨a.length, b.length, ⟨hap, hbp, Nat.le_refl _, Nat.le_refl _, HE.out⟩, rfl, rfl, Below.refl _ _⟩
  case round =>
    obtain ⟨la, lb, hr, rfl, rfl, hBR⟩ := hrel
    have hla := hr.out.1
    have hlb := hr.out.2.1
    have hla2 := hr.out.2.2.1
    have hlb2 := hr.out.2.2.2.1
    have HBR := Lib.hid hBR
    obtain ⟨j, rfl⟩ : ∃ j, lb = j + 1 := ⟨lb - 1, by omega⟩
    by_cases h1 : 1 < la
    · obtain ⟨m, rfl⟩ : ∃ m, la = m + 2 := ⟨la - 2, by omega⟩
      by_cases h2 : 1 < j + 1
      · obtain ⟨k, rfl⟩ : ∃ k, j = k + 1 := ⟨j - 1, by omega⟩
        have ca1 := q_cells (HQA.out.below hBR (fun kk e => by have e' : some ga = some kk := e; cases e'; exact hga)) m _ (iv_get (by omega))
        have cb1 := q_cells (HQB.out.below hBR (fun kk e => by have e' : some gb = some kk := e; cases e'; exact hgb)) k _ (iv_get (by omega))
        rw [Addr.add_lit] at ca1 cb1
        have hszr := hBR.size
        have CL : ∀ d : BW wr.heap.size wr, d.w.cell? ⟨ga, oa + m, none⟩ = some (.int .i64 (nth a m : Nat)) := fun d => d.cell (Nat.lt_of_lt_of_le hga hszr) ca1
        have CM : ∀ d : BW wr.heap.size wr, d.w.cell? ⟨gb, ob + k, none⟩ = some (.int .i64 (nth b k : Nat)) := fun d => d.cell (Nat.lt_of_lt_of_le hgb hszr) cb1
        clear ca1 cb1 hBR
        have g1 : (1 : Int) < (m : Int) + 2 := by omega
        have g2 : (1 : Int) < (k : Int) + 1 + 1 := by omega
        have g3 : (m : Int) < (m : Int) + 2 := by omega
        have g4 : (k : Int) < (k : Int) + 1 + 1 := by omega
        have g5 : (0 : Int) ≤ (m : Int) := by omega
        have g6 : (0 : Int) ≤ (k : Int) := by omega
        by_cases h3 : nth a m = nth b k
        · have g7 : (((nth a m : Nat) : Int) == ((nth b k : Nat) : Int)) = true := by rw [h3]; simp
          have j1 : (0 : Int) ≤ (m : Int) + 1 := by omega
          have j2 : (m : Int) + 1 ≤ (ca : Int) := by omega
          have j3 : (0 : Int) ≤ (k : Int) + 1 := by omega
          have j4 : (k : Int) + 1 ≤ (cb : Int) := by omega
          have k1 : IntKind.i64.wrap ((m : Int) + 2 - 2) = (m : Int) := by rw [IntWalk.i64_in _ (by omega)]; omega
          have k2 : IntKind.i64.wrap ((k : Int) + 1 + 1 - 2) = (k : Int) := by rw [IntWalk.i64_in _ (by omega)]; omega
          have k3 : IntKind.i64.wrap ((m : Int) + 2 - 1) = (m : Int) + 1 := by rw [IntWalk.i64_in _ (by omega)]; omega
          have k4 : IntKind.i64.wrap ((k : Int) + 1 + 1 - 1) = (k : Int) + 1 := by rw [IntWalk.i64_in _ (by omega)]; omega
          have k5 : IntKind.i64.wrap (m : Int) = (m : Int) := IntWalk.i64_in _ (by omega)
          have k6 : IntKind.i64.wrap (k : Int) = (k : Int) := IntWalk.i64_in _ (by omega)
          have k7 : IntKind.i64.wrap ((k : Int) + 1) = (k : Int) + 1 := IntWalk.i64_in _ (by omega)
          have k8 : ((m : Int) + 1).toNat = m + 1 := by omega
          have k9 : ((k : Int) + 1).toNat = k + 1 := by omega
          have HMK : nth a (m + 2 - 1 - 1) = nth b (k + 1 + 1 - 1 - 1) := h3
          clear h3
          go_wp2
          refine wp_region_bw (by kernel_rfl) (by kernel_rfl) ?_
          repeat (go_big_quiet_step (rfl))
          refine wpQuiet_nil ?_
          rintro _ ⟨d, rfl⟩
          clear CL CM
          go_wp2
          refine wp_region_bw (by kernel_rfl) (by kernel_rfl) ?_
          repeat (go_big_quiet_step (rfl))
          refine wpQuiet_nil ?_
          rintro _ ⟨d2, rfl⟩
          go_wp2
          exact ⟨⟨m + 1, k + 1, ⟨by omega, by omega, by omega, by omega, HMK⟩, rfl, rfl, HBR.out.trans ((d.b.trans (d2.b.mono d.b.size)).mono HBR.out.size)⟩, by simp [lenV]⟩
        · have g7 : (((nth a m : Nat) : Int) == ((nth b k : Nat) : Int)) = false := by rw [beq_eq_false_iff_ne]; omega
          have RC : RingC a b (m + 2) (k + 1 + 1) := ⟨hr.out.1, hr.out.2.1, hr.out.2.2.1, hr.out.2.2.2.1, hr.out.2.2.2.2, fun _ _ => h3⟩
          have k1 : IntKind.i64.wrap ((m : Int) + 2 - 2) = (m : Int) := by rw [IntWalk.i64_in _ (by omega)]; omega
          have k2 : IntKind.i64.wrap ((k : Int) + 1 + 1 - 2) = (k : Int) := by rw [IntWalk.i64_in _ (by omega)]; omega
          have k5 : IntKind.i64.wrap (m : Int) = (m : Int) := IntWalk.i64_in _ (by omega)
          have k6 : IntKind.i64.wrap (k : Int) = (k : Int) := IntWalk.i64_in _ (by omega)
          clear h3
          go_wp2
          refine wp_region_bw (by kernel_rfl) (by kernel_rfl) ?_
          repeat (go_big_quiet_step (rfl))
          refine wpQuiet_nil ?_
          rintro _ ⟨d, rfl⟩
          try clear CL CM
          try clear k1 k2 k5 k6
          have hBW := HBR.out.trans (d.b.mono HBR.out.size)
          have hQA : QRow d.w w.heap.size 3 1 (.slice (some ⟨ga, oa, none⟩) (m + 2) ca) (m + 2) (iv (a.take (m + 2))) := by
            have := ((HQA.out.below hBW (fun kk e => by have e' : some ga = some kk := e; cases e'; exact hga)).take (m + 2) (by omega)).mono hbase
            rwa [Nat.mul_one, iv_take] at this
          have hQB : QRow d.w w.heap.size 3 1 (.slice (some ⟨gb, ob, none⟩) (k + 1) cb) (k + 1) (iv (b.take (k + 1))) := by
            have := ((HQB.out.below hBW (fun kk e => by have e' : some gb = some kk := e; cases e'; exact hgb)).take (k + 1) (by omega)).mono hbase2
            rwa [Nat.mul_one, iv_take] at this
          have hlb : (b.take (k + 1)).length = (k + 1) := by rw [List.length_take]; omega
          have HRV : Hid (Calls Tryd.prog 84 #[.slice (some ⟨gb, ob, none⟩) (k + 1) cb] d.w fun e w' => e = .returned (.tuple #[]) ∧ QRow w' w.heap.size 3 1 (.slice (some ⟨gb, ob, none⟩) (k + 1) cb) (k + 1) (iv (b.take (k + 1)).reverse) ∧ Ag (fun x => x = gb) d.w w') := by
            have h := reverse_q d.w w.heap.size (.slice (some ⟨gb, ob, none⟩) (k + 1) cb) ((b.take (k + 1)).map fun (x : Nat) => (x : Int)) (by rw [List.length_map, hlb, ← iv_int]; exact hQB) (by rw [List.length_map, hlb]; unfold maxLen; omega)
            refine h.mono ?_
            rintro e w' ⟨h1, h2, h3⟩
            refine ⟨h1, ?_, h3.mono fun x hx => (Option.some.inj hx).symm⟩
            rw [List.length_map, hlb, ← List.map_reverse, ← iv_int] at h2
            exact h2
          have HQA2 := Lib.hid hQA
          have HBW := Lib.hid (HB3.out.trans (hBW.mono HB3.out.size))
          have j1 : (0 : Int) ≤ ((k : Int) + 1) := by omega
          have j2 : ((k : Int) + 1) ≤ (cb : Int) := by omega
          have j6 : ((k : Int) + 1).toNat = (k + 1) := by omega
          clear hQA hQB hBW
          go_upto_region 6 with (fail)
          go_wp2_with (first
            | (go_at_call 84; refine (HRV.out).mono ?_; rintro e w5 ⟨rfl, hq5, hag5⟩
               have HQ5 := Lib.hid hq5
               have HQA5 := Lib.hid (hag5.qrow HQA2.out (fun kk e hh => by have e' : some ga = some kk := e; cases e'; omega))
               have HB5 := Lib.hid (hag5.below HBW.out HBW.out.size (fun kk hk => by omega))
               clear hq5 hag5 j1 j2 j6)
            | (at_builtin; go_must (refine wpList_append_q _ rfl (.tmp 57) (.tmp 58) 25 rfl w.heap.size 3 i0 (.int .i64 0) 1 8 Tryd.underlying25 hi hz0 hz1 hz2 rfl (by decide) _ (m + 2) (iv (a.take (m + 2))) rfl HQA5.out ⟨gb, ob, none⟩ (k + 1) cb (iv (b.take (k + 1)).reverse) rfl (by rw [iv_length, List.length_reverse, Nat.mul_one]; exact hlb) (q_cells HQ5.out) (iv_one _) (by unfold maxLen; omega) (by omega) HB5.out.size ?_); intro v6 w6 hq6 hg6 ho6; obtain ⟨q1, q2, rfl⟩ := hq6.isSlice; have HQ6 := Lib.hid hq6; have HB6 : Hid (Below w.heap.size w w6) := Below.grown HB5.out hg6 HB5.out.size (fun kk e => by have e' : some ga = some kk := e; cases e'; omega); clear hq6 hg6 ho6))
          go_ret
          exact ⟨_, m + 2, k + 1 + 1, rfl, RC, by rw [← iv_append] at HQ6; exact HQ6.out, HB6.out⟩
      · have RC : RingC a b (m + 2) (j + 1) := ⟨hr.out.1, hr.out.2.1, hr.out.2.2.1, hr.out.2.2.2.1, hr.out.2.2.2.2, fun _ h => absurd h h2⟩
        have g1 : (1 : Int) < (m : Int) + 2 := by omega
        have g2 : decide ((1 : Int) < (j : Int) + 1) = false := decide_eq_false (by omega)
        clear hBR
        go_wp2
        refine wp_region_bw (by kernel_rfl) (by kernel_rfl) ?_
        repeat (go_big_quiet_step (rfl))
        refine wpQuiet_nil ?_
        rintro _ ⟨d, rfl⟩
        have hBW := HBR.out.trans (d.b.mono HBR.out.size)
        have hQA : QRow d.w w.heap.size 3 1 (.slice (some ⟨ga, oa, none⟩) (m + 2) ca) (m + 2) (iv (a.take (m + 2))) := by
          have := ((HQA.out.below hBW (fun kk e => by have e' : some ga = some kk := e; cases e'; exact hga)).take (m + 2) (by omega)).mono hbase
          rwa [Nat.mul_one, iv_take] at this
        have hQB : QRow d.w w.heap.size 3 1 (.slice (some ⟨gb, ob, none⟩) j cb) j (iv (b.take (j))) := by
          have := ((HQB.out.below hBW (fun kk e => by have e' : some gb = some kk := e; cases e'; exact hgb)).take (j) (by omega)).mono hbase2
          rwa [Nat.mul_one, iv_take] at this
        have hlb : (b.take (j)).length = j := by rw [List.length_take]; omega
        have HRV : Hid (Calls Tryd.prog 84 #[.slice (some ⟨gb, ob, none⟩) j cb] d.w fun e w' => e = .returned (.tuple #[]) ∧ QRow w' w.heap.size 3 1 (.slice (some ⟨gb, ob, none⟩) j cb) j (iv (b.take (j)).reverse) ∧ Ag (fun x => x = gb) d.w w') := by
          have h := reverse_q d.w w.heap.size (.slice (some ⟨gb, ob, none⟩) j cb) ((b.take (j)).map fun (x : Nat) => (x : Int)) (by rw [List.length_map, hlb, ← iv_int]; exact hQB) (by rw [List.length_map, hlb]; unfold maxLen; omega)
          refine h.mono ?_
          rintro e w' ⟨h1, h2, h3⟩
          refine ⟨h1, ?_, h3.mono fun x hx => (Option.some.inj hx).symm⟩
          rw [List.length_map, hlb, ← List.map_reverse, ← iv_int] at h2
          exact h2
        have HQA2 := Lib.hid hQA
        have HBW := Lib.hid (HB3.out.trans (hBW.mono HB3.out.size))
        have j1 : (0 : Int) ≤ (j : Int) := by omega
        have j2 : (j : Int) ≤ (cb : Int) := by omega
        have j6 : (j : Int).toNat = j := by omega
        clear hQA hQB hBW
        go_upto_region 6 with (fail)
        go_wp2_with (first
          | (go_at_call 84; refine (HRV.out).mono ?_; rintro e w5 ⟨rfl, hq5, hag5⟩
             have HQ5 := Lib.hid hq5
             have HQA5 := Lib.hid (hag5.qrow HQA2.out (fun kk e hh => by have e' : some ga = some kk := e; cases e'; omega))
             have HB5 := Lib.hid (hag5.below HBW.out HBW.out.size (fun kk hk => by omega))
             clear hq5 hag5 j1 j2 j6)
          | (at_builtin; go_must (refine wpList_append_q _ rfl (.tmp 57) (.tmp 58) 25 rfl w.heap.size 3 i0 (.int .i64 0) 1 8 Tryd.underlying25 hi hz0 hz1 hz2 rfl (by decide) _ (m + 2) (iv (a.take (m + 2))) rfl HQA5.out ⟨gb, ob, none⟩ j cb (iv (b.take (j)).reverse) rfl (by rw [iv_length, List.length_reverse, Nat.mul_one]; exact hlb) (q_cells HQ5.out) (iv_one _) (by unfold maxLen; omega) (by omega) HB5.out.size ?_); intro v6 w6 hq6 hg6 ho6; obtain ⟨q1, q2, rfl⟩ := hq6.isSlice; have HQ6 := Lib.hid hq6; have HB6 : Hid (Below w.heap.size w w6) := Below.grown HB5.out hg6 HB5.out.size (fun kk e => by have e' : some ga = some kk := e; cases e'; omega); clear hq6 hg6 ho6))
        go_ret
        exact ⟨_, m + 2, j + 1, rfl, RC, by rw [← iv_append] at HQ6; exact HQ6.out, HB6.out⟩
    · have RC : RingC a b la (j + 1) := ⟨hr.out.1, hr.out.2.1, hr.out.2.2.1, hr.out.2.2.2.1, hr.out.2.2.2.2, fun h _ => absurd h h1⟩
      have g1 : decide ((1 : Int) < (la : Int)) = false := decide_eq_false (by omega)
      clear hBR
      go_wp2
      refine wp_region_bw (by kernel_rfl) (by kernel_rfl) ?_
      repeat (go_big_quiet_step (rfl))
      refine wpQuiet_nil ?_
      rintro _ ⟨d, rfl⟩
      have hBW := HBR.out.trans (d.b.mono HBR.out.size)
      have hQA : QRow d.w w.heap.size 3 1 (.slice (some ⟨ga, oa, none⟩) (la) ca) (la) (iv (a.take (la))) := by
        have := ((HQA.out.below hBW (fun kk e => by have e' : some ga = some kk := e; cases e'; exact hga)).take (la) (by omega)).mono hbase
        rwa [Nat.mul_one, iv_take] at this
      have hQB : QRow d.w w.heap.size 3 1 (.slice (some ⟨gb, ob, none⟩) j cb) j (iv (b.take (j))) := by
        have := ((HQB.out.below hBW (fun kk e => by have e' : some gb = some kk := e; cases e'; exact hgb)).take (j) (by omega)).mono hbase2
        rwa [Nat.mul_one, iv_take] at this
      have hlb : (b.take (j)).length = j := by rw [List.length_take]; omega
      have HRV : Hid (Calls Tryd.prog 84 #[.slice (some ⟨gb, ob, none⟩) j cb] d.w fun e w' => e = .returned (.tuple #[]) ∧ QRow w' w.heap.size 3 1 (.slice (some ⟨gb, ob, none⟩) j cb) j (iv (b.take (j)).reverse) ∧ Ag (fun x => x = gb) d.w w') := by
        have h := reverse_q d.w w.heap.size (.slice (some ⟨gb, ob, none⟩) j cb) ((b.take (j)).map fun (x : Nat) => (x : Int)) (by rw [List.length_map, hlb, ← iv_int]; exact hQB) (by rw [List.length_map, hlb]; unfold maxLen; omega)
        refine h.mono ?_
        rintro e w' ⟨h1, h2, h3⟩
        refine ⟨h1, ?_, h3.mono fun x hx => (Option.some.inj hx).symm⟩
        rw [List.length_map, hlb, ← List.map_reverse, ← iv_int] at h2
        exact h2
      have HQA2 := Lib.hid hQA
      have HBW := Lib.hid (HB3.out.trans (hBW.mono HB3.out.size))
      have j1 : (0 : Int) ≤ (j : Int) := by omega
      have j2 : (j : Int) ≤ (cb : Int) := by omega
      have j6 : (j : Int).toNat = j := by omega
      clear hQA hQB hBW
      go_upto_region 6 with (fail)
      go_wp2_with (first
        | (go_at_call 84; refine (HRV.out).mono ?_; rintro e w5 ⟨rfl, hq5, hag5⟩
           have HQ5 := Lib.hid hq5
           have HQA5 := Lib.hid (hag5.qrow HQA2.out (fun kk e hh => by have e' : some ga = some kk := e; cases e'; omega))
           have HB5 := Lib.hid (hag5.below HBW.out HBW.out.size (fun kk hk => by omega))
           clear hq5 hag5 j1 j2 j6)
        | (at_builtin; go_must (refine wpList_append_q _ rfl (.tmp 57) (.tmp 58) 25 rfl w.heap.size 3 i0 (.int .i64 0) 1 8 Tryd.underlying25 hi hz0 hz1 hz2 rfl (by decide) _ (la) (iv (a.take (la))) rfl HQA5.out ⟨gb, ob, none⟩ j cb (iv (b.take (j)).reverse) rfl (by rw [iv_length, List.length_reverse, Nat.mul_one]; exact hlb) (q_cells HQ5.out) (iv_one _) (by unfold maxLen; omega) (by omega) HB5.out.size ?_); intro v6 w6 hq6 hg6 ho6; obtain ⟨q1, q2, rfl⟩ := hq6.isSlice; have HQ6 := Lib.hid hq6; have HB6 : Hid (Below w.heap.size w w6) := Below.grown HB5.out hg6 HB5.out.size (fun kk e => by have e' : some ga = some kk := e; cases e'; omega); clear hq6 hg6 ho6))
      go_ret
      exact ⟨_, la, j + 1, rfl, RC, by rw [← iv_append] at HQ6; exact HQ6.out, HB6.out⟩
end Go.Proofs.YtpknnjcbcndbbaaDoor
namespace Go.Proofs.YtpknnjcbcndbbaaDoor
open Go.RowKit Go.Shelf

set_option maxRecDepth 100000 in
theorem within_any (G n v s : Nat) (a : Option Addr) (cap len : Nat) (g : List Nat) (w : World) (hg : GraphAt w G n a cap len g) (hsm : ∀ i : Nat, Sm (g[i]?.getD 0)) (hs : Sm s) (hv : v < 16) :
    Calls Tryd.prog 62 #[.pointer (some ⟨G, 0, none⟩), .int .i64 (v : Int), .int .i64 (s : Int)] w fun e w' => e = .returned (.int .i64 (wtn g v s : Nat)) ∧ w' = w := by
  obtain ⟨x, hx⟩ : ∃ x, Hid (x = g[v]?.getD 0) := ⟨_, rfl⟩
  have c0 := hg.next v hv
  have hxs : Sm x := by rw [hx.out]; exact hsm v
  rw [← hx.out] at c0
  have hsx : Sm (x &&& s) := sm_and_l s hxs
  have h64 : Hid ((x &&& s) < 18446744073709551616) := Nat.lt_trans hsx (by decide)
  have hwr : IntKind.u64.wrap ((x &&& s : Nat) : Int) = ((x &&& s : Nat) : Int) := u64_same _ h64.out
  have h1 : (v : Int) < 16 := by omega
  have h0 : (0 : Int) ≤ (v : Int) := by omega
  clear hg hsm
  go_enter Tryd.func62, Tryd.ntmps62
  go_wp2_with (go_at_call 76; refine (ones (x &&& s) _ h64).mono ?_; rintro e w' ⟨rfl, rfl⟩)
  go_ret
  exact ⟨ret_int (by unfold wtn; rw [hx.out]), rfl⟩
def bestV : Option Nat → Int
  | none => -1
  | some b => (b : Int)
theorem bstK_yes {g : List Nat} {s k : Nat} (h : s.testBit k = true) (hb : ∀ b, bstK g s k = some b → wtn g k s ≤ wtn g b s) : bstK g s (k + 1) = some k := by unfold bstK; rw [if_pos ⟨h, hb⟩]
theorem bstK_no {g : List Nat} {s k : Nat} (h : s.testBit k = false ∨ ∃ b, bstK g s k = some b ∧ ¬ wtn g k s ≤ wtn g b s) : bstK g s (k + 1) = bstK g s k := by
  rw [show bstK g s (k + 1) = if s.testBit k = true ∧ (∀ b, bstK g s k = some b → wtn g k s ≤ wtn g b s) then some k else bstK g s k from rfl, if_neg]
  rintro ⟨h1, h2⟩
  rcases h with h | ⟨b, h, h3⟩
  · rw [h] at h1; cases h1
  · exact h3 (h2 b h)
theorem loo_lt (g : List Nat) (n : Nat) : ∀ j, loo g n j ≤ 64
  | 0 => by unfold loo; omega
  | j + 1 => by unfold loo; have := loo_lt g n j; have : wtn g (pk g n j) (lf g n j) ≤ 64 := size_le _; omega
theorem lf_sm {g : List Nat} {n : Nat} (hn : n ≤ 16) : ∀ j, Sm (lf g n j)
  | 0 => sm_full (by omega)
  | j + 1 => sm_ldiff _ (lf_sm hn j)
set_option maxRecDepth 100000 in
set_option maxHeartbeats 4000000 in
theorem order_any (G n : Nat) (a : Option Addr) (cap len : Nat) (g : List Nat) (w : World) (hg : GraphAt w G n a cap len g) (hsm : ∀ i : Nat, Sm (g[i]?.getD 0)) (hn : n ≤ 16) :
    Calls Tryd.prog 61 #[.pointer (some ⟨G, 0, none⟩)] w fun e w' => ∃ v, e = .returned (.tuple #[v, .int .i64 (loo g n n : Nat)]) ∧ QRow w' w.heap.size 3 1 v n (iv (ordL g n)) ∧ Below w.heap.size w w' := by
  obtain ⟨i0, hi, hz0, hz1, hz2⟩ := info_parts info3
  have HG := Lib.hid hg
  have hgn := hg.n
  have hGl := hg.lt
  have HW : Hid (∀ (v s : Nat) W, v < 16 → Sm s → Below w.heap.size w W → Calls Tryd.prog 62 #[.pointer (some ⟨G, 0, none⟩), .int .i64 (v : Int), .int .i64 (s : Int)] W fun e w' => e = .returned (.int .i64 (wtn g v s : Nat)) ∧ w' = W) := fun v s W hv hs hB => within_any G n v s a cap len g W (hg.below hB (Nat.le_refl _)) hsm hs hv
  have hpn : wrap64 (2 ^ n) = ((pw n : Nat) : Int) := pw_cast _ (by omega)
  have hspn : Sm (pw n) := sm_pw (by omega)
  have hfc : ((pw n : Nat) : Int) - 1 = ((full n : Nat) : Int) := full_cast n
  have hwf : wrap64 ((full n : Nat) : Int) = ((lf g n 0 : Nat) : Int) := (IntWalk.i64_left _).symm.trans (IntWalk.i64_in _ (by have := (sm_full (n := n) (by omega)).lt; omega))
  have hwn : IntKind.u64.wrap (n : Int) = (n : Int) := u64_same _ (by omega)
  clear hg hsm
  go_enter Tryd.func61, Tryd.ntmps61
  go_upto_region 4 with (fail)
  go_loopw [4, 5, 6] (fun s4 s5 s6 wr => ∃ j : Nat, j ≤ n ∧ s6 = .int .i64 (lf g n j : Nat) ∧ s5 = .int .i64 (loo g n j : Nat) ∧ QRow wr w.heap.size 3 1 s4 j (iv ((List.range j).map (pk g n))) ∧ Below w.heap.size w wr) (fun s4 _ _ _ => 40 - lenV s4)
  case atStart => exact ⟨0, by omega, int_eq hwf, rfl, QRow.nil _ _ _ _, Below.refl _ _⟩
  case round =>
    obtain ⟨j, hj, rfl, rfl, hq, hB⟩ := hrel
    obtain ⟨p4, c4, rfl⟩ := hq.isSlice
    by_cases hjn : j < n
    · have hpk := pk_facts (g := g) hjn
      have hsl := lf_sm (g := g) hn j
      have hne : lf g n j ≠ 0 := fun e => by have := (lf_zero (g := g) hj).1 e; omega
      have hpk1 := hpk.1
      have hloo := loo_lt g n j
      have HPK := Lib.hid hpk
      have hl1 : lf g n (j + 1) = ldiff (lf g n j) (pw (pk g n j)) := rfl
      have hl2 : loo g n (j + 1) = max (loo g n j) (wtn g (pk g n j) (lf g n j)) := rfl
      have hwl : wtn g (pk g n j) (lf g n j) ≤ 64 := size_le _
      have hsn : iv ((List.range (j + 1)).map (pk g n)) = iv ((List.range j).map (pk g n)) ++ [.int .i64 (pk g n j : Nat)] := by rw [List.range_succ, List.map_append, List.map_cons, List.map_nil, iv_snoc]
      have HL1 := Lib.hid hl1
      have HL2 := Lib.hid hl2
      have HSN := Lib.hid hsn
      clear hl1 hl2 hsn hpk
      generalize lf g n j = left at *
      generalize hpe : pk g n j = b at *
      generalize loo g n j = lo at *
      have hbn : (((left : Nat) : Int) != 0) = true := by rw [bne_iff_ne]; omega
      have hgr := (hB.cell (p := ⟨G, 0, none⟩) hGl).trans hgn
      have HB := Lib.hid hB
      have HQ := Lib.hid hq
      clear hq hB
      go_upto_region 7 with (fail)
      go_loopw [7, 22] (fun s7 s22 wr2 => ∃ k : Nat, k ≤ n ∧ s22 = .int .i64 (k : Int) ∧ s7 = .int .i64 (bestV (bstK g left k)) ∧ Hid (wr2 = wr)) (fun _ s22 _ => 40 - (intOf s22).toNat)
      case atStart => exact ⟨0, by omega, rfl, rfl, rfl⟩
      case round =>
        obtain ⟨k, hk, rfl, rfl, hw⟩ := hrel
        rw [hw.out]
        by_cases hkn : k < n
        · have h1 : (k : Int) < (n : Int) := by omega
          have hwk : IntKind.u64.wrap (k : Int) = (k : Int) := u64_same _ (by omega)
          cases hbit : left.testBit k with
          | false =>
            have hno := bstK_no (g := g) (s := left) (k := k) (.inl hbit)
            have HNO := Lib.hid hno
            clear hno
            go_wp2
            exact ⟨⟨k + 1, by omega, int_eq (by omega), by rw [HNO.out], Lib.hid trivial⟩, by simp [intOf]; omega⟩
          | true =>
            cases hbk : bstK g left k with
            | none =>
              have hyes := bstK_yes (g := g) (s := left) (k := k) hbit (fun b h => by rw [hbk] at h; cases h)
              have HY := Lib.hid hyes
              clear hyes
              simp only [bestV]
              go_wp2
              exact ⟨⟨k + 1, by omega, int_eq (by omega), by rw [HY.out], Lib.hid trivial⟩, by simp [intOf]; omega⟩
            | some b0 =>
              have hb0 := ((bstK_spec (g := g) (s := left) k).1 b0 hbk).1
              simp only [bestV]
              have h2 : decide ((b0 : Int) < 0) = false := decide_eq_false (by omega)
              have HW1 := Lib.hid (HW.out k left _ (by omega) hsl HB.out)
              have HW2 := Lib.hid (HW.out b0 left _ (by omega) hsl HB.out)
              by_cases hle : wtn g k left ≤ wtn g b0 left
              · have hyes := Lib.hid (bstK_yes (g := g) (s := left) (k := k) hbit (fun b h => by rw [hbk] at h; cases h; exact hle))
                have h3 : ((wtn g k left : Nat) : Int) ≤ ((wtn g b0 left : Nat) : Int) := by omega
                clear hle hbk
                go_wp2_with (first
                  | (go_at_call 62; with_reducible refine Calls.mono HW1.out ?_; rintro e w' ⟨rfl, hw'⟩; subst hw'; try dsimp only)
                  | (go_at_call 62; with_reducible refine Calls.mono HW2.out ?_; rintro e w' ⟨rfl, hw'⟩; subst hw'; try dsimp only))
                exact ⟨⟨k + 1, by omega, int_eq (by omega), by rw [hyes.out], Lib.hid trivial⟩, by simp [intOf]; omega⟩
              · have hno := Lib.hid (bstK_no (g := g) (s := left) (k := k) (.inr ⟨b0, hbk, hle⟩))
                have hbk' := Lib.hid hbk
                have h3 : ¬ ((wtn g k left : Nat) : Int) ≤ ((wtn g b0 left : Nat) : Int) := by omega
                clear hle hbk
                go_wp2_with (first
                  | (go_at_call 62; with_reducible refine Calls.mono HW1.out ?_; rintro e w' ⟨rfl, hw'⟩; subst hw'; try dsimp only)
                  | (go_at_call 62; with_reducible refine Calls.mono HW2.out ?_; rintro e w' ⟨rfl, hw'⟩; subst hw'; try dsimp only))
                exact ⟨⟨k + 1, by omega, int_eq (by omega), by rw [hno.out, hbk'.out], Lib.hid trivial⟩, by simp [intOf]; omega⟩
        · have h1 : ¬ (k : Int) < (n : Int) := by omega
          have hke : k = n := by omega
          rw [hke, HPK.out.2.2.1]
          simp only [bestV]
          have HWB := Lib.hid (HW.out b left _ (by omega) hsl HB.out)
          have hwb : IntKind.u64.wrap (b : Int) = (b : Int) := u64_same _ (by omega)
          have hpb : wrap64 (2 ^ b) = ((pw b : Nat) : Int) := pw_cast _ (by omega)
          have hspb : Sm (pw b) := sm_pw (by omega)
          have hmax : max ((lo : Nat) : Int) ((wtn g b left : Nat) : Int) = ((max lo (wtn g b left) : Nat) : Int) := by omega
          have HBL := Lib.hid (fun kk => HQ.out.lt kk)
          clear hke
          go_wp2_with (first
            | (go_at_call 62; with_reducible refine Calls.mono HWB.out ?_; rintro e w' ⟨rfl, hw'⟩; subst hw'; try dsimp only)
            | (at_builtin; go_must (refine wpList_append_q _ rfl (.tmp 59) (.tmp 61) 25 rfl w.heap.size 3 i0 (.int .i64 0) 1 8 Tryd.underlying25 hi hz0 hz1 hz2 rfl (by decide) _ j (iv ((List.range j).map (pk g n))) rfl (HQ.out.alloc (.cells #[.int .i64 (b : Int)] 3)) ⟨_, 0, none⟩ 1 1 [.int .i64 (b : Int)] rfl rfl (cells_new1 _ _ _) (by simp [Value.oneCell']) (by unfold maxLen; omega) (by omega) (by have := HB.out.size; simp; omega) ?_); intro v4 w4 hq4 hg4 ho4; obtain ⟨q1, q2, rfl⟩ := hq4.isSlice; have HQ4 := Lib.hid hq4; have HB4 : Hid (Below w.heap.size w w4) := Below.grown (HB.out.alloc HB.out.size _) hg4 (by have := HB.out.size; simp; omega) (fun kk e => (HBL.out kk e).1); clear hq4 hg4 ho4))
          exact ⟨⟨_, _, _, ⟨j + 1, by omega, rfl, rfl, by rw [HSN.out]; exact HQ4.out, HB4.out⟩, rfl, int_eq (by rw [HL2.out]), int_eq (by rw [HL1.out])⟩, by simp [lenV]; omega⟩
    · have hje : j = n := by omega
      have hz := (lf_zero (g := g) hj).2 hje
      rw [hz]
      have hRV : Hid (Calls Tryd.prog 84 #[.slice p4 j c4] wr fun e w' => e = .returned (.tuple #[]) ∧ QRow w' w.heap.size 3 1 (.slice p4 j c4) n (iv (ordL g n)) ∧ Ag (fun k => (Value.slice p4 j c4).ownBlock = some k) wr w') := by
        have h := reverse_q wr w.heap.size (.slice p4 j c4) (((List.range j).map (pk g n)).map fun (x : Nat) => (x : Int)) (by rw [List.length_map, List.length_map, List.length_range, ← iv_int]; exact hq) (by simp; unfold maxLen; omega)
        refine h.mono ?_
        rintro e w' ⟨h1, h2, h3⟩
        refine ⟨h1, ?_, h3⟩
        rw [List.length_map, List.length_map, List.length_range, ← List.map_reverse, ← iv_int] at h2
        rw [hje] at h2 ⊢
        exact h2
      have HJE := Lib.hid hje
      have HB := Lib.hid hB
      have HBL := Lib.hid (fun kk => hq.lt kk)
      obtain ⟨lo, hlo⟩ : ∃ lo, Hid (lo = loo g n j) := ⟨_, rfl⟩
      rw [← hlo.out]
      clear hq hB hz hje
      go_wp2_with (first
        | (go_at_call 84; refine (hRV.out).mono ?_; rintro e w5 ⟨rfl, hq5, hag5⟩; have HQ5 := Lib.hid hq5; have HB5 := Lib.hid (hag5.below HB.out HB.out.size (fun k hk h => by have := (HBL.out k h).1; omega)); clear hq5 hag5))
      refine bodyPost_ret (v := .tuple #[.slice p4 j c4, .int .i64 (lo : Nat)]) (by simp [results, Tryd.f61, go_sem]) rfl ?_
      exact ⟨_, by rw [hlo.out, HJE.out], HQ5.out, HB5.out⟩
set_option maxRecDepth 100000 in
set_option maxHeartbeats 1000000 in
theorem Order_err (n : Int) (a : Option Addr) (cap : Nat) (ps : List (Int × Int)) (w : World) (hl : ps.length ≤ 1099511627776) (hg : Pairs w a ps) (hne : checkP n ps ≠ 0) :
    Calls Tryd.prog 22 #[.int .i64 n, .slice a ps.length cap] w fun e w' => e = .returned (.tuple #[.slice none 0 0, .int .i64 0, .int .i64 (checkP n ps)]) ∧ Below w.heap.size w w' := by
  have HO := Lib.hid (gopen_err n a cap ps w hl hg hne)
  have hb : (checkP n ps != 0) = true := by simpa using hne
  clear hg hne
  generalize checkP n ps = c at *
  go_enter Tryd.func22, Tryd.ntmps22
  go_wp2_with (first
    | (go_at_call 52; refine HO.out.mono ?_; rintro e w1 ⟨rfl, hb1⟩; have HB1 := Lib.hid hb1; clear hb1))
  refine bodyPost_ret (v := .tuple #[.slice none 0 0, .int .i64 0, .int .i64 c]) (by simp [results, Tryd.f22, go_sem]) rfl ?_
  exact ⟨rfl, HB1.out⟩
set_option maxRecDepth 100000 in
set_option maxHeartbeats 1000000 in
theorem Core_err (n : Int) (a : Option Addr) (cap : Nat) (k : Int) (ps : List (Int × Int)) (w : World) (hl : ps.length ≤ 1099511627776) (hg : Pairs w a ps) (hne : checkP n ps ≠ 0) :
    Calls Tryd.prog 25 #[.int .i64 n, .slice a ps.length cap, .int .i64 k] w fun e w' => e = .returned (.tuple #[.int .i64 0, .int .i64 (checkP n ps)]) ∧ Below w.heap.size w w' := by
  have HO := Lib.hid (gopen_err n a cap ps w hl hg hne)
  have hb : (checkP n ps != 0) = true := by simpa using hne
  clear hg hne
  generalize checkP n ps = c at *
  go_enter Tryd.func25, Tryd.ntmps25
  go_wp2_with (first
    | (go_at_call 52; refine HO.out.mono ?_; rintro e w1 ⟨rfl, hb1⟩; have HB1 := Lib.hid hb1; clear hb1))
  refine bodyPost_ret (v := .tuple #[.int .i64 0, .int .i64 c]) (by simp [results, Tryd.f25, go_sem]) rfl ?_
  exact ⟨rfl, HB1.out⟩
set_option maxRecDepth 100000 in
set_option maxHeartbeats 1000000 in
theorem Order_ok (n : Nat) (a : Option Addr) (cap : Nat) (ps : List (Int × Int)) (w : World) (hG : Good n ps a w) :
    Calls Tryd.prog 22 #[.int .i64 (n : Int), .slice a ps.length cap] w fun e w' => ∃ v, e = .returned (.tuple #[v, .int .i64 (loo (ofE n ps) n n : Nat), .int .i64 0]) ∧ QRow w' w.heap.size 3 1 v n (iv (ordL (ofE n ps) n)) ∧ Below w.heap.size w w' := by
  have HO := Lib.hid (gopen_ok n a cap ps w hG.hl hG.hg hG.n1 hG.n2 hG.ok)
  have HV : Hid (∀ B W, GraphAt W B n a cap ps.length (ofE n ps) → Calls Tryd.prog 61 #[.pointer (some ⟨B, 0, none⟩)] W fun e w' => ∃ v, e = .returned (.tuple #[v, .int .i64 (loo (ofE n ps) n n : Nat)]) ∧ QRow w' W.heap.size 3 1 v n (iv (ordL (ofE n ps) n)) ∧ Below W.heap.size W w') := fun B W hg => order_any B n a cap _ _ W hg (ofE_sm hG.n2 hG.ok) hG.n2
  clear hG
  go_enter Tryd.func22, Tryd.ntmps22
  go_wp2_with (first
    | (go_at_call 52; refine HO.out.mono ?_; rintro e w1 ⟨B, rfl, hBl, hg1, hb1⟩; have HG1 := Lib.hid hg1; have HB1 := Lib.hid hb1; clear hBl hg1 hb1)
    | (go_at_call 61; refine (HV.out _ _ HG1.out).mono ?_; rintro e w2 ⟨v2, rfl, hq2, hb2⟩; obtain ⟨s1, s2, rfl⟩ := hq2.isSlice; have HQ2 := Lib.hid hq2; have HB2 := Lib.hid hb2; clear hq2 hb2))
  refine bodyPost_ret (v := .tuple #[.slice s1 n s2, .int .i64 (loo (ofE n ps) n n : Nat), .int .i64 0]) (by simp [results, Tryd.f22, go_sem]) rfl ?_
  exact ⟨_, rfl, HQ2.out.mono HB1.out.size, HB1.out.trans (HB2.out.mono HB1.out.size)⟩
theorem pasK_yes {g : List Nat} {k s v : Nat} (h : (pasK g k s v).testBit v = true) (hb : wtn g v (pasK g k s v) < k) : pasK g k s (v + 1) = ldiff (pasK g k s v) (pw v) := by
  rw [show pasK g k s (v + 1) = if (pasK g k s v).testBit v = true ∧ wtn g v (pasK g k s v) < k then ldiff (pasK g k s v) (pw v) else pasK g k s v from rfl, if_pos ⟨h, hb⟩]
theorem pasK_no {g : List Nat} {k s v : Nat} (h : ¬ ((pasK g k s v).testBit v = true ∧ wtn g v (pasK g k s v) < k)) : pasK g k s (v + 1) = pasK g k s v := by
  rw [show pasK g k s (v + 1) = if (pasK g k s v).testBit v = true ∧ wtn g v (pasK g k s v) < k then ldiff (pasK g k s v) (pw v) else pasK g k s v from rfl, if_neg h]
def corM (a b : Value) : Nat := 2 * (intOf a).toNat + (if intOf a = intOf b then 0 else 1)
theorem corM_lt {x s last : Nat} (h : x ≤ s) (hne : last ≠ s) : corM (.int .i64 (x : Int)) (.int .i64 (s : Int)) < corM (.int .i64 (s : Int)) (.int .i64 (last : Int)) := by
  have e1 : intOf (.int .i64 (x : Int)) = (x : Int) := rfl
  have e2 : intOf (.int .i64 (s : Int)) = (s : Int) := rfl
  have e3 : intOf (.int .i64 (last : Int)) = (last : Int) := rfl
  unfold corM
  rw [e1, e2, e3]
  have h5 : ¬ (s : Int) = (last : Int) := by omega
  rw [if_neg h5]
  split <;> omega
theorem cor_sm {g : List Nat} {n k : Nat} (hn : n ≤ 16) (j : Nat) : Sm (cor g n k j) := Nat.lt_of_le_of_lt (cor_le g n k j) (sm_full (by omega))
theorem pasK_sm {g : List Nat} {k s : Nat} (hs : Sm s) (v : Nat) : Sm (pasK g k s v) := Nat.lt_of_le_of_lt (pasK_le g k s v) hs
set_option maxRecDepth 100000 in
set_option maxHeartbeats 4000000 in
theorem Core_ok (n k : Nat) (a : Option Addr) (cap : Nat) (ps : List (Int × Int)) (w : World) (hG : Good n ps a w) (hk : k ≤ 16) :
    Calls Tryd.prog 25 #[.int .i64 (n : Int), .slice a ps.length cap, .int .i64 (k : Int)] w fun e w' => (∃ s, e = .returned (.tuple #[.int .i64 (s : Nat), .int .i64 0]) ∧ CoreIs (ofE n ps) n k s) ∧ Below w.heap.size w w' := by
  have HO := Lib.hid (gopen_ok n a cap ps w hG.hl hG.hg hG.n1 hG.n2 hG.ok)
  have HW : Hid (∀ (B v s : Nat) W, GraphAt W B n a cap ps.length (ofE n ps) → v < 16 → Sm s → Calls Tryd.prog 62 #[.pointer (some ⟨B, 0, none⟩), .int .i64 (v : Int), .int .i64 (s : Int)] W fun e w' => e = .returned (.int .i64 (wtn (ofE n ps) v s : Nat)) ∧ w' = W) := fun B v s W hg hv hs => within_any B n v s a cap _ _ W hg (ofE_sm hG.n2 hG.ok) hs hv
  have hn := hG.n2
  have hn1 := hG.n1
  obtain ⟨g, hg⟩ : ∃ g, Hid (g = ofE n ps) := ⟨_, rfl⟩
  rw [← hg.out] at HO HW ⊢
  have hpn : wrap64 (2 ^ n) = ((pw n : Nat) : Int) := pw_cast _ (by omega)
  have hspn : Sm (pw n) := sm_pw (by omega)
  have hfc : ((pw n : Nat) : Int) - 1 = ((full n : Nat) : Int) := full_cast n
  have hwf : wrap64 ((full n : Nat) : Int) = ((cor g n k 0 : Nat) : Int) := (IntWalk.i64_left _).symm.trans (IntWalk.i64_in _ (by have := (sm_full (n := n) (by omega)).lt; omega))
  have hwn : IntKind.u64.wrap (n : Int) = (n : Int) := u64_same _ (by omega)
  have hk0 : decide ((k : Int) < 0) = false := decide_eq_false (by omega)
  have hk1 : decide ((16 : Int) < (k : Int)) = false := decide_eq_false (by omega)
  clear hG
  go_enter Tryd.func25, Tryd.ntmps25
  go_upto_region 8 with (first
    | (go_at_call 52; refine HO.out.mono ?_; rintro e w1 ⟨B, rfl, hBl, hg1, hb1⟩; have HG1 := Lib.hid hg1; have HB1 := Lib.hid hb1; clear hBl hg1 hb1))
  have HGW : Hid (∀ v s, v < n → Sm s → Calls Tryd.prog 62 #[.pointer (some ⟨B, 0, none⟩), .int .i64 (v : Int), .int .i64 (s : Int)] w1 fun e w' => e = .returned (.int .i64 (wtn g v s : Nat)) ∧ w' = w1) := fun v s hv hs => HW.out B v s w1 HG1.out (by omega) hs
  go_loopw [10, 11] (fun s10 s11 wr => ∃ j last : Nat, s10 = .int .i64 (cor g n k j : Nat) ∧ s11 = .int .i64 (last : Int) ∧ Hid ((j = 0 ∧ last = 0) ∨ ∃ i, j = i + 1 ∧ last = cor g n k i) ∧ Hid (wr = w1)) (fun s10 s11 _ => corM s10 s11)
  case atStart => exact ⟨0, 0, int_eq hwf, rfl, .inl ⟨rfl, rfl⟩, rfl⟩
  case round =>
    obtain ⟨j, last, rfl, rfl, hl, hw⟩ := hrel
    rw [hw.out]
    have hcs := cor_sm (g := g) (k := k) hn j
    by_cases hne : last = cor g n k j
    · have hb : (((last : Nat) : Int) != ((cor g n k j : Nat) : Int)) = false := by rw [hne]; simp
      have hci : Hid (CoreIs g n k (cor g n k j)) := by
        rcases hl.out with ⟨rfl, h2⟩ | ⟨i, rfl, h2⟩
        · have : full n = 0 := by rw [h2] at hne; exact hne.symm
          have h3 := testBit_full n 0
          rw [this] at h3; simp at h3; omega
        · have h3 : pasK g k (cor g n k i) n = cor g n k i := hne.symm.trans h2
          exact ⟨i, h3, by rw [show cor g n k (i + 1) = cor g n k i from h3]; exact h3⟩
      generalize cor g n k j = s at *
      go_wp2
      refine bodyPost_ret (v := .tuple #[.int .i64 (s : Nat), .int .i64 0]) (by simp [results, Tryd.f25, go_sem]) rfl ?_
      exact ⟨⟨s, rfl, hci.out⟩, HB1.out⟩
    · have hb : (((last : Nat) : Int) != ((cor g n k j : Nat) : Int)) = true := by rw [bne_iff_ne]; omega
      have hnext : Hid (cor g n k (j + 1) = pasK g k (cor g n k j) n) := rfl
      have hle := pasK_le g k (cor g n k j) n
      have HLE := Lib.hid hle
      have HNE := Lib.hid hne
      have HJ : Hid ((j + 1 = 0 ∧ cor g n k j = 0) ∨ ∃ i, j + 1 = i + 1 ∧ cor g n k j = cor g n k i) := .inr ⟨j, rfl, rfl⟩
      generalize hse : cor g n k j = s at *
      clear hse hle hne
      go_upto_region 11 with (fail)
      go_loopw [10, 37] (fun s10 s37 wr2 => ∃ v : Nat, v ≤ n ∧ s37 = .int .i64 (v : Int) ∧ s10 = .int .i64 (pasK g k s v : Nat) ∧ Hid (wr2 = w1)) (fun _ s37 _ => 40 - (intOf s37).toNat)
      case atStart => exact ⟨0, by omega, rfl, rfl, rfl⟩
      case round =>
        obtain ⟨v, hv, rfl, rfl, hw2⟩ := hrel
        rw [hw2.out]
        by_cases hvn : v < n
        · have h1 : (v : Int) < (n : Int) := by omega
          have hwv : IntKind.u64.wrap (v : Int) = (v : Int) := u64_same _ (by omega)
          have hps := pasK_sm (g := g) (k := k) hcs v
          have HC := Lib.hid (HGW.out v (pasK g k s v) hvn hps)
          cases hbit : (pasK g k s v).testBit v with
          | false =>
            have hno := Lib.hid (pasK_no (g := g) (k := k) (s := s) (v := v) (fun h => by rw [hbit] at h; cases h.1))
            generalize pasK g k s v = t at *
            go_wp2
            exact ⟨⟨v + 1, by omega, int_eq (by omega), by rw [hno.out], Lib.hid trivial⟩, by simp [intOf]; omega⟩
          | true =>
            by_cases hlt : wtn g v (pasK g k s v) < k
            · have hyes := Lib.hid (pasK_yes hbit hlt)
              have h3 : ((wtn g v (pasK g k s v) : Nat) : Int) < (k : Int) := by omega
              have hpv : wrap64 (2 ^ v) = ((pw v : Nat) : Int) := pw_cast _ (by omega)
              have hspv : Sm (pw v) := sm_pw (by omega)
              clear hlt
              generalize pasK g k s v = t at *
              go_wp2_with (go_at_call 62; refine Calls.mono HC.out ?_; rintro e w' ⟨rfl, hw'⟩; subst hw'; try dsimp only)
              exact ⟨⟨v + 1, by omega, int_eq (by omega), by rw [hyes.out], Lib.hid trivial⟩, by simp [intOf]; omega⟩
            · have hno := Lib.hid (pasK_no (g := g) (k := k) (s := s) (v := v) (fun h => hlt h.2))
              have h3 : ¬ ((wtn g v (pasK g k s v) : Nat) : Int) < (k : Int) := by omega
              clear hlt
              generalize pasK g k s v = t at *
              go_wp2_with (go_at_call 62; refine Calls.mono HC.out ?_; rintro e w' ⟨rfl, hw'⟩; subst hw'; try dsimp only)
              exact ⟨⟨v + 1, by omega, int_eq (by omega), by rw [hno.out], Lib.hid trivial⟩, by simp [intOf]; omega⟩
        · have h1 : ¬ (v : Int) < (n : Int) := by omega
          have hve : v = n := by omega
          rw [hve, ← hnext.out]
          have hle2 : cor g n k (j + 1) ≤ s := by rw [hnext.out]; exact HLE.out
          have hne2 : last ≠ s := HNE.out
          clear hve
          go_wp2
          refine ⟨⟨j + 1, s, rfl, rfl, HJ, Lib.hid trivial⟩, ?_⟩
          exact corM_lt hle2 hne2
end Go.Proofs.YtpknnjcbcndbbaaDoor
namespace Go.Proofs.YtpknnjcbcndbbaaDoor
open Go.RowKit

/-- the order lists every vertex, each once -/
structure OrdOK (n : Nat) (o : List Nat) : Prop where
  len : o.length = n
  nd : o.Nodup
  lt : ∀ i, i < n → nth o i < n
  all : ∀ v, v < n → ∃ i, i < n ∧ nth o i = v
theorem lf_mono {g : List Nat} {n x : Nat} : ∀ (d j : Nat), (lf g n (j + d)).testBit x = true → (lf g n j).testBit x = true
  | 0, j, h => h
  | d + 1, j, h => by
    rw [show j + (d + 1) = (j + d) + 1 by omega] at h
    unfold lf at h
    rw [testBit_ldiff, Bool.and_eq_true] at h
    exact lf_mono d j h.1
theorem pk_gone {g : List Nat} {n j : Nat} : (lf g n (j + 1)).testBit (pk g n j) = false := by
  unfold lf
  rw [testBit_ldiff, show (pw (bst g n (lf g n j))).testBit (pk g n j) = true from by unfold pw pk; rw [Nat.testBit_two_pow]; simp]
  simp
theorem pk_inj {g : List Nat} {n i j : Nat} (hij : i < j) (hj : j < n) : pk g n i ≠ pk g n j := fun e => by
  have h1 := (pk_facts (g := g) hj).2.1
  have h2 := lf_mono (g := g) (n := n) (x := pk g n j) (j - (i + 1)) (i + 1) (by rw [show i + 1 + (j - (i + 1)) = j by omega]; exact h1)
  rw [← e, pk_gone] at h2; cases h2
theorem nth_ord {g : List Nat} {n i : Nat} (hi : i < n) : nth (ordL g n) i = pk g n (n - 1 - i) := by
  unfold nth ordL
  rw [List.getElem?_reverse (by simpa using hi)]
  simp only [List.length_map, List.length_range]
  rw [List.getElem?_map, List.getElem?_range (by omega)]; rfl
theorem ordOK (g : List Nat) (n : Nat) : OrdOK n (ordL g n) := by
  have hlen : (ordL g n).length = n := by simp [ordL]
  have hnd : (ordL g n).Nodup := nodup_nth fun i j hij hj e => by
    rw [hlen] at hj
    rw [nth_ord (by omega), nth_ord hj] at e
    exact pk_inj (i := n - 1 - j) (j := n - 1 - i) (by omega) (by omega) e.symm
  have hlt : ∀ i, i < n → nth (ordL g n) i < n := fun i hi => by rw [nth_ord hi]; exact (pk_facts (by omega)).1
  refine ⟨hlen, hnd, hlt, fun v hv => Classical.byContradiction fun hc => ?_⟩
  have hnot : v ∉ ordL g n := fun h => by
    obtain ⟨i, hi, e⟩ := List.mem_iff_getElem.1 h
    exact hc ⟨i, by omega, by unfold nth; rw [List.getElem?_eq_getElem hi, e]; rfl⟩
  have := nodup_sub (v :: ordL g n) (List.range n) (List.nodup_cons.2 ⟨hnot, hnd⟩) fun x hx => by
    rcases List.mem_cons.1 hx with rfl | hx
    · exact List.mem_range.2 hv
    · obtain ⟨i, hi, e⟩ := List.mem_iff_getElem.1 hx
      have := hlt i (by omega)
      unfold nth at this; rw [List.getElem?_eq_getElem hi, e] at this
      exact List.mem_range.2 this
  rw [List.length_cons, hlen, List.length_range] at this
  omega
/-- colours from lists of bits: each vertex has one of its own, and no edge joins two of the same -/
def ColOK (g : List Nat) (n : Nat) (L : Nat → Nat) (c : Nat → Nat) : Prop := (∀ v, v < n → (L v).testBit (c v) = true) ∧ ∀ v w, adj g v w → c v ≠ c w
/-- the first vertices of the order are coloured -/
def ColPre (g : List Nat) (o : List Nat) (L : Nat → Nat) (m : Nat) (c : Nat → Nat) : Prop := ∀ i, i < m → (L (nth o i)).testBit (c (nth o i)) = true ∧ ∀ j, j < i → adj g (nth o i) (nth o j) → c (nth o i) ≠ c (nth o j)
/-- there are colours that go on from these -/
def ColExt (g : List Nat) (n : Nat) (o : List Nat) (L : Nat → Nat) (m : Nat) (c : Nat → Nat) : Prop := ∃ c', ColOK g n L c' ∧ ∀ i, i < m → c' (nth o i) = c (nth o i)
def setC (c : Nat → Nat) (v x : Nat) : Nat → Nat := fun y => if y = v then x else c y
theorem ColPre.all {g : List Nat} {n : Nat} {o : List Nat} {L c : Nat → Nat} (U : Und g n) (O : OrdOK n o) (h : ColPre g o L n c) : ColOK g n L c := by
  refine ⟨fun v hv => ?_, fun v w ha => ?_⟩
  · obtain ⟨i, hi, rfl⟩ := O.all v hv
    exact (h i hi).1
  · obtain ⟨i, hi, rfl⟩ := O.all v (U.lt _ _ ha).1
    obtain ⟨j, hj, rfl⟩ := O.all w (U.lt _ _ ha).2
    rcases Nat.lt_trichotomy i j with h1 | h1 | h1
    · exact fun e => (h j hj).2 i h1 (U.sym _ _ ha) e.symm
    · subst h1; exact absurd rfl (U.ne _ _ ha)
    · exact (h i hi).2 j h1 ha
theorem ColExt.congr {g : List Nat} {n : Nat} {o : List Nat} {L c c2 : Nat → Nat} {m : Nat} (h : ColExt g n o L m c) (e : ∀ i, i < m → c2 (nth o i) = c (nth o i)) : ColExt g n o L m c2 := by
  obtain ⟨c', h1, h2⟩ := h
  exact ⟨c', h1, fun i hi => (h2 i hi).trans (e i hi).symm⟩
theorem OrdOK.ne {n : Nat} {o : List Nat} (O : OrdOK n o) {i j : Nat} (hi : i < n) (hj : j < n) (hij : i ≠ j) : nth o i ≠ nth o j := fun e => hij (nth_nd O.nd (by rw [O.len]; exact hi) (by rw [O.len]; exact hj) e)
theorem ColPre.congr {g : List Nat} {o : List Nat} {L c c2 : Nat → Nat} {m : Nat} (h : ColPre g o L m c) (e : ∀ i, i < m → c2 (nth o i) = c (nth o i)) : ColPre g o L m c2 := fun i hi => by
  rw [e i hi]
  refine ⟨(h i hi).1, fun j hj ha => ?_⟩
  rw [e j (by omega)]; exact (h i hi).2 j hj ha
/-- what is left of a list behind k of the earlier vertices -/
def lftK (g : List Nat) (o : List Nat) (L c : Nat → Nat) (v : Nat) : Nat → Nat
  | 0 => L v
  | k + 1 => if (g[v]?.getD 0).testBit (nth o k) = true then ldiff (lftK g o L c v k) (2 ^ c (nth o k)) else lftK g o L c v k
theorem lftK_bit {g : List Nat} {o : List Nat} {L c : Nat → Nat} {v : Nat} (x : Nat) : ∀ k, (lftK g o L c v k).testBit x = true ↔ (L v).testBit x = true ∧ ∀ j, j < k → adj g v (nth o j) → c (nth o j) ≠ x
  | 0 => by unfold lftK; simp
  | k + 1 => by
    have ih := lftK_bit (g := g) (o := o) (L := L) (c := c) (v := v) x k
    unfold lftK
    split
    · rename_i ha
      rw [testBit_ldiff, Nat.testBit_two_pow, Bool.and_eq_true, ih]
      constructor
      · rintro ⟨⟨h1, h2⟩, h3⟩
        refine ⟨h1, fun j hj haj => ?_⟩
        by_cases e : j = k
        · subst e; simpa using h3
        · exact h2 j (by omega) haj
      · rintro ⟨h1, h2⟩
        exact ⟨⟨h1, fun j hj => h2 j (by omega)⟩, by simpa using h2 k (by omega) ha⟩
    · rename_i ha
      rw [ih]
      constructor
      · rintro ⟨h1, h2⟩
        refine ⟨h1, fun j hj haj => ?_⟩
        by_cases e : j = k
        · subst e; exact absurd haj ha
        · exact h2 j (by omega) haj
      · rintro ⟨h1, h2⟩
        exact ⟨h1, fun j hj => h2 j (by omega)⟩
theorem lftK_le (g : List Nat) (o : List Nat) (L c : Nat → Nat) (v : Nat) : ∀ k, lftK g o L c v k ≤ L v
  | 0 => Nat.le_refl _
  | k + 1 => by
    unfold lftK
    split
    · exact Nat.le_trans (ldiff_le _ _) (lftK_le g o L c v k)
    · exact lftK_le g o L c v k
section
variable {g : List Nat} {n : Nat} {o : List Nat} {L c : Nat → Nat} {m : Nat}
theorem ColPre.step (O : OrdOK n o) (hm : m < n) (h : ColPre g o L m c) {x : Nat} (hx : (lftK g o L c (nth o m) m).testBit x = true) : ColPre g o L (m + 1) (setC c (nth o m) x) := by
  have hx2 := (lftK_bit x m).1 hx
  have e1 : ∀ i, i < m → setC c (nth o m) x (nth o i) = c (nth o i) := fun i hi => by
    unfold setC; rw [if_neg (O.ne (by omega) hm (by omega))]
  have e2 : setC c (nth o m) x (nth o m) = x := by unfold setC; rw [if_pos rfl]
  intro i hi
  by_cases e : i = m
  · subst e
    rw [e2]
    refine ⟨hx2.1, fun j hj ha => ?_⟩
    rw [e1 j hj]
    exact fun e => hx2.2 j hj ha e.symm
  · rw [e1 i (by omega)]
    refine ⟨(h i (by omega)).1, fun j hj ha => ?_⟩
    rw [e1 j (by omega)]
    exact (h i (by omega)).2 j hj ha
/-- who goes on gives the next vertex one of the colours left -/
theorem ColExt.step (O : OrdOK n o) (hm : m < n) (h : ColExt g n o L m c) : ∃ x, (lftK g o L c (nth o m) m).testBit x = true ∧ ColExt g n o L (m + 1) (setC c (nth o m) x) := by
  obtain ⟨c', h1, h2⟩ := h
  refine ⟨c' (nth o m), (lftK_bit _ _).2 ⟨h1.1 _ (O.lt m hm), fun j hj ha => ?_⟩, c', h1, fun i hi => ?_⟩
  · rw [← h2 j hj]; exact fun e => h1.2 _ _ ha e.symm
  · unfold setC
    by_cases e : i = m
    · subst e; rw [if_pos rfl]
    · rw [if_neg (O.ne (by omega) hm e)]; exact h2 i (by omega)
theorem setC_same (O : OrdOK n o) (hm : m < n) (x : Nat) : ∀ i, i < m → setC c (nth o m) x (nth o i) = c (nth o i) := fun i hi => by
  unfold setC; rw [if_neg (O.ne (by omega) hm (by omega))]
end
theorem band64 (a b : Nat) (ha : a < 18446744073709551616) (hb : b < 18446744073709551616) : bits .and .u64 (a : Int) (b : Int) = ((a &&& b : Nat) : Int) := by
  show IntKind.u64.wrap ((BitVec.ofInt 64 (a : Int) &&& BitVec.ofInt 64 (b : Int)).toNat : Int) = _
  rw [BitVec.toNat_and, ofNat64 _ ha, ofNat64 _ hb, u64_same _ (Nat.lt_of_le_of_lt Nat.and_le_left ha)]
end Go.Proofs.YtpknnjcbcndbbaaDoor
namespace Go.Proofs.YtpknnjcbcndbbaaDoor
open Go.RowKit Go.Shelf

theorem make_25 (n : Nat) (hn : n ≤ 20) : ∃ vs : Array Value, vs.size = n ∧ (∀ j, j < n → vs[j]? = some (.int .i64 0)) ∧
    ∀ W, Sem.run Tryd.prog (Instr.makeSlice 25 (.int .i64 (n : Int)) (.int .i64 (n : Int))) W = .ok (.slice (some ⟨W.heap.size, 0, none⟩) n n) (W.alloc (.cells vs 3)) := by
  obtain ⟨i0, hi, hz0, hz1, hz2⟩ := info_parts info3
  refine ⟨madeCells #[.int .i64 0] n, size_madeCells _ _, fun j hj => ?_, fun W => ?_⟩
  · rw [← Array.getElem?_toList, toList_madeCells_one, List.getElem?_replicate, if_pos hj]
  · have := run_make (P := Tryd.prog) W 25 3 i0 _ Tryd.underlying25 hi hz0 .i64 .i64 (n : Int) (n : Int) (by omega) (Int.le_refl _) (by rw [hz2]; omega) (by omega)
    rw [hz1, show (Value.int .i64 0).cells = #[.int .i64 0] from rfl] at this
    simpa using this
/-- block B is a row of n numbers -/
def RowB (W : World) (B n : Nat) (f : Nat → Int) : Prop := ∃ vs, BoxN W B 3 vs ∧ vs.size = n ∧ ∀ j, j < n → vs[j]? = some (.int .i64 (f j))
theorem RowB.lt {W : World} {B n : Nat} {f : Nat → Int} (h : RowB W B n f) : B < W.heap.size := h.elim fun _ h => h.1.lt
theorem RowB.cell {W : World} {B n : Nat} {f : Nat → Int} (h : RowB W B n f) {x : Nat} (hx : x < n) : W.cell? ⟨B, x, none⟩ = some (.int .i64 (f x)) := by
  obtain ⟨vs, h1, h2, h3⟩ := h
  rw [h1.cell]; exact h3 x hx
theorem RowB.frozen {W : World} {B n : Nat} {f : Nat → Int} (h : RowB W B n f) (x : Nat) : W.frozen? ⟨B, x, none⟩ = false := by
  obtain ⟨vs, h1, _⟩ := h
  exact h1.frozen x
theorem RowB.obj {W : World} {B n : Nat} {f : Nat → Int} (h : RowB W B n f) : ∃ o, W.heap[B]? = some o ∧ o.isCells = true := by
  obtain ⟨vs, h1, _⟩ := h
  exact ⟨_, h1, rfl⟩
theorem RowB.block {W W' : World} {B n : Nat} {f : Nat → Int} (h : RowB W B n f) (hb : W'.heap[B]? = W.heap[B]?) : RowB W' B n f := by
  obtain ⟨vs, h1, h2⟩ := h
  exact ⟨vs, hb.trans h1, h2⟩
theorem RowB.below {W W' : World} {B n k : Nat} {f : Nat → Int} (h : RowB W B n f) (hB : Below k W W') (hk : B < k) : RowB W' B n f := h.block (hB.block B hk)
theorem RowB.ag {ex : Nat → Prop} {W W' : World} {B n : Nat} {f : Nat → Int} (h : RowB W B n f) (hA : Ag ex W W') (hk : ¬ ex B) : RowB W' B n f := h.block (hA.block B h.lt hk)
theorem RowB.set {W : World} {B n : Nat} {f : Nat → Int} (h : RowB W B n f) {x : Nat} (_hx : x < n) (v : Int) : RowB (W.setCell ⟨B, x, none⟩ (.int .i64 v)) B n (fun j => if j = x then v else f j) := by
  obtain ⟨vs, h1, h2, h3⟩ := h
  refine ⟨_, h1.set x (.int .i64 v), by simpa using h2, fun j hj => ?_⟩
  by_cases e : j = x
  · subst e; rw [Array.getElem?_setIfInBounds_self_of_lt (by omega)]; simp
  · rw [Array.getElem?_setIfInBounds_ne (Ne.symm e)]; simp only [if_neg e]; exact h3 j hj
theorem RowB.other {W : World} {B n : Nat} {f : Nat → Int} (h : RowB W B n f) {a : Addr} (hne : B ≠ a.block) (x : Value) : RowB (W.setCell a x) B n f := by
  obtain ⟨vs, h1, h2⟩ := h
  exact ⟨vs, h1.other hne x, h2⟩
theorem RowB.congr {W : World} {B n : Nat} {f f' : Nat → Int} (h : RowB W B n f) (e : ∀ x, x < n → f x = f' x) : RowB W B n f' := by
  obtain ⟨vs, h1, h2, h3⟩ := h
  exact ⟨vs, h1, h2, fun j hj => by rw [h3 j hj, e j hj]⟩
theorem RowB.toF {W : World} {B n : Nat} {f : Nat → Int} (h : RowB W B n f) : RowF W B 0 n f := ⟨h.lt, fun x hx => by rw [Nat.zero_add]; exact h.cell hx⟩

def fromV (fr : Nat → Option Nat) (x : Nat) : Int := match fr x with | none => -1 | some y => (y : Int)
def sideV (L : List Nat) (lev : Nat → Nat) (x : Nat) : Int := if x ∈ L then ((lev x % 2 : Nat) : Int) else -1
/-- what lies in memory; b: the heap's size at the call -/
structure SFix (w W : World) (b n : Nat) (Ds : List Nat) (sf ff : Nat → Int) : Prop where
  r1 : Boxed W b 3 (.int .i64 0)
  r2 : Boxed W (b + 1) 25 (.slice none 0 0)
  sb : Boxed W (b + 1 + 1 + 1) 25 (.slice (some ⟨b + 1 + 1, 0, none⟩) n n)
  fb : Boxed W (b + 1 + 1 + 1 + 1 + 1) 25 (.slice (some ⟨b + 1 + 1 + 1 + 1, 0, none⟩) n n)
  side : RowB W (b + 1 + 1) n sf
  from' : RowB W (b + 1 + 1 + 1 + 1) n ff
  below : Below w.heap.size w W
  marks : Ds.Nodup ∧ ∀ D ∈ Ds, b + 1 + 1 + 1 + 1 + 1 < D ∧ W.heap[D]? = some (.deferred (some []))
theorem SFix.ag {ex : Nat → Prop} {w W W' : World} {b n : Nat} {Ds : List Nat} {sf ff : Nat → Int} (h : SFix w W b n Ds sf ff) (hg : Ag ex W W') (he : ∀ k, ex k → w.heap.size ≤ k ∧ k ∉ Ds ∧ ∀ o, W.heap[k]? = some o → o.isCells = false) : SFix w W' b n Ds sf ff := by
  have nc : ∀ {k : Nat} {o : Obj}, W.heap[k]? = some o → o.isCells = true → ¬ ex k := fun {k o} ho hc hx => by rw [(he k hx).2.2 o ho] at hc; cases hc
  obtain ⟨o1, h1, h1'⟩ := h.side.obj
  obtain ⟨o2, h2, h2'⟩ := h.from'.obj
  exact ⟨hg.boxed h.r1 (nc h.r1 rfl), hg.boxed h.r2 (nc h.r2 rfl), hg.boxed h.sb (nc h.sb rfl), hg.boxed h.fb (nc h.fb rfl), h.side.ag hg (nc h1 h1'), h.from'.ag hg (nc h2 h2'),
    hg.below h.below h.below.size (fun k hk e => by have := (he k e).1; omega), ⟨h.marks.1, fun D hD => ⟨(h.marks.2 D hD).1, hg.obj (h.marks.2 D hD).2 (fun e => (he D e).2.1 hD)⟩⟩⟩
theorem SFix.keep {w W W' : World} {b n : Nat} {Ds : List Nat} {sf ff : Nat → Int} (h : SFix w W b n Ds sf ff) (hB : Below W.heap.size W W') : SFix w W' b n Ds sf ff :=
  h.ag (ex := fun _ => False) (Ag.of_below hB) (fun _ e => e.elim)
theorem sideV_in {L : List Nat} {lev : Nat → Nat} {x : Nat} (h : x ∈ L) : sideV L lev x = ((lev x % 2 : Nat) : Int) := by unfold sideV; rw [if_pos h]
theorem sideV_out {L : List Nat} {lev : Nat → Nat} {x : Nat} (h : x ∉ L) : sideV L lev x = -1 := by unfold sideV; rw [if_neg h]
theorem sideV_new {L : List Nat} {lev : Nat → Nat} {f : Nat} (hf : f ∉ L) (c : Nat) (x : Nat) : sideV (L ++ [f]) (fun y => if y = f then c else lev y) x = if x = f then ((c % 2 : Nat) : Int) else sideV L lev x := by
  unfold sideV
  by_cases e : x = f
  · subst e; simp
  · simp [e]
theorem drop_snoc (L : List Nat) (x : Nat) : (L ++ [x]).drop L.length = [x] := by simp
/-- a store at the place of a row -/
theorem SFix.store {w W : World} {b n f : Nat} {Ds : List Nat} {sf ff : Nat → Int} (h : SFix w W b n Ds sf ff) (hb : w.heap.size ≤ b) (hf : f < n) (c : Int) : SFix w (W.setCell ⟨b + 1 + 1, f, none⟩ (.int .i64 c)) b n Ds (fun x => if x = f then c else sf x) ff := by
  have hg : Ag (fun k => k = b + 1 + 1) W (W.setCell ⟨b + 1 + 1, f, none⟩ (.int .i64 c)) := (Ag.refl _ W).set _ _ (.inr rfl)
  exact ⟨hg.boxed h.r1 (by omega), hg.boxed h.r2 (by omega), hg.boxed h.sb (by omega), hg.boxed h.fb (by omega), h.side.set hf c, h.from'.ag hg (by omega), hg.below h.below h.below.size (fun k hk e => by omega), ⟨h.marks.1, fun D hD => ⟨(h.marks.2 D hD).1, hg.obj (h.marks.2 D hD).2 (fun e => by have := (h.marks.2 D hD).1; omega)⟩⟩⟩
theorem SFix.storeF {w W : World} {b n f : Nat} {Ds : List Nat} {sf ff : Nat → Int} (h : SFix w W b n Ds sf ff) (hb : w.heap.size ≤ b) (hf : f < n) (c : Int) : SFix w (W.setCell ⟨b + 1 + 1 + 1 + 1, f, none⟩ (.int .i64 c)) b n Ds sf (fun x => if x = f then c else ff x) := by
  have hg : Ag (fun k => k = b + 1 + 1 + 1 + 1) W (W.setCell ⟨b + 1 + 1 + 1 + 1, f, none⟩ (.int .i64 c)) := (Ag.refl _ W).set _ _ (.inr rfl)
  exact ⟨hg.boxed h.r1 (by omega), hg.boxed h.r2 (by omega), hg.boxed h.sb (by omega), hg.boxed h.fb (by omega), h.side.ag hg (by omega), h.from'.set hf c, hg.below h.below h.below.size (fun k hk e => by omega), ⟨h.marks.1, fun D hD => ⟨(h.marks.2 D hD).1, hg.obj (h.marks.2 D hD).2 (fun e => by have := (h.marks.2 D hD).1; omega)⟩⟩⟩
theorem SFix.congr {w W : World} {b n : Nat} {Ds : List Nat} {sf ff sf' ff' : Nat → Int} (h : SFix w W b n Ds sf ff) (e1 : ∀ x, sf x = sf' x) (e2 : ∀ x, ff x = ff' x) : SFix w W b n Ds sf' ff' := ⟨h.r1, h.r2, h.sb, h.fb, h.side.congr fun x _ => e1 x, h.from'.congr fun x _ => e2 x, h.below, h.marks⟩
theorem BSt.chn {g : List Nat} {n p q : Nat} {L : List Nat} {lev : Nat → Nat} {fr : Nat → Option Nat} {out : Nat} (B : BSt g n L p q lev fr out) (hn : n ≤ 16) {x : Nat} (hx : x ∈ L) : Chn (fromV fr) n (way lev fr x) x := by
  obtain ⟨a1, a2, a3, a4, a5⟩ := B.way_facts _ x hx rfl
  have hl := B.lev_lt hx
  refine ⟨by omega, a2, fun i hi => B.lt _ (a3 i (by omega)).1, fun i hi => ?_, ?_, by omega⟩
  · unfold fromV; rw [a4 i (by omega)]
  · rw [a1, Nat.add_sub_cancel]; unfold fromV; rw [a5]
theorem BSt.out_lt {g : List Nat} {n p q : Nat} {L : List Nat} {lev : Nat → Nat} {fr : Nat → Option Nat} {out : Nat} (B : BSt g n L p q lev fr out) (hn : n ≤ 16) : out < 65536 := by
  refine Nat.lt_pow_two_of_testBit (n := 16) _ fun i hi => ?_
  cases hb : out.testBit i with
  | false => rfl
  | true =>
    obtain ⟨j, hj, e, _⟩ := (B.out i).1 hb
    have := B.lt i (e ▸ nth_mem (Nat.lt_of_lt_of_le hj B.qle))
    omega
theorem BSt.len {g : List Nat} {n p q : Nat} {L : List Nat} {lev : Nat → Nat} {fr : Nat → Option Nat} {out : Nat} (B : BSt g n L p q lev fr out) : L.length ≤ n := by
  have := nodup_sub L (List.range n) B.nd fun x hx => List.mem_range.2 (B.lt x hx)
  simpa using this
theorem SFix.up {ex : Nat → Prop} {w W W' : World} {b n : Nat} {Ds : List Nat} {sf ff : Nat → Int} (h : SFix w W b n Ds sf ff) (hb : w.heap.size ≤ b) (hg : Ag ex W W') (he : ∀ k, ex k → b + 1 + 1 + 1 + 1 + 1 < k ∧ k ∉ Ds) : SFix w W' b n Ds sf ff := by
  have nc : ∀ k, k ≤ b + 1 + 1 + 1 + 1 + 1 → ¬ ex k := fun k hk hx => by have := (he k hx).1; omega
  exact ⟨hg.boxed h.r1 (nc _ (by omega)), hg.boxed h.r2 (nc _ (by omega)), hg.boxed h.sb (nc _ (by omega)), hg.boxed h.fb (nc _ (by omega)), h.side.ag hg (nc _ (by omega)), h.from'.ag hg (nc _ (by omega)),
    hg.below h.below h.below.size (fun k hk e => by have := (he k e).1; omega), ⟨h.marks.1, fun D hD => ⟨(h.marks.2 D hD).1, hg.obj (h.marks.2 D hD).2 (fun e => (he D e).2 hD)⟩⟩⟩
theorem SFix.no_mark {w W : World} {b n k : Nat} {Ds : List Nat} {sf ff : Nat → Int} {o : Obj} (h : SFix w W b n Ds sf ff) (hk : W.heap[k]? = some o) (hc : o.isCells = true) : k ∉ Ds := fun e => by
  have := (h.marks.2 k e).2
  rw [hk] at this; cases this; cases hc
theorem ite_some {α : Type} (c : Prop) [Decidable c] (a b : α) : (if c then some a else some b) = some (if c then a else b) := by split <;> rfl
theorem iv_drop (l : List Nat) (m : Nat) : (iv l).drop m = iv (l.drop m) := by unfold iv; rw [List.map_drop]
/-- .. and the queue, and the vertex that is entered -/
structure SR (w X : World) (b n qb vb v p : Nat) (Ds L : List Nat) (lev : Nat → Nat) (fr : Nat → Option Nat) : Prop where
  fix : SFix w X b n Ds (sideV L lev) (fromV fr)
  q : ∃ qv, Boxed X qb 25 qv ∧ QRow X (b + 1 + 1 + 1 + 1 + 1 + 1) 3 1 qv (L.length - p) (iv (L.drop p)) ∧ qv.ownBlock ≠ some vb
  v : Boxed X vb 3 (.int .i64 (v : Int))
  hq : b + 1 + 1 + 1 + 1 + 1 < qb
  hv : b + 1 + 1 + 1 + 1 + 1 < vb
  hqv : qb ≠ vb
theorem SR.ag {ex : Nat → Prop} {w X X' : World} {b n qb vb v p : Nat} {Ds L : List Nat} {lev : Nat → Nat} {fr : Nat → Option Nat} (h : SR w X b n qb vb v p Ds L lev fr) (hg : Ag ex X X') (he : ∀ k, ex k → w.heap.size ≤ k ∧ k ∉ Ds ∧ ∀ o, X.heap[k]? = some o → o.isCells = false) : SR w X' b n qb vb v p Ds L lev fr := by
  have nc : ∀ {k : Nat} {o : Obj}, X.heap[k]? = some o → o.isCells = true → ¬ ex k := fun {k o} ho hc hx => by rw [(he k hx).2.2 o ho] at hc; cases hc
  obtain ⟨qv, q1, q2, q3⟩ := h.q
  refine ⟨h.fix.ag hg he, ⟨qv, hg.boxed q1 (nc q1 rfl), hg.qrow q2 (fun k hk => ?_), q3⟩, hg.boxed h.v (nc h.v rfl), h.hq, h.hv, h.hqv⟩
  obtain ⟨o, ho, hc⟩ := q2.own_cells hk
  exact nc ho hc
theorem SR.keep {w X X' : World} {b n qb vb v p : Nat} {Ds L : List Nat} {lev : Nat → Nat} {fr : Nat → Option Nat} (h : SR w X b n qb vb v p Ds L lev fr) (hB : Below X.heap.size X X') : SR w X' b n qb vb v p Ds L lev fr :=
  h.ag (ex := fun _ => False) (Ag.of_below hB) (fun _ e => e.elim)
/-- while a vertex x is reached from v: the side's store is done or not, the way's store is done or not -/
structure SR2 (X W : World) (b n qb vb v x c : Nat) (sf ff : Nat → Int) (d1 d2 : Bool) : Prop where
  ag : Ag (fun k => k = b + 1 + 1 ∨ k = b + 1 + 1 + 1 + 1) X W
  sb : Boxed W (b + 1 + 1 + 1) 25 (.slice (some ⟨b + 1 + 1, 0, none⟩) n n)
  fb : Boxed W (b + 1 + 1 + 1 + 1 + 1) 25 (.slice (some ⟨b + 1 + 1 + 1 + 1, 0, none⟩) n n)
  vbox : Boxed W vb 3 (.int .i64 (v : Int))
  side : RowB W (b + 1 + 1) n (if d1 then fun y => if y = x then 1 - (c : Int) else sf y else sf)
  from' : RowB W (b + 1 + 1 + 1 + 1) n (if d2 then fun y => if y = x then (v : Int) else ff y else ff)
theorem SR2.zero {w X X' : World} {b n qb vb v p x c : Nat} {Ds L : List Nat} {lev : Nat → Nat} {fr : Nat → Option Nat} (h : SR w X b n qb vb v p Ds L lev fr) (hX : Below X.heap.size X X') : SR2 X X' b n qb vb v x c (sideV L lev) (fromV fr) false false :=
  have hk := h.keep hX
  ⟨Ag.of_below hX, hk.fix.sb, hk.fix.fb, hk.v, hk.fix.side, hk.fix.from'⟩
theorem SR2.store1 {X W : World} {b n qb vb v x c : Nat} {sf ff : Nat → Int} {d2 : Bool} (h : SR2 X W b n qb vb v x c sf ff false d2) (hx : x < n) (hvb : b + 1 + 1 + 1 + 1 + 1 < vb) : SR2 X (W.setCell ⟨b + 1 + 1, x, none⟩ (.int .i64 (1 - (c : Int)))) b n qb vb v x c sf ff true d2 :=
  ⟨h.ag.set _ _ (.inr (.inl rfl)), boxed_otherN h.sb (by omega) _, boxed_otherN h.fb (by omega) _, boxed_otherN h.vbox (by omega) _, h.side.set hx _, h.from'.other (show b + 1 + 1 + 1 + 1 ≠ b + 1 + 1 by omega) _⟩
theorem SR2.store2 {X W : World} {b n qb vb v x c : Nat} {sf ff : Nat → Int} {d1 : Bool} (h : SR2 X W b n qb vb v x c sf ff d1 false) (hx : x < n) (hvb : b + 1 + 1 + 1 + 1 + 1 < vb) : SR2 X (W.setCell ⟨b + 1 + 1 + 1 + 1, x, none⟩ (.int .i64 (v : Int))) b n qb vb v x c sf ff d1 true :=
  ⟨h.ag.set _ _ (.inr (.inr rfl)), boxed_otherN h.sb (by omega) _, boxed_otherN h.fb (by omega) _, boxed_otherN h.vbox (by omega) _, h.side.other (show b + 1 + 1 ≠ b + 1 + 1 + 1 + 1 by omega) _, h.from'.set hx _⟩
theorem SR2.at_v {X W : World} {b n qb vb v x c : Nat} {sf ff : Nat → Int} {d1 d2 : Bool} (h : SR2 X W b n qb vb v x c sf ff d1 d2) (hv : v < n) (hxv : x ≠ v) : W.cell? ⟨b + 1 + 1, v, none⟩ = some (.int .i64 (sf v)) := by
  rw [h.side.cell hv]
  cases d1
  · rfl
  · simp [Ne.symm hxv]
theorem Tab.ag {ex : Nat → Prop} {W W' : World} (h : Tab W) (hg : Ag ex W W') (h0 : ¬ ex 0) : Tab W' :=
  ⟨Nat.lt_of_lt_of_le h.1 hg.size, fun j hj => (World.cell?_of_block (hg.block 0 h.1 h0)).trans (h.2 j hj)⟩
/-- the vertex x is reached, and stands in the queue -/
theorem SR.add {w X Z V4 : World} {b n qb vb v p x c : Nat} {Ds L : List Nat} {lev : Nat → Nat} {fr : Nat → Option Nat} {qv v4 : Value} {ob : Obj} (h : SR w X b n qb vb v p Ds L lev fr) (hb : w.heap.size ≤ b) (hC : SR2 X Z b n qb vb v x c (sideV L lev) (fromV fr) true true) (hxL : x ∉ L) (hp : p ≤ L.length) (hc : c = lev v % 2)
    (p1 : Boxed X qb 25 qv) (p2 : QRow X (b + 1 + 1 + 1 + 1 + 1 + 1) 3 1 qv (L.length - p) (iv (L.drop p))) (p3 : qv.ownBlock ≠ some vb)
    (r : QRow V4 (b + 1 + 1 + 1 + 1 + 1 + 1) 3 1 v4 (L.length - p + 1) (iv (L.drop p) ++ [.int .i64 (x : Int)])) (hg : (Z.alloc ob).grownBy V4 qv.ownBlock) (ho : ∀ k, v4.ownBlock = some k → qv.ownBlock = some k ∨ (Z.alloc ob).heap.size ≤ k) :
    SR w (V4.setCell ⟨qb, 0, none⟩ v4) b n qb vb v p Ds (L ++ [x]) (fun y => if y = x then lev v + 1 else lev y) (fun y => if y = x then some v else fr y) ∧
    Ag (fun k => k = b + 1 + 1 ∨ k = b + 1 + 1 + 1 + 1 ∨ k = qb ∨ qv.ownBlock = some k) X (V4.setCell ⟨qb, 0, none⟩ v4) ∧
    ∀ k, (k = b + 1 + 1 ∨ k = b + 1 + 1 + 1 + 1 ∨ k = qb ∨ qv.ownBlock = some k) → b + 1 + 1 ≤ k ∧ ∃ o, X.heap[k]? = some o ∧ o.isCells = true := by
  have hq := h.hq
  have hvb := h.hv
  have hqv := h.hqv
  have own : ∀ k, qv.ownBlock = some k → b + 1 + 1 + 1 + 1 + 1 + 1 ≤ k := fun k e => (p2.lt k e).1
  have hagZ : Ag (fun k => k = qb ∨ qv.ownBlock = some k) Z (V4.setCell ⟨qb, 0, none⟩ v4) := (((Ag.refl _ Z).alloc ob).grown hg (fun k e => .inr (.inr e))).set _ _ (.inr (.inl rfl))
  have hag : Ag (fun k => k = b + 1 + 1 ∨ k = b + 1 + 1 + 1 + 1 ∨ k = qb ∨ qv.ownBlock = some k) X (V4.setCell ⟨qb, 0, none⟩ v4) :=
    (hC.ag.mono fun k e => by rcases e with e | e <;> simp [e]).trans (hagZ.mono fun k e => by rcases e with e | e <;> simp [e])
  have hcells : ∀ k, (k = b + 1 + 1 ∨ k = b + 1 + 1 + 1 + 1 ∨ k = qb ∨ qv.ownBlock = some k) → b + 1 + 1 ≤ k ∧ ∃ o, X.heap[k]? = some o ∧ o.isCells = true := fun k e => by
    rcases e with rfl | rfl | rfl | e
    · exact ⟨by omega, h.fix.side.obj⟩
    · exact ⟨by omega, h.fix.from'.obj⟩
    · exact ⟨by omega, _, p1, rfl⟩
    · exact ⟨by have := own k e; omega, p2.own_cells e⟩
  have no : ∀ k, k ≤ b + 1 ∨ k = b + 1 + 1 + 1 ∨ k = b + 1 + 1 + 1 + 1 + 1 ∨ k = vb → ¬ (k = b + 1 + 1 ∨ k = b + 1 + 1 + 1 + 1 ∨ k = qb ∨ qv.ownBlock = some k) := fun k hk e => by
    rcases e with e | e | e | e
    · omega
    · omega
    · omega
    · have := own k e
      have hkv : k = vb := by omega
      subst hkv; exact p3 e
  have hm : ∀ D ∈ Ds, ¬ (D = b + 1 + 1 ∨ D = b + 1 + 1 + 1 + 1 ∨ D = qb ∨ qv.ownBlock = some D) := fun D hD e => by
    obtain ⟨_, o, h1, h2⟩ := hcells D e
    rw [(h.fix.marks.2 D hD).2] at h1; cases h1; cases h2
  have hsz := hC.ag.size
  have w4 : Boxed V4 qb 25 qv := ((hC.ag.boxed p1 (by omega)).alloc ob).kept hg ((hC.ag.qrow p2 (fun k e hh => by have := own k e; omega)).ne_box (hC.ag.boxed p1 (by omega)) (by decide)).symm
  have m4 : v4.ownBlock ≠ some qb := r.ne_box w4 (by decide)
  refine ⟨⟨⟨hag.boxed h.fix.r1 (no _ (by omega)), hag.boxed h.fix.r2 (no _ (by omega)), hag.boxed h.fix.sb (no _ (by omega)), hag.boxed h.fix.fb (no _ (by omega)), (hC.side.ag hagZ (fun e => ?_)).congr fun y _ => ?_, (hC.from'.ag hagZ (fun e => ?_)).congr fun y _ => ?_, hag.below h.fix.below h.fix.below.size (fun k hk e => by have := (hcells k e).1; omega), ⟨h.fix.marks.1, fun D hD => ⟨(h.fix.marks.2 D hD).1, hag.obj (h.fix.marks.2 D hD).2 (hm D hD)⟩⟩⟩, ⟨v4, Boxed.set v4 w4, ?_, fun e => ?_⟩, hag.boxed h.v (no _ (by omega)), hq, hvb, hqv⟩, hag, hcells⟩
  · rcases e with e | e
    · omega
    · have := own _ e; omega
  · simp only [if_true]
    rw [sideV_new hxL]
    by_cases e : y = x
    · simp only [if_pos e]
      have : (lev v + 1) % 2 = 1 - c := by omega
      rw [this]; omega
    · simp only [if_neg e]
  · rcases e with e | e
    · omega
    · have := own _ e; omega
  · simp only [if_true]
    unfold fromV
    by_cases e : y = x
    · simp only [if_pos e]
    · simp only [if_neg e]
  · have e1 : (L ++ [x]).length - p = L.length - p + 1 := by simp; omega
    have e2 : iv ((L ++ [x]).drop p) = iv (L.drop p) ++ [.int .i64 (x : Int)] := by rw [List.drop_append_of_le_length hp, iv_snoc]
    rw [e1, e2]
    exact r.other (a := ⟨qb, 0, none⟩) (fun k e hh => m4 (e.trans (congrArg some hh))) v4
  · rcases ho _ e with h1 | h1
    · exact p3 h1
    · have := h.v.lt
      simp at h1; omega
/-- what lies there when an odd ring is returned -/
structure SEnd (w X : World) (b n : Nat) (g Ds : List Nat) : Prop where
  r1 : Boxed X b 3 (.int .i64 0)
  r2 : ∃ v l, Boxed X (b + 1) 25 v ∧ QRow X (b + 1 + 1 + 1 + 1 + 1 + 1) 3 1 v l.length (iv l) ∧ OddR g l ∧ ∀ x ∈ l, x < n
  below : Below w.heap.size w X
  marks : Ds.Nodup ∧ ∀ D ∈ Ds, b + 1 + 1 + 1 + 1 + 1 < D ∧ X.heap[D]? = some (.deferred (some []))
theorem SEnd.ag {ex : Nat → Prop} {w X X' : World} {b n : Nat} {g Ds : List Nat} (h : SEnd w X b n g Ds) (hg : Ag ex X X') (he : ∀ k, ex k → w.heap.size ≤ k ∧ k ∉ Ds ∧ ∀ o, X.heap[k]? = some o → o.isCells = false) : SEnd w X' b n g Ds := by
  have nc : ∀ {k : Nat} {o : Obj}, X.heap[k]? = some o → o.isCells = true → ¬ ex k := fun {k o} ho hc hx => by rw [(he k hx).2.2 o ho] at hc; cases hc
  obtain ⟨v, l, q1, q2, q3⟩ := h.r2
  refine ⟨hg.boxed h.r1 (nc h.r1 rfl), ⟨v, l, hg.boxed q1 (nc q1 rfl), hg.qrow q2 (fun k hk => ?_), q3⟩, hg.below h.below h.below.size (fun k hk e => by have := (he k e).1; omega), ⟨h.marks.1, fun D hD => ⟨(h.marks.2 D hD).1, hg.obj (h.marks.2 D hD).2 (fun e => (he D e).2.1 hD)⟩⟩⟩
  obtain ⟨o, ho, hc⟩ := q2.own_cells hk
  exact nc ho hc
def sFr (G b n out f : Nat) (j : Nat → Value) : Array Value :=
  #[.pointer (some ⟨G, 0, none⟩), j 1, .pointer (some ⟨b, 0, none⟩), .pointer (some ⟨b + 1, 0, none⟩), .pointer (some ⟨b + 1 + 1 + 1, 0, none⟩), .pointer (some ⟨b + 1 + 1 + 1 + 1 + 1, 0, none⟩), j 6, .int .i64 (out : Int), j 8, j 9, j 10, j 11, j 12, j 13, j 14, j 15, j 16, j 17, j 18, j 19, j 20, j 21, j 22, j 23, j 24, j 25, j 26, j 27, j 28, j 29, j 30, j 31, j 32, j 33, j 34, j 35, j 36, .int .i64 (n : Int), .int .i64 (f : Int), j 39, j 40, j 41, j 42, j 43, j 44, j 45, j 46, j 47, j 48, j 49, j 50, j 51, j 52, j 53, j 54, j 55, j 56, j 57, j 58, j 59, j 60, j 61, j 62, j 63, j 64, j 65, j 66, j 67, j 68, j 69, j 70, j 71, j 72, j 73, j 74, j 75, j 76, j 77, j 78, j 79, j 80, j 81, j 82, j 83, j 84, j 85, j 86, j 87, j 88, j 89, j 90, j 91, j 92, j 93, j 94, j 95, j 96, j 97, j 98, j 99, j 100, j 101, j 102, j 103, j 104, j 105, j 106, j 107, j 108]
theorem sFr_of {G b n out f : Nat} (t : Array Value) (h : t = sFr G b n out f fun n => t.getD n undef) : ∃ j, t = sFr G b n out f j := ⟨_, h⟩
def sFr2 (G b n out f qb : Nat) (j : Nat → Value) : Array Value :=
  #[.pointer (some ⟨G, 0, none⟩), j 1, .pointer (some ⟨b, 0, none⟩), .pointer (some ⟨b + 1, 0, none⟩), .pointer (some ⟨b + 1 + 1 + 1, 0, none⟩), .pointer (some ⟨b + 1 + 1 + 1 + 1 + 1, 0, none⟩), j 6, .int .i64 (out : Int), j 8, .pointer (some ⟨qb, 0, none⟩), j 10, j 11, j 12, j 13, j 14, j 15, j 16, j 17, j 18, j 19, j 20, j 21, j 22, j 23, j 24, j 25, j 26, j 27, j 28, j 29, j 30, j 31, j 32, j 33, j 34, j 35, j 36, .int .i64 (n : Int), .int .i64 (f : Int), j 39, j 40, j 41, j 42, j 43, j 44, j 45, j 46, j 47, j 48, j 49, j 50, j 51, j 52, j 53, j 54, j 55, j 56, j 57, j 58, j 59, j 60, j 61, j 62, j 63, j 64, j 65, j 66, j 67, j 68, j 69, j 70, j 71, j 72, j 73, j 74, j 75, j 76, j 77, j 78, j 79, j 80, j 81, j 82, j 83, j 84, j 85, j 86, j 87, j 88, j 89, j 90, j 91, j 92, j 93, j 94, j 95, j 96, j 97, j 98, j 99, j 100, j 101, j 102, j 103, j 104, j 105, j 106, j 107, j 108]
theorem sFr2_of {G b n out f qb : Nat} (t : Array Value) (h : t = sFr2 G b n out f qb fun n => t.getD n undef) : ∃ j, t = sFr2 G b n out f qb j := ⟨_, h⟩
def sFr3 (G b n out f qb vb : Nat) (j : Nat → Value) : Array Value :=
  #[.pointer (some ⟨G, 0, none⟩), j 1, .pointer (some ⟨b, 0, none⟩), .pointer (some ⟨b + 1, 0, none⟩), .pointer (some ⟨b + 1 + 1 + 1, 0, none⟩), .pointer (some ⟨b + 1 + 1 + 1 + 1 + 1, 0, none⟩), j 6, .int .i64 (out : Int), j 8, .pointer (some ⟨qb, 0, none⟩), .pointer (some ⟨vb, 0, none⟩), j 11, j 12, j 13, j 14, j 15, j 16, j 17, j 18, j 19, j 20, j 21, j 22, j 23, j 24, j 25, j 26, j 27, j 28, j 29, j 30, j 31, j 32, j 33, j 34, j 35, j 36, .int .i64 (n : Int), .int .i64 (f : Int), j 39, j 40, j 41, j 42, j 43, j 44, j 45, j 46, j 47, j 48, j 49, j 50, j 51, j 52, j 53, j 54, j 55, j 56, j 57, j 58, j 59, j 60, j 61, j 62, j 63, j 64, j 65, j 66, j 67, j 68, j 69, j 70, j 71, j 72, j 73, j 74, j 75, j 76, j 77, j 78, j 79, j 80, j 81, j 82, j 83, j 84, j 85, j 86, j 87, j 88, j 89, j 90, j 91, j 92, j 93, j 94, j 95, j 96, j 97, j 98, j 99, j 100, j 101, j 102, j 103, j 104, j 105, j 106, j 107, j 108]
theorem sFr3_of {G b n out f qb vb : Nat} (t : Array Value) (h : t = sFr3 G b n out f qb vb fun n => t.getD n undef) : ∃ j, t = sFr3 G b n out f qb vb j := ⟨_, h⟩
/-- the outer loop's relation; k bounds the rounds -/
def OI (w : World) (G b n : Nat) (g : List Nat) (k : Nat) (a : Act) (W : World) : Prop :=
  ∃ (out f : Nat) (Ds L : List Nat) (lev : Nat → Nat) (fr : Nat → Option Nat), (∃ j, a.tmps = sFr G b n out f j) ∧ a.defers = marks Ds ∧ SFix w W b n Ds (sideV L lev) (fromV fr) ∧ BSt g n L L.length L.length lev fr out ∧ (∀ y, y < f → y ∈ L) ∧ f ≤ n ∧ n - f ≤ k
/-- the inner loop's -/
def II (w : World) (G b n : Nat) (g : List Nat) (f k : Nat) (a : Act) (W : World) : Prop :=
  ∃ (out qb p : Nat) (Ds L : List Nat) (lev : Nat → Nat) (fr : Nat → Option Nat), (∃ j, a.tmps = sFr2 G b n out f qb j) ∧ a.defers = marks Ds ∧ SFix w W b n Ds (sideV L lev) (fromV fr) ∧ (∃ qv, Boxed W qb 25 qv ∧ QRow W (b + 1 + 1 + 1 + 1 + 1 + 1) 3 1 qv (L.length - p) (iv (L.drop p))) ∧ b + 1 + 1 + 1 + 1 + 1 < qb ∧ BSt g n L p p lev fr out ∧ (∀ y, y < f + 1 → y ∈ L) ∧ n - p ≤ k
end Go.Proofs.YtpknnjcbcndbbaaDoor
namespace Go.Proofs.YtpknnjcbcndbbaaDoor
open Go.RowKit Go.Shelf

/-- what lies in memory while colours are tried -/
structure CBase (W : World) (bl bL bG bO bF G qb qo qc lb lq lc ob n : Nat) (a : Option Addr) (cap len : Nat) (g o : List Nat) (L : Nat → Nat) : Prop where
  kl : Boxed W bl 25 (.slice (some ⟨qb, qo, none⟩) n qc)
  kL : Boxed W bL 82 (.slice (some ⟨lb, lq, none⟩) n lc)
  kG : Boxed W bG 79 (.pointer (some ⟨G, 0, none⟩))
  kO : Boxed W bO 25 (.slice (some ⟨ob, 0, none⟩) n n)
  kF : Boxed W bF 96 (.func (.func 91) #[] #[.pointer (some ⟨bl, 0, none⟩), .pointer (some ⟨bL, 0, none⟩), .pointer (some ⟨bG, 0, none⟩), .pointer (some ⟨bO, 0, none⟩), .pointer (some ⟨bF, 0, none⟩)])
  rl : qb < W.heap.size ∧ ∀ i, i < n → W.cell? ⟨qb, qo + i, none⟩ = some (.int .i64 (nth o i : Nat))
  rL : lb < W.heap.size ∧ ∀ v, v < n → W.cell? ⟨lb, lq + v, none⟩ = some (.int .u64 (L v : Nat))
  gr : GraphAt W G n a cap len g
  tab : Tab W
  hcap : n ≤ qc
  ne : bl ≠ ob ∧ bL ≠ ob ∧ bG ≠ ob ∧ bO ≠ ob ∧ bF ≠ ob ∧ qb ≠ ob ∧ lb ≠ ob ∧ G ≠ ob ∧ 0 ≠ ob
theorem CBase.ag {W W' : World} {bl bL bG bO bF G qb qo qc lb lq lc ob n : Nat} {a : Option Addr} {cap len : Nat} {g o : List Nat} {L : Nat → Nat} (h : CBase W bl bL bG bO bF G qb qo qc lb lq lc ob n a cap len g o L) (hg : Ag (fun k => k = ob) W W') : CBase W' bl bL bG bO bF G qb qo qc lb lq lc ob n a cap len g o L := by
  obtain ⟨n1, n2, n3, n4, n5, n6, n7, n8, n9⟩ := h.ne
  have cell : ∀ (k off : Nat) v, k < W.heap.size → k ≠ ob → W.cell? ⟨k, off, none⟩ = some v → W'.cell? ⟨k, off, none⟩ = some v := fun k off v hk hn hv => (World.cell?_of_block (a := ⟨k, off, none⟩) (hg.block k hk hn)).trans hv
  refine ⟨hg.boxed h.kl n1, hg.boxed h.kL n2, hg.boxed h.kG n3, hg.boxed h.kO n4, hg.boxed h.kF n5, ⟨Nat.lt_of_lt_of_le h.rl.1 hg.size, fun i hi => cell _ _ _ h.rl.1 n6 (h.rl.2 i hi)⟩, ⟨Nat.lt_of_lt_of_le h.rL.1 hg.size, fun i hi => cell _ _ _ h.rL.1 n7 (h.rL.2 i hi)⟩, ⟨Nat.lt_of_lt_of_le h.gr.lt hg.size, cell _ _ _ h.gr.lt n8 h.gr.n, cell _ _ _ h.gr.lt n8 h.gr.e, fun j hj => cell _ _ _ h.gr.lt n8 (h.gr.next j hj)⟩, h.tab.ag hg n9, h.hcap, h.ne⟩
/-- what a trial answers -/
def TryP (g o : List Nat) (L : Nat → Nat) (n ob m : Nat) (c : Nat → Nat) (W : World) (e : Ending) (w' : World) : Prop := ∃ (b : Bool) (c' : Nat → Nat), e = .returned (.bool b) ∧ Ag (fun k => k = ob) W w' ∧ RowB w' ob n (fun v => (c' v : Int)) ∧ (∀ v, c' v < 64) ∧ (∀ i, i < m → c' (nth o i) = c (nth o i)) ∧ (b = true → ColOK g n L c') ∧ (b = false → ¬ ColExt g n o L m c)
theorem TryP.mk {g o : List Nat} {L : Nat → Nat} {n ob m : Nat} {c : Nat → Nat} {W : World} {e : Ending} {w' : World} (b : Bool) (c' : Nat → Nat) (h1 : e = .returned (.bool b)) (h2 : Ag (fun k => k = ob) W w') (h3 : RowB w' ob n (fun v => (c' v : Int))) (h4 : ∀ v, c' v < 64) (h5 : ∀ i, i < m → c' (nth o i) = c (nth o i)) (h6 : b = true → ColOK g n L c') (h7 : b = false → ¬ ColExt g n o L m c) : TryP g o L n ob m c W e w' := ⟨b, c', h1, h2, h3, h4, h5, h6, h7⟩
set_option maxRecDepth 100000 in
set_option maxHeartbeats 8000000 in
theorem try_any {bl bL bG bO bF G qb qo qc lb lq lc ob n : Nat} {a : Option Addr} {cap len : Nat} {g o : List Nat} {L : Nat → Nat} (U : Und g n) (O : OrdOK n o) (hn : n ≤ 16) (hsm : ∀ i : Nat, Sm (g[i]?.getD 0)) (hL : ∀ v, L v < 18446744073709551616) : ∀ (m at' : Nat), at' + m = n → ∀ (W : World) (c : Nat → Nat), CBase W bl bL bG bO bF G qb qo qc lb lq lc ob n a cap len g o L → RowB W ob n (fun v => (c v : Int)) → ColPre g o L at' c → (∀ v, c v < 64) →
    Calls Tryd.prog 91 #[.int .i64 (at' : Int), .pointer (some ⟨bl, 0, none⟩), .pointer (some ⟨bL, 0, none⟩), .pointer (some ⟨bG, 0, none⟩), .pointer (some ⟨bO, 0, none⟩), .pointer (some ⟨bF, 0, none⟩)] W (TryP g o L n ob at' c W)
  | m, at', hat, W, c, hB, hR, hP, hc64 => by
    have HU := Lib.hid U
    have HO := Lib.hid O
    have HSM := Lib.hid hsm
    have HLB := Lib.hid hL
    have HB := Lib.hid hB
    have HR := Lib.hid hR
    have HP := Lib.hid hP
    have HC := Lib.hid hc64
    have c1 := hB.kl.cell
    by_cases hm : m = 0
    · have hae : at' = n := by omega
      have heq : ((at' : Int) == (n : Int)) = true := by rw [hae]; simp
      clear hB hR hP hc64 U O hsm hL
      go_enter Tryd.func91, Tryd.ntmps91
      go_wp2
      go_ret
      refine TryP.mk true c rfl (Ag.refl _ _) HR.out HC.out (fun _ _ => rfl) (fun _ => ?_) (fun h => by cases h)
      exact ColPre.all HU.out HO.out (by rw [← hae]; exact HP.out)
    · have IH : Hid (∀ (W : World) (c : Nat → Nat), CBase W bl bL bG bO bF G qb qo qc lb lq lc ob n a cap len g o L → RowB W ob n (fun v => (c v : Int)) → ColPre g o L (at' + 1) c → (∀ v, c v < 64) →
          Calls Tryd.prog 91 #[.int .i64 ((at' : Int) + 1), .pointer (some ⟨bl, 0, none⟩), .pointer (some ⟨bL, 0, none⟩), .pointer (some ⟨bG, 0, none⟩), .pointer (some ⟨bO, 0, none⟩), .pointer (some ⟨bF, 0, none⟩)] W (TryP g o L n ob (at' + 1) c W)) := fun W c h1 h2 h3 h4 => by
        have := try_any U O hn hsm hL (m - 1) (at' + 1) (by omega) W c h1 h2 h3 h4
        simpa using this
      have hlt : at' < n := by omega
      have heq : ((at' : Int) == (n : Int)) = false := by rw [beq_eq_false_iff_ne]; omega
      have ho := O.lt at' hlt
      obtain ⟨v, hv⟩ : ∃ v, Hid (v = nth o at') := ⟨_, rfl⟩
      have c2 := hB.rl.2 at' hlt
      rw [← hv.out] at c2 ho
      have c3 := hB.kL.cell
      have c4 := hB.rL.2 v ho
      have c5 := hB.kG.cell
      have hv16 : v < 16 := by omega
      have c6 := hB.gr.next v hv16
      obtain ⟨x, hx⟩ : ∃ x, Hid (x = g[v]?.getD 0) := ⟨_, rfl⟩
      rw [← hx.out] at c6
      have hxs : Sm x := by rw [hx.out]; exact hsm v
      have c7 := hB.kO.cell
      have hcap := hB.hcap
      have h0 : (0 : Int) ≤ (at' : Int) := by omega
      have h1 : (at' : Int) < (n : Int) := by omega
      have h2 : (at' : Int) ≤ (qc : Int) := by omega
      have h3 : (v : Int) < (n : Int) := by omega
      have h4 : (0 : Int) ≤ (v : Int) := by omega
      have h5 : (v : Int) < 16 := by omega
      obtain ⟨Lv, hLv⟩ : ∃ Lv, Hid (Lv = L v) := ⟨_, rfl⟩
      rw [← hLv.out] at c4
      clear hB hR hP hc64 U O hsm hL
      go_enter Tryd.func91, Tryd.ntmps91
      go_upto_region 6 with (fail)
      go_loopw [9, 28] (fun s9 s28 wr => ∃ k : Nat, k ≤ at' ∧ s28 = .int .i64 (k : Int) ∧ s9 = .int .u64 (lftK g o L c v k : Nat) ∧ Hid (wr = W)) (fun _ s28 _ => 40 - (intOf s28).toNat)
      case atStart => exact ⟨0, by omega, rfl, by rw [hLv.out]; rfl, rfl⟩
      case round =>
        obtain ⟨k, hk, rfl, rfl, hw⟩ := hrel
        rw [hw.out]
        by_cases hka : k < at'
        · have g1 : (k : Int) < (at' : Int) := by omega
          have g2 : (0 : Int) ≤ (k : Int) := by omega
          have hwn := HO.out.lt k (by omega)
          obtain ⟨u, hu⟩ : ∃ u, Hid (u = nth o k) := ⟨_, rfl⟩
          have d1 := HB.out.rl.2 k (by omega)
          rw [← hu.out] at d1 hwn
          have d2 := HR.out.cell hwn
          have hcu := HC.out u
          have g3 : (u : Int) < (n : Int) := by omega
          have g4 : (0 : Int) ≤ (u : Int) := by omega
          have hwu : IntKind.u64.wrap (u : Int) = (u : Int) := u64_same _ (by omega)
          have hlk : lftK g o L c v k < 18446744073709551616 := Nat.lt_of_le_of_lt (lftK_le g o L c v k) (HLB.out v)
          cases hbit : x.testBit u with
          | false =>
            have hno : Hid (lftK g o L c v (k + 1) = lftK g o L c v k) := by
              unfold Hid
              rw [lftK, if_neg]
              rw [← hu.out, ← hx.out, hbit]; decide
            generalize lftK g o L c v k = left at *
            go_wp2
            exact ⟨⟨k + 1, by omega, int_eq (by omega), by rw [hno.out], Lib.hid trivial⟩, by simp [intOf]; omega⟩
          | true =>
            have hyes : Hid (lftK g o L c v (k + 1) = ldiff (lftK g o L c v k) (2 ^ c u)) := by
              unfold Hid
              rw [lftK, if_pos (by rw [← hu.out, ← hx.out, hbit]), ← hu.out]
            have hba := bandNot64 (lftK g o L c v k) (c u) hlk hcu
            have hwc : IntKind.u64.wrap ((c u : Nat) : Int) = ((c u : Nat) : Int) := u64_same _ (by omega)
            generalize lftK g o L c v k = left at *
            go_wp2
            exact ⟨⟨k + 1, by omega, int_eq (by omega), by rw [hyes.out], Lib.hid trivial⟩, by simp [intOf]; omega⟩
        · have g1 : ¬ (k : Int) < (at' : Int) := by omega
          have hke : k = at' := by omega
          rw [hke]
          clear hke
          go_upto_region 11 with (fail)
          obtain ⟨lft, hlft⟩ : ∃ z, Hid (z = lftK g o L c v at') := ⟨_, rfl⟩
          rw [← hlft.out]
          clear c1 c2 c3 c4 c5 c6 c7
          go_loopw [9] (fun s9 wr => ∃ (left : Nat) (c3 : Nat → Nat), s9 = .int .u64 (left : Int) ∧ Hid ((∀ y, left.testBit y = true → lft.testBit y = true) ∧ (∀ y, lft.testBit y = true → left.testBit y = false → ¬ ColExt g n o L (at' + 1) (setC c v y)) ∧ (∀ y, c3 y < 64) ∧ (∀ i, i < at' → c3 (nth o i) = c (nth o i)) ∧ RowB wr ob n (fun y => (c3 y : Int)) ∧ left < 18446744073709551616) ∧ Hid (Ag (fun k => k = ob) W wr)) (fun s9 _ => (intOf s9).toNat)
          case atStart => exact ⟨lft, c, rfl, ⟨(fun y h => h), (fun y h1 h2 => by rw [h1] at h2; cases h2), HC.out, (fun _ _ => rfl), HR.out, by rw [hlft.out]; exact Nat.lt_of_le_of_lt (lftK_le g o L c v at') (HLB.out v)⟩, Ag.refl _ _⟩
          case round =>
            obtain ⟨left, c3, rfl, hst, hag⟩ := hrel
            by_cases hl0 : left = 0
            · have hb : (((left : Nat) : Int) != 0) = false := by rw [hl0]; rfl
              go_wp2
              go_ret
              refine TryP.mk false c3 rfl hag.out hst.out.2.2.2.2.1 hst.out.2.2.1 hst.out.2.2.2.1 (fun h => by cases h) (fun _ hE => ?_)
              obtain ⟨y, hy1, hy2⟩ := ColExt.step HO.out hlt hE
              rw [← hv.out] at hy1 hy2
              rw [← hlft.out] at hy1
              exact hst.out.2.1 y hy1 (by rw [hl0]; simp) hy2
            · have hb : (((left : Nat) : Int) != 0) = true := by rw [bne_iff_ne]; omega
              have hl64 := hst.out.2.2.2.2.2
              have hlo := (lo_spec hl0 hl64).elim fun _ h => h.2
              have hlb := lo_bit hl0 hl64
              have BW' := HB.out.ag hag.out
              obtain ⟨y, hy⟩ : ∃ y, Hid (y = lo left) := ⟨_, rfl⟩
              rw [← hy.out] at hlo hlb
              have HTZ : Hid (∀ d : BW wr.heap.size wr, Calls Tryd.prog 80 #[.int .u64 (left : Int)] d.w fun e w' => e = .returned (.int .i64 (y : Int)) ∧ ∃ d' : BW wr.heap.size wr, w' = d'.w) := fun d => by
                refine (tz64_any left hl64 hl0 d.w (BW'.tab.below d.b (Nat.le_refl _))).mono ?_
                rintro e w' ⟨h1, h2⟩
                exact ⟨by rw [h1, hy.out]; rfl, d, h2⟩
              have r0 : ∀ d : BW wr.heap.size wr, d.w.cell? ⟨bO, 0, none⟩ = some (.slice (some ⟨ob, 0, none⟩) n n) := fun d => d.cell BW'.kO.lt BW'.kO.cell
              have HBB := Lib.hid BW'
              have HLB2 := Lib.hid hlb
              clear BW' hlb
              go_wp2
              refine wp_region_bw_tail 5 (by kernel_rfl) (by kernel_rfl) ?_
              simp only [List.take_succ_cons, List.take_zero, List.drop_succ_cons, List.drop_zero]
              repeat (go_big_quiet_step ((first
                | rfl
                | (go_at_call 80; exact HTZ.out _))))
              refine wpQuiet_nil ?_
              rintro _ ⟨d, rfl⟩
              clear r0
              have hRD := hst.out.2.2.2.2.1.below d.b hst.out.2.2.2.2.1.lt
              have e1 := hRD.cell ho
              have e2 := hRD.frozen v
              have hagD : Ag (fun k => k = ob) wr (d.w.setCell ⟨ob, v, none⟩ (.int .i64 (y : Int))) := (Ag.of_below d.b).set _ _ (.inr rfl)
              have hCB := HBB.out.ag hagD
              have hR5 : RowB (d.w.setCell ⟨ob, v, none⟩ (.int .i64 (y : Int))) ob n (fun z => ((setC c3 v y) z : Int)) := (hRD.set ho (y : Int)).congr fun z _ => by
                unfold setC; by_cases e : z = v
                · simp [e]
                · simp [e]
              have hlft2 : lft.testBit y = true := hst.out.1 y HLB2.out.1
              have hpre : ColPre g o L (at' + 1) (setC c3 v y) := by
                have h := ColPre.step HO.out hlt HP.out (x := y) (by rw [← hv.out, ← hlft.out]; exact hlft2)
                rw [← hv.out] at h
                refine ColPre.congr h fun i hi => ?_
                unfold setC
                by_cases e : nth o i = v
                · rw [if_pos e, if_pos e]
                · rw [if_neg e, if_neg e]
                  have : i ≠ at' := fun h => e (by rw [h, hv.out])
                  exact hst.out.2.2.2.1 i (by omega)
              have hc5 : ∀ z, setC c3 v y z < 64 := fun z => by
                unfold setC; split
                · exact hlo
                · exact hst.out.2.2.1 z
              have IHC := Lib.hid (IH.out _ _ hCB hR5 hpre hc5)
              have cF := hCB.kF.cell
              have HAD := Lib.hid (hag.out.trans hagD)
              clear hRD hagD hCB hR5 hpre hc5
              go_upto_if 66 with (go_at_call 91; refine (IHC.out).mono ?_; rintro e w6 ⟨b6, c6, rfl, hag6, hR6, hc6, hsm6, ht6, hf6⟩; have HA6 := Lib.hid (HAD.out.trans hag6); have HR6 := Lib.hid hR6; have HC6 := Lib.hid hc6; have HS6 := Lib.hid hsm6; have HT6 := Lib.hid ht6; have HF6 := Lib.hid hf6; clear hag6 hR6 hc6 hsm6 ht6 hf6)
              have hsame : Hid (∀ i, i < at' → c6 (nth o i) = c (nth o i)) := fun i hi => by
                rw [HS6.out i (by omega)]
                unfold setC
                rw [if_neg (by rw [hv.out]; exact HO.out.ne (by omega) hlt (by omega))]
                exact hst.out.2.2.2.1 i hi
              cases b6 with
              | true =>
                go_wp2
                go_ret
                exact TryP.mk true c6 rfl HA6.out HR6.out HC6.out hsame.out (fun _ => by first | exact HT6.out rfl | exact HT6.out trivial) (fun h => by cases h)
              | false =>
                have hsub : left &&& (left - 1) = ldiff left (pw y) := by rw [hy.out]; exact sub_one_and hl0 hl64
                have hlt2 : ldiff left (pw y) < left := by rw [← hsub]; have : left &&& (left - 1) ≤ left - 1 := Nat.and_le_right; omega
                have hw1 : IntKind.u64.wrap ((left : Int) - 1) = ((left - 1 : Nat) : Int) := by rw [show ((left : Int) - 1) = ((left - 1 : Nat) : Int) by omega]; exact u64_same _ (by omega)
                have hand : bits BinOp.and IntKind.u64 (left : Int) (IntKind.u64.wrap ((left : Int) - 1)) = ((ldiff left (pw y) : Nat) : Int) := by rw [hw1, band64 _ _ hl64 (by omega), hsub]
                have hand2 : bits BinOp.and IntKind.u64 (left : Int) ((left : Int) - 1) = ((ldiff left (pw y) : Nat) : Int) := by rw [show ((left : Int) - 1) = ((left - 1 : Nat) : Int) by omega, band64 _ _ hl64 (by omega), hsub]
                clear hw1
                have hst2 : Hid ((∀ z, (ldiff left (pw y)).testBit z = true → lft.testBit z = true) ∧ (∀ z, lft.testBit z = true → (ldiff left (pw y)).testBit z = false → ¬ ColExt g n o L (at' + 1) (setC c v z)) ∧ (∀ z, c6 z < 64) ∧ (∀ i, i < at' → c6 (nth o i) = c (nth o i)) ∧ RowB w6 ob n (fun z => (c6 z : Int)) ∧ ldiff left (pw y) < 18446744073709551616) := by
                  refine ⟨fun z hz => ?_, fun z hz1 hz2 hE => ?_, HC6.out, hsame.out, HR6.out, by omega⟩
                  · rw [testBit_ldiff, Bool.and_eq_true] at hz; exact hst.out.1 z hz.1
                  · rw [testBit_ldiff, pw, Nat.testBit_two_pow] at hz2
                    by_cases e : y = z
                    · subst e
                      refine HF6.out rfl (hE.congr fun i hi => ?_)
                      unfold setC
                      by_cases e : nth o i = v
                      · rw [if_pos e, if_pos e]
                      · rw [if_neg e, if_neg e]
                        have : i ≠ at' := fun h => e (by rw [h, hv.out])
                        exact hst.out.2.2.2.1 i (by omega)
                    · refine hst.out.2.1 z hz1 ?_ hE
                      simpa [e] using hz2
                have HL2 := Lib.hid hlt2
                clear hlt2 hsub
                generalize ldiff left (pw y) = left2 at *
                have hl1 : 1 ≤ left := by omega
                go_wp2
                exact ⟨⟨left2, c6, rfl, hst2, HA6⟩, by have := HL2.out; simp [intOf]; omega⟩
  termination_by m => m
end Go.Proofs.YtpknnjcbcndbbaaDoor
