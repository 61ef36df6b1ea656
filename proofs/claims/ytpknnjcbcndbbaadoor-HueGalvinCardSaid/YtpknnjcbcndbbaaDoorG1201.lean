/- The law's copy of a list; the document's test of an odd ring: walks. A row of integers of the call's own, whatever it holds; and a list of integers, and of lists, as it comes in. Some of a graph's edges; edges that join an even and an odd vertex: plain text, and the law's sided. The law's tame, once more: its list is no longer than its row. Lists of lists of integers: as they come in; as they lie; the law's copy of them. The document's tests of lists: walks. The program's masks of lists: a walk. Hues from lists: the walk. The law's lists filled up: what is counted. -/
import Derived.Test.YtpknnjcbcndbbaaDoorH01
import Derived.Test.YtpknnjcbcndbbaaDoorE01
import Derived.Test.YtpknnjcbcndbbaaDoorLo
import Derived.Test.YtpknnjcbcndbbaaDoorA12
import Derived.Test.YtpknnjcbcndbbaaDoorA06
import Derived.Test.YtpknnjcbcndbbaaDoorA15
set_option linter.unusedVariables false
set_option linter.unusedSimpArgs false
namespace Go.Proofs.YtpknnjcbcndbbaaDoor
open Go.RowKit Go.Shelf

/-- a slice of integers as it comes in -/
structure IntsIn (w : World) (a : Option Addr) (cap : Nat) (xs : List Int) : Prop where
  g : SrcI w a xs.length (fun j => xs[j]?.getD 0)
  fits : xs.length ≤ cap
  capm : cap ≤ maxLen
  nil : a = none → cap = 0
theorem SrcI.take {w : World} {p : Option Addr} {m k : Nat} {f : Nat → Int} (h : SrcI w p m f) (hk : k ≤ m) : SrcI w p k f := fun h0 => by
  obtain ⟨b, o, e, h1, h2⟩ := h (by omega)
  exact ⟨b, o, e, h1, fun j hj => h2 j (by omega)⟩
set_option maxRecDepth 100000 in
set_option maxHeartbeats 2000000 in
theorem list_copy (a : Option Addr) (cap most : Nat) (xs : List Int) (w : World) (hm : most ≤ 1000) (h : IntsIn w a cap xs) :
    Calls Tryd.prog 34 #[.slice a xs.length cap, .int .i64 (most : Int)] w fun e w' => ∃ v, e = .returned v ∧ QRow w' w.heap.size 3 1 v (min xs.length most) (ivI (fun j => xs[j]?.getD 0) (min xs.length most)) ∧ Below w.heap.size w w' := by
  obtain ⟨i0, hi, hz0, hz1, hz2⟩ := info_parts info3
  have HS := Lib.hid ((h.g.take (Nat.min_le_left xs.length most)).src)
  have HONE := Lib.hid (ivI_one (fun j => xs[j]?.getD 0) (min xs.length most))
  have hf := h.fits
  have hcm := h.capm
  have hnil := h.nil
  unfold maxLen at hcm
  obtain ⟨k, hk⟩ : ∃ k, Hid (k = min xs.length most) := ⟨_, rfl⟩
  rw [← hk.out] at HS HONE ⊢
  have hkl : k ≤ xs.length := by rw [hk.out]; exact Nat.min_le_left _ _
  have hkm : k ≤ most := by rw [hk.out]; exact Nat.min_le_right _ _
  have hmin : min (xs.length : Int) (most : Int) = (k : Int) := by rw [hk.out]; omega
  generalize xs.length = len at *
  clear h
  cases a with
  | none =>
    have hc0 : cap = 0 := hnil rfl
    have hk0 : k = 0 := by omega
    clear hnil
    go_enter Tryd.func34, Tryd.ntmps34
    go_wp2
    go_ret
    refine ⟨_, rfl, ?_, Below.refl _ _⟩
    rw [hk0]
    exact QRow.nil _ _ _ _
  | some ad =>
    clear hnil
    go_enter Tryd.func34, Tryd.ntmps34
    go_wp2_with (at_builtin; go_must (refine wpList_append_qq _ rfl (.tmp 6) (.tmp 12) 25 rfl w.heap.size 3 i0 (.int .i64 0) 1 8 Tryd.underlying25 hi hz0 hz1 hz2 rfl (by decide) _ 0 [] rfl (QRow.nil _ _ _ _) (some ad) k cap (ivI (fun j => xs[j]?.getD 0) k) rfl HS.out HONE.out (by unfold maxLen; omega) (by omega) (Nat.le_refl _) ?_); intro v6 w6 hq6 hg6 ho6; have HB6 : Hid (Below w.heap.size w w6) := Below.grown (Below.refl _ w) hg6 (Nat.le_refl _) (fun kk e => by cases e); have HQ6 : Hid (QRow w6 w.heap.size 3 1 v6 k (ivI (fun j => xs[j]?.getD 0) k)) := (by rw [Nat.zero_add, List.nil_append] at hq6; exact hq6); clear hq6 hg6 ho6)
    go_ret
    exact ⟨v6, rfl, HQ6.out, HB6.out⟩
/-- an odd ring is found right -/
theorem nth_lt {l : List Nat} {n i : Nat} (h : ∀ x ∈ l, x < n) (hi : i < l.length) : nth l i < n := by
  unfold nth; rw [List.getElem?_eq_getElem hi]; exact h _ (List.getElem_mem hi)
def ringM (l : List Nat) : Nat → Nat
  | 0 => 0
  | k + 1 => ringM l k ||| pw (nth l k)
theorem ringM_bit (l : List Nat) (x : Nat) : ∀ k, (ringM l k).testBit x = true ↔ ∃ j, j < k ∧ nth l j = x
  | 0 => by simp [ringM]
  | k + 1 => by
    have ih := ringM_bit l x k
    rw [ringM, Nat.testBit_or, pw, Nat.testBit_two_pow, Bool.or_eq_true, ih, decide_eq_true_iff]
    constructor
    · rintro (⟨j, hj, h⟩ | h)
      · exact ⟨j, by omega, h⟩
      · exact ⟨k, by omega, h⟩
    · rintro ⟨j, hj, h⟩
      by_cases e : j = k
      · subst e; exact .inr h
      · exact .inl ⟨j, by omega, h⟩
theorem ringM_sm {l : List Nat} {n : Nat} (h : ∀ x ∈ l, x < n) (hn : n ≤ 16) : ∀ k, k ≤ l.length → Sm (ringM l k)
  | 0, _ => by unfold ringM; exact sm_of (by decide)
  | k + 1, hk => by
    rw [ringM]
    exact sm_or (ringM_sm h hn k (by omega)) (sm_pw (by have := nth_lt h (show k < l.length by omega); omega))
set_option maxRecDepth 100000 in
set_option maxHeartbeats 4000000 in
theorem roddring_true (n : Nat) (a : Option Addr) (cap : Nat) (p : Option Addr) (c : Nat) (g l : List Nat) (w : World) (hl : g.length = n) (hn : n ≤ 16) (hsm : ∀ i : Nat, Sm (g[i]?.getD 0)) (hg : Sets w a g) (hO : OddR g l) (hln : ∀ x ∈ l, x < n) (hs : SrcI w p l.length (fun j => (nth l j : Nat))) :
    Calls Tryd.prog 36 #[.slice a n cap, .slice p l.length c] w fun e w' => e = .returned (.bool true) ∧ Below w.heap.size w w' := by
  have hlen : l.length ≤ 16 := by
    have := nodup_sub l (List.range n) hO.nd (fun x hx => List.mem_range.2 (hln x hx))
    rw [List.length_range] at this; omega
  have hl3 := hO.len
  have hodd := hO.odd
  obtain ⟨b, off, rfl, hb, hc⟩ := hg
  have HC := Lib.hid hc
  have HS := Lib.hid hsm
  have HLN := Lib.hid hl
  have HOD := Lib.hid hO
  have HLT := Lib.hid hln
  obtain ⟨lb, lo, rfl, hlb, hlc⟩ := hs (by omega)
  have HLC := Lib.hid hlc
  clear hc hsm hl hO hln hlc hs
  obtain ⟨m, hm⟩ : ∃ m, Hid (m = l.length) := ⟨_, rfl⟩
  rw [← hm.out] at hlen hl3 hodd HLC ⊢
  have t1 : decide ((m : Int) < 3) = false := decide_eq_false (by omega)
  have t2 : ((m : Int) % 2 == 0) = false := by rw [beq_eq_false_iff_ne]; omega
  go_enter Tryd.func36, Tryd.ntmps36
  go_upto_region 5 with (fail)
  go_loopw [5, 6] (fun s5 s6 wr => ∃ k : Nat, k ≤ m ∧ s6 = .int .i64 (k : Int) ∧ s5 = .int .i64 (ringM l k : Nat) ∧ Hid (wr = w)) (fun _ s6 _ => 40 - (intOf s6).toNat)
  case atStart => exact ⟨0, by omega, rfl, rfl, rfl⟩
  case round =>
    obtain ⟨k, hk, rfl, rfl, hw⟩ := hrel
    rw [hw.out]
    by_cases hkm : k < m
    · have g1 : (k : Int) < (m : Int) := by omega
      have g0 : (0 : Int) ≤ (k : Int) := by omega
      have k1 : w.cell? ⟨lb, lo + k, none⟩ = some (.int .i64 (nth l k : Nat)) := HLC.out k hkm
      have hxn := nth_lt HLT.out (show k < l.length by rw [← hm.out]; exact hkm)
      have hsm := ringM_sm HLT.out hn k (by rw [← hm.out]; omega)
      have HNX : Hid (ringM l (k + 1) = ringM l k ||| pw (nth l k)) := rfl
      have hno : (ringM l k).testBit (nth l k) = false := by
        cases hb : (ringM l k).testBit (nth l k) with
        | false => rfl
        | true =>
          obtain ⟨j, hj, e⟩ := (ringM_bit l _ k).1 hb
          have := nth_nd HOD.out.nd (show j < l.length by rw [← hm.out]; omega) (show k < l.length by rw [← hm.out]; exact hkm) e
          omega
      generalize ringM l k = rm at *
      generalize nth l k = x at *
      have hx0 : (0 : Int) ≤ (x : Int) := by omega
      have t3 : decide ((x : Int) < 0) = false := decide_eq_false (by omega)
      have t4 : decide ((n : Int) ≤ (x : Int)) = false := decide_eq_false (by omega)
      have hx20 : x < 20 := by omega
      have hpx : wrap64 (2 ^ x) = ((pw x : Nat) : Int) := pw_cast _ (by omega)
      have hspx : Sm (pw x) := sm_pw (by omega)
      go_wp2
      exact ⟨⟨k + 1, by omega, int_eq (by omega), by rw [HNX.out], Lib.hid trivial⟩, by simp [intOf]; omega⟩
    · have g1 : ¬ (k : Int) < (m : Int) := by omega
      clear g1
      have g1 : ¬ (k : Int) < (m : Int) := by omega
      go_upto_region 11 with (fail)
      go_loopw [7] (fun s7 wr2 => ∃ i : Nat, i ≤ m ∧ s7 = .int .i64 (i : Int) ∧ Hid (Below w.heap.size w wr2)) (fun s7 _ => 40 - (intOf s7).toNat)
      case atStart => exact ⟨0, by omega, rfl, Below.refl _ _⟩
      case round =>
        obtain ⟨i, hi, rfl, hB⟩ := hrel
        by_cases him : i < m
        · have g2 : (i : Int) < (m : Int) := by omega
          have g0 : (0 : Int) ≤ (i : Int) := by omega
          have hnx : (i + 1) % m < m := Nat.mod_lt _ (by omega)
          have k1 : wr.cell? ⟨lb, lo + i, none⟩ = some (.int .i64 (nth l i : Nat)) := (hB.out.cell (p := ⟨lb, lo + i, none⟩) hlb).trans (HLC.out i him)
          have k2 : wr.cell? ⟨lb, lo + (i + 1) % m, none⟩ = some (.int .i64 (nth l ((i + 1) % m) : Nat)) := (hB.out.cell (p := ⟨lb, lo + (i + 1) % m, none⟩) hlb).trans (HLC.out _ hnx)
          have hxn := nth_lt HLT.out (show i < l.length by rw [← hm.out]; exact him)
          have hyn := nth_lt HLT.out (show (i + 1) % m < l.length by rw [← hm.out]; exact hnx)
          have k3 := (hB.out.cell (p := ⟨b, off + nth l i, none⟩) hb).trans (HC.out (nth l i) (by rw [HLN.out]; exact hxn))
          have hgk := HS.out (nth l i)
          have hbit : (g[nth l i]?.getD 0).testBit (nth l ((i + 1) % m)) = true := by
            have := HOD.out.edge i (by rw [← hm.out]; exact him)
            rw [← hm.out] at this
            exact this
          have hmi : ((i : Int) + 1) % (m : Int) = (((i + 1) % m : Nat) : Int) := by simp
          generalize (i + 1) % m = i2 at *
          generalize g[nth l i]?.getD 0 = z at *
          generalize nth l i = x at *
          generalize nth l i2 = y at *
          have e1 : (x : Int) < (n : Int) := by omega
          have e2 : (0 : Int) ≤ (x : Int) := by omega
          have e3 : (i2 : Int) < (m : Int) := by omega
          have e4 : (0 : Int) ≤ (i2 : Int) := by omega
          have e5 : (0 : Int) ≤ (y : Int) := by omega
          have e6 : y < 20 := by omega
          have e7 : ((m : Nat) : Int) ≠ 0 := by omega
          go_upto_region 13 with (fail)
          go_region
          go_wp2
          exact ⟨⟨i + 1, by omega, int_eq (by omega), hB.out.drew⟩, by simp [intOf]; omega⟩
        · have g2 : ¬ (i : Int) < (m : Int) := by omega
          go_wp2
          go_ret
          exact ⟨rfl, hB.out⟩
end Go.Proofs.YtpknnjcbcndbbaaDoor
namespace Go.Proofs.YtpknnjcbcndbbaaDoor
open Go.ChangeShapes Go.WideShapes Go.ChangeAt Go.RowKit

def slen : Value → Nat
  | .slice _ n _ => n
  | _ => 0
def IntRow (W : World) (N : Nat) (v : Value) (m : Nat) : Prop := ∃ f : Nat → Int, QRow W N 3 1 v m (ivI f m)
theorem QRow.cut {w : World} {base : Nat} {e : TypeId} {size : Nat} {p : Option Addr} {m c k : Nat} {xs : List Value} (h : QRow w base e size (.slice p m c) m xs) (hk : k ≤ m) : QRow w base e size (.slice p k c) k (xs.take (k * size)) := by
  have hks : k * size ≤ m * size := Nat.mul_le_mul_right _ hk
  refine ⟨by rw [List.length_take, h.1]; omega, ?_⟩
  rcases h.2 with ⟨e0, h0⟩ | ⟨g, o, cap, cur, e1, hb, hg, h1, h2, h3, h4⟩
  · cases e0; exact .inl ⟨by rw [show k = 0 by omega], by omega⟩
  · cases e1
    exact .inr ⟨g, o, c, cur, rfl, hb, hg, by omega, h2, h3, fun j hj => by rw [h4 j (by omega), List.getElem?_take, if_pos hj]⟩
theorem QRow.cap {w : World} {base : Nat} {e : TypeId} {size : Nat} {p : Option Addr} {m c : Nat} {xs : List Value} (h : QRow w base e size (.slice p m c) m xs) : m ≤ c ∧ c ≤ maxLen := by
  rcases h.2 with ⟨e0, h0⟩ | ⟨g, o, cap, cur, e1, hb, hg, h1, h2, _⟩
  · cases e0; exact ⟨Nat.le_refl _, by decide⟩
  · cases e1; exact ⟨h1, h2⟩
theorem ivI_take (f : Nat → Int) {k m : Nat} (hk : k ≤ m) : (ivI f m).take k = ivI f k := by
  unfold ivI
  rw [← List.map_take, List.take_range, Nat.min_eq_left hk]
theorem ivI_set (f : Nat → Int) {j m : Nat} (z : Int) : (ivI f m).set j (.int .i64 z) = ivI (fun i => if i = j then z else f i) m := by
  refine List.ext_getElem? fun i => ?_
  rw [List.getElem?_set]
  by_cases hi : i < m
  · rw [ivI_get _ m i hi, ivI_get _ m i hi]
    by_cases e : j = i
    · subst e; rw [ivI_len, if_pos rfl, if_pos hi, if_pos rfl]
    · rw [if_neg e, if_neg (Ne.symm e)]
  · rw [List.getElem?_eq_none (by rw [ivI_len]; omega), List.getElem?_eq_none (by rw [ivI_len]; omega), ivI_len]
    by_cases e : j = i
    · rw [if_pos e, if_neg (by omega)]
    · rw [if_neg e]
theorem ivI_push (f : Nat → Int) (m : Nat) (z : Int) : ivI f m ++ [.int .i64 z] = ivI (fun i => if i = m then z else f i) (m + 1) := by
  refine List.ext_getElem? fun i => ?_
  by_cases hi : i < m
  · rw [List.getElem?_append_left (by rw [ivI_len]; omega), ivI_get _ m i hi, ivI_get _ (m + 1) i (by omega), if_neg (by omega)]
  · rw [List.getElem?_append_right (by rw [ivI_len]; omega), ivI_len]
    by_cases e : i = m
    · subst e; rw [ivI_get _ (i + 1) i (by omega), if_pos rfl, Nat.sub_self]; rfl
    · rw [List.getElem?_eq_none (by simp; omega), List.getElem?_eq_none (by rw [ivI_len]; omega)]
theorem IntRow.take {W : World} {N : Nat} {p : Option Addr} {m c k : Nat} (h : IntRow W N (.slice p m c) m) (hk : k ≤ m) : IntRow W N (.slice p k c) k := by
  obtain ⟨f, h⟩ := h
  have := h.cut hk
  rw [Nat.mul_one, ivI_take f hk] at this
  exact ⟨f, this⟩
theorem IntRow.put {W : World} {N g o m c j : Nat} (h : IntRow W N (.slice (some ⟨g, o, none⟩) m c) m) (hj : j < m) (z : Int) : IntRow (W.setCell ⟨g, o + j, none⟩ (.int .i64 z)) N (.slice (some ⟨g, o, none⟩) m c) m := by
  obtain ⟨f, h⟩ := h
  have := h.set j (by omega) (.int .i64 z)
  rw [ivI_set f z] at this
  exact ⟨_, this⟩
theorem IntRow.lt {W : World} {N : Nat} {v : Value} {m : Nat} (h : IntRow W N v m) : ∀ k, v.ownBlock = some k → N ≤ k ∧ k < W.heap.size := by
  obtain ⟨f, h⟩ := h
  exact h.lt
theorem IntRow.below {W W' : World} {N n : Nat} {v : Value} {m : Nat} (h : IntRow W N v m) (hB : Below n W W') (hn : W.heap.size ≤ n) : IntRow W' N v m := by
  obtain ⟨f, h⟩ := h
  exact ⟨f, h.below hB fun k hk => Nat.lt_of_lt_of_le (h.lt k hk).2 hn⟩
theorem IntRow.cap {W : World} {N : Nat} {p : Option Addr} {m c : Nat} (h : IntRow W N (.slice p m c) m) : m ≤ c ∧ c ≤ maxLen := by
  obtain ⟨f, h⟩ := h
  exact h.cap
theorem IntRow.isSlice {W : World} {N : Nat} {v : Value} {m : Nat} (h : IntRow W N v m) : ∃ p c, v = .slice p m c := by
  obtain ⟨f, h⟩ := h
  exact h.isSlice
theorem open_ints_in {H : Type} {enc : TypeId × Value → H} {W : World} {a : Option Addr} {len cap : Nat} {d : DataW H} {p : List MemPlace}
    (h : ∃ fuel, DataW.trod enc Tryd.prog W 0 (fun _ => true) true fuel 25 (Value.slice a len cap).cells.toList = some (d, p)) : ∃ xs : List Int, IntsIn W a cap xs ∧ len = xs.length := by
  obtain ⟨fuel, hf⟩ := h
  rcases Go.ChangeShapes.open_ints Tryd.underlying25 Tryd.underlying3 cells3 hf with ⟨hcs, _⟩ | ⟨x, l, c, zs, hcs, _, hl, hm, hz, _, hcell, hwz⟩
  · simp [Value.cells] at hcs
    obtain ⟨rfl, rfl, rfl⟩ := hcs
    exact ⟨[], ⟨fun e => absurd rfl e, Nat.le_refl _, by decide, fun _ => rfl⟩, rfl⟩
  · simp [Value.cells] at hcs
    obtain ⟨rfl, rfl, rfl⟩ := hcs
    have hzl : zs.length = cap := by simpa using hz
    have hlen : (zs.take len).length = len := by rw [List.length_take]; omega
    refine ⟨zs.take len, ⟨fun hne => ?_, by rw [hlen]; exact hl, hm, fun e => (by cases e)⟩, hlen.symm⟩
    obtain ⟨b, off, sp⟩ := x
    have hc0 := hcell 0 (by omega)
    have hsp : sp = none := by
      unfold World.cell? at hc0
      cases sp with
      | none => rfl
      | some s =>
        simp [Addr.add] at hc0
        split at hc0 <;> simp_all
    subst hsp
    refine ⟨b, off, rfl, ?_, fun j hj => ?_⟩
    · obtain ⟨o, ho, _⟩ := cells_of_cell hc0
      exact (Array.getElem?_eq_some_iff.1 ho).1
    · rw [hlen] at hj
      have := hcell j (by omega)
      rw [Addr.add_lit] at this
      rw [this]; simp [List.getElem?_take, hj, List.getD_eq_getElem?_getD]
end Go.Proofs.YtpknnjcbcndbbaaDoor
namespace Go.Proofs.YtpknnjcbcndbbaaDoor
open Go.RowKit Go.Shelf

/-- before, by the first number, then by the second -/
def Lx (p q : Int × Int) : Prop := p.1 < q.1 ∨ (p.1 = q.1 ∧ p.2 < q.2)
theorem edgesB_iff {n : Int} {ps : List (Int × Int)} : edgesB n ps = true ↔ (∀ e ∈ ps, 0 ≤ e.1 ∧ e.1 < e.2 ∧ e.2 < n) ∧ ps.Pairwise Lx := by
  constructor
  · intro h
    refine ⟨edgesB_mem h, ?_⟩
    rw [List.pairwise_iff_getElem]
    intro i j hi hj hij
    have := edgesB_lt h (j - i - 1) i (by omega)
    rw [show i + (j - i - 1 + 1) = j by omega, List.getElem?_eq_getElem hi, List.getElem?_eq_getElem hj] at this
    exact this
  · rintro ⟨h1, h2⟩
    unfold edgesB
    rw [List.all_eq_true]
    intro k hk
    rw [List.mem_range] at hk
    have g1 := h1 ps[k] (List.getElem_mem hk)
    unfold badAt
    rw [List.getElem?_eq_getElem hk]
    simp only [Option.getD_some]
    by_cases h0 : 0 < k
    · have g2 := (List.pairwise_iff_getElem.1 h2) (k - 1) k (by omega) hk (by omega)
      rw [List.getElem?_eq_getElem (show k - 1 < ps.length by omega)]
      unfold Lx at g2
      simp only [Option.getD_some]
      simp
      omega
    · simp
      omega
theorem edgesB_sub {n : Int} {ps qs : List (Int × Int)} (hs : qs.Sublist ps) (h : edgesB n ps = true) : edgesB n qs = true := by
  obtain ⟨h1, h2⟩ := edgesB_iff.1 h
  exact edgesB_iff.2 ⟨fun e he => h1 e (hs.subset he), h2.sublist hs⟩
theorem ofE_two {n : Nat} {ps : List (Int × Int)} {s : Nat} (h : edgesB n ps = true) (ho : ∀ e ∈ ps, s.testBit e.1.toNat ≠ s.testBit e.2.toNat) : TwoCol (ofE n ps) s := fun x y ha => by
  obtain ⟨e, he, h1 | h1⟩ := (adj_ofE h x y).1 ha
  · rw [← h1.1, ← h1.2]; exact ho e he
  · rw [← h1.1, ← h1.2]; exact (ho e he).symm
def evens : Nat := 21845
theorem evens_bit {x : Nat} (hx : x < 16) : evens.testBit x = decide (x % 2 = 0) := by
  have : ∀ x, x < 16 → evens.testBit x = decide (x % 2 = 0) := by decide
  exact this x hx
def oddSum (q : Int × Int) : Bool := (q.1 + q.2) % 2 == 1
theorem odd_two {n : Nat} {ps : List (Int × Int)} (hn : n ≤ 16) (h : edgesB n ps = true) (ho : ∀ e ∈ ps, oddSum e = true) : TwoCol (ofE n ps) evens :=
  ofE_two h fun e he => by
    have h1 := edgesB_mem h e he
    have h2 := ho e he
    unfold oddSum at h2
    rw [beq_iff_eq] at h2
    rw [evens_bit (by omega), evens_bit (by omega)]
    intro hc
    rw [decide_eq_decide] at hc
    omega
set_option maxRecDepth 100000 in
set_option maxHeartbeats 2000000 in
theorem sided_any (n : Int) (a : Option Addr) (cap : Nat) (ps : List (Int × Int)) (most : Nat) (w : World) (h : PairsIn w a cap ps) (hm1 : 1 ≤ most) (hm2 : most ≤ 16) :
    Calls Tryd.prog 31 #[.int .i64 n, .slice a ps.length cap, .int .i64 most] w fun e w' => ∃ (m : Nat) (qs : List (Int × Int)) (a' : Option Addr) (c' : Nat), e = .returned (.tuple #[.int .i64 m, .slice a' qs.length c']) ∧ m ≤ most ∧ Good m qs a' w' ∧ TwoCol (ofE m qs) evens ∧ Below w.heap.size w w' := by
  obtain ⟨i0, hi, hz0, hz1, hz2⟩ := info_parts info49
  have HTM := Lib.hid (tame_any n a cap ps most w h hm1 hm2)
  clear h
  go_enter Tryd.func31, Tryd.ntmps31
  go_upto_region 2 with (go_at_call 14; refine (HTM.out).mono ?_; rintro e w1 ⟨m, qs, a1, c1, rfl, hm, hG1, hB1⟩; have HG1 := Lib.hid hG1; have HB1 := Lib.hid hB1; clear hG1 hB1)
  have hlen := HG1.out.hl
  clear HTM
  go_upto_region 4 with (fail)
  go_loopw [9, 10] (fun s9 s10 wr => ∃ (j : Nat) (os : List (Int × Int)), j ≤ qs.length ∧ s10 = .int .i64 (j : Int) ∧ Hid (os = (qs.take j).filter oddSum) ∧ QRow wr w1.heap.size 72 2 s9 os.length (pairCells os) ∧ Hid (Below w1.heap.size w1 wr)) (fun _ s10 _ => qs.length - (intOf s10).toNat)
  case atStart => exact ⟨0, [], by omega, rfl, rfl, QRow.nil _ _ _ _, Below.refl _ _⟩
  case round =>
    obtain ⟨j, os, hj, rfl, hos, hq, hB⟩ := hrel
    obtain ⟨p9, c9, rfl⟩ := hq.isSlice
    by_cases hjl : j < qs.length
    · have h1 : (j : Int) < (qs.length : Int) := by omega
      have h0 : (0 : Int) ≤ (j : Int) := by omega
      obtain ⟨eb, eo, rfl, helt, hec⟩ := HG1.out.hg (fun e => by rw [e] at hjl; simp at hjl)
      have hk0 := hec j hjl
      have he := edgesB_at HG1.out.ok j hjl
      obtain ⟨x, hx⟩ := Int.eq_ofNat_of_zero_le he.1
      obtain ⟨y, hy⟩ := Int.eq_ofNat_of_zero_le (show 0 ≤ (qs[j]?.getD (0, 0)).2 by omega)
      have hn16 := HG1.out.n2
      have hqe : qs[j]?.getD (0, 0) = ((x : Int), (y : Int)) := Prod.ext hx hy
      have htk : (qs.take (j + 1)).filter oddSum = os ++ (if oddSum ((x : Int), (y : Int)) = true then [((x : Int), (y : Int))] else []) := by
        rw [List.take_succ_eq_append_getElem hjl, List.filter_append, hos.out]
        have e : qs[j] = ((x : Int), (y : Int)) := by rw [← hqe, List.getElem?_eq_getElem hjl]; rfl
        rw [e]
        congr 1
        simp only [List.filter_cons, List.filter_nil]
      rw [hqe] at hk0 he
      have hosl : os.length ≤ j := by
        rw [hos.out]
        exact Nat.le_trans (List.length_filter_le _ _) (by rw [List.length_take]; omega)
      have k1 := (hB.out.cell (p := ⟨eb, eo + j * 2, none⟩) helt).trans hk0.1
      have k2 := (hB.out.cell (p := ⟨eb, eo + j * 2 + 1, none⟩) helt).trans hk0.2
      have HTK := Lib.hid htk
      have HQ := Lib.hid hq
      have hsz := hB.out.size
      have hsz1 := HB1.out.size
      have hx16 : x < 16 := by simp only at he; omega
      have hy16 : y < 16 := by simp only at he; omega
      clear hec hk0 he hx hy hqe htk hq
      simp only at k1 k2
      have K1 := Lib.hid k1
      have K2 := Lib.hid k2
      by_cases hod : ((x : Int) + (y : Int)) % 2 = 1
      · have ho : oddSum ((x : Int), (y : Int)) = true := by unfold oddSum; rw [beq_iff_eq]; exact hod
        have HNX : Hid (os ++ [((x : Int), (y : Int))] = (qs.take (j + 1)).filter oddSum) := by rw [Hid, HTK.out, if_pos ho]
        have e1 : (((x : Int) + (y : Int)) % 2 == 1) = true := by rw [beq_iff_eq]; exact hod
        clear ho hod HTK
        go_upto_region 6 with (fail)
        go_region
        clear k1 k2
        have hBD : Below w1.heap.size w1 wr.drew := hB.out.drew
        have HBD := Lib.hid hBD
        have hk1 : wr.drew.cell? ⟨eb, eo + j * 2, none⟩ = some (.int .i64 (x : Int)) := K1.out
        have hk2 : wr.drew.cell? ⟨eb, eo + j * 2 + 1, none⟩ = some (.int .i64 (y : Int)) := K2.out
        have HQD : Hid (QRow wr.drew w1.heap.size 72 2 (.slice p9 os.length c9) os.length (pairCells os)) := HQ.out
        have hszd : w1.heap.size ≤ wr.drew.heap.size := hsz
        generalize wr.drew = Z at *
        have hqa := HQD.out.alloc (.cells #[.int .i64 (x : Int), .int .i64 (y : Int)] 72)
        have HQA := Lib.hid hqa
        have HLT := Lib.hid (fun k e => (hqa.lt k e).1)
        clear hqa hBD
        go_wp2_with (at_builtin; go_must (refine wpList_append_q _ rfl (.tmp 37) (.tmp 42) 22 rfl w1.heap.size 72 i0 _ 2 16 Tryd.underlying22 hi hz0 hz1 hz2 rfl (by decide) _ os.length (pairCells os) rfl HQA.out ⟨Z.heap.size, 0, none⟩ 1 1 [.int .i64 (x : Int), .int .i64 (y : Int)] rfl rfl (cells_newB _ _ _ _) (by simp [Value.oneCell']) (by unfold maxLen; omega) (by omega) (by simp; omega) ?_); intro v' w' hq' hgr hbl; have HQ' : Hid (QRow w' w1.heap.size 72 2 v' (os ++ [((x : Int), (y : Int))]).length (pairCells (os ++ [((x : Int), (y : Int))]))) := (by rw [Hid, List.length_append, pairCells_snoc]; exact hq'); have HB' : Hid (Below w1.heap.size w1 w') := Below.grown (HBD.out.alloc hszd _) hgr (by simp; omega) (fun k hk => HLT.out k hk); clear hq' hgr hbl)
        exact ⟨⟨j + 1, _, by omega, int_eq (by omega), HNX, HQ'.out, HB'⟩, by simp [intOf]; omega⟩
      · have ho : ¬ oddSum ((x : Int), (y : Int)) = true := by unfold oddSum; rw [beq_iff_eq]; exact hod
        have HNX : Hid (os = (qs.take (j + 1)).filter oddSum) := by rw [Hid, HTK.out, if_neg ho, List.append_nil]
        have e1 : (((x : Int) + (y : Int)) % 2 == 1) = false := by rw [beq_eq_false_iff_ne]; exact hod
        clear ho hod HTK
        go_upto_region 6 with (fail)
        go_region
        go_wp2
        exact ⟨⟨j + 1, os, by omega, int_eq (by omega), HNX, HQ.out, hB.out.drew⟩, by simp [intOf]; omega⟩
    · have h1 : ¬ (j : Int) < (qs.length : Int) := by omega
      have hje : j = qs.length := by omega
      have HO : Hid (os = qs.filter oddSum) := by rw [Hid, hos.out, hje, List.take_length]
      have HQ := Lib.hid hq
      clear hq hje
      go_wp2
      refine bodyPost_ret (v := .tuple #[.int .i64 (m : Nat), .slice p9 os.length c9]) (by simp [results, Tryd.f31, go_sem]) rfl ?_
      have hok : edgesB m os = true := by rw [HO.out]; exact edgesB_sub List.filter_sublist HG1.out.ok
      have hle : os.length ≤ qs.length := by rw [HO.out]; exact List.length_filter_le _ _
      refine ⟨m, os, p9, ⟨c9, rfl⟩, hm, ⟨by omega, fun hne => ?_, HG1.out.n1, HG1.out.n2, hok⟩, odd_two HG1.out.n2 hok (fun e he => ?_), HB1.out.trans (hB.out.mono HB1.out.size)⟩
      · obtain ⟨gb, o, cap', e, h1, h2, h3, h4, h5, h6⟩ := HQ.out.at (List.length_pos_iff.2 hne)
        cases e
        refine ⟨gb, o, rfl, h2, fun j hj => ?_⟩
        have := pairCells_get os j hj
        exact ⟨(h5 (j * 2) (by omega)).trans this.1, (h5 (j * 2 + 1) (by omega)).trans this.2⟩
      · rw [HO.out] at he; exact (List.mem_filter.1 he).2
end Go.Proofs.YtpknnjcbcndbbaaDoor
namespace Go.Proofs.YtpknnjcbcndbbaaDoor
open Go.RowKit Go.Shelf

set_option maxHeartbeats 1000000 in
set_option maxRecDepth 100000 in
theorem listed_cap (a : Option Addr) (cap : Nat) (g : List Nat) (w : World) (hl : g.length ≤ 16) (hsm : ∀ i : Nat, Sm (g[i]?.getD 0)) (hg : Sets w a g) :
    Calls Tryd.prog 51 #[.slice a g.length cap] w fun e w' => ∃ (ps : List (Int × Int)) (a' : Option Addr) (c' : Nat), e = .returned (.slice a' ps.length c') ∧ Pairs w' a' ps ∧ edgesB g.length ps = true ∧ ps.length ≤ 400 ∧ Below w.heap.size w w' ∧ ps.length ≤ c' ∧ c' ≤ maxLen := by
  obtain ⟨i0, hi, hz0, hz1, hz2⟩ := info_parts info49
  obtain ⟨b, off, rfl, hb, hc⟩ := hg
  generalize hlen : g.length = n at *
  have HL := Lib.hid hlen
  clear hlen
  have HC := Lib.hid hc
  have HS := Lib.hid hsm
  clear hc hsm
  go_enter Tryd.func51, Tryd.ntmps51
  go_wp2
  go_loopw [3, 4, 5] (fun v s4 s5 wr => ∃ i : Nat, i ≤ n ∧ s4 = .int .i64 i ∧ LiOut w wr n i 0 v) (fun _ s4 _ _ => n - (intOf s4).toNat)
  case atStart => exact ⟨0, Nat.zero_le _, rfl, [], QRow.nil _ _ _ _, Nat.zero_le _, rfl, LastLt.nil _ _, Below.refl _ _⟩
  case round =>
    obtain ⟨i, hin, rfl, hli⟩ := hrel
    obtain ⟨wo, hwo⟩ : ∃ wo : World, wo = wr := ⟨_, rfl⟩
    by_cases hil : i < n
    · go_wp2
      go_loopw [3, 5] (fun v s5 wr => ∃ j : Nat, i < j ∧ j ≤ n ∧ s5 = .int .i64 j ∧ LiOut w wr n i j v) (fun _ s5 _ => n - (intOf s5).toNat)
      case atStart => exact ⟨i + 1, by omega, by omega, by go_num, hli.start _⟩
      case round =>
        obtain ⟨j, hij, hjn, rfl, hlj⟩ := hrel
        by_cases hjl : j < n
        · have hci := (hlj.below.cell (p := ⟨b, off + i, none⟩) hb).trans (HC.out i hil)
          have hgi := HS.out i
          generalize g[i]?.getD 0 = gi at hci hgi
          obtain ⟨ps, q1, q2, q3, q4, q5⟩ := hlj
          have HQ3 := Lib.hid q3
          have HQ4 := Lib.hid q4
          clear q3 q4 hli
          have hsz := q5.size
          go_wp2_with (at_builtin; go_must (refine wpList_append_q _ rfl (.tmp 28) (.tmp 32) 22 rfl w.heap.size 72 i0 _ 2 16 Tryd.underlying22 hi hz0 hz1 hz2 rfl (by decide) _ ps.length (pairCells ps) rfl (q1.alloc _) ⟨wr.heap.size, 0, none⟩ 1 1 [.int .i64 (i : Int), .int .i64 (j : Int)] rfl rfl (cells_newB _ _ _ _) (by simp [Value.oneCell']) (by unfold maxLen; omega) (by omega) (by simp; omega) ?_); intro v' w' hq hgr hbl)
          · have hb1 : (gi.testBit j) = true := by assumption
            refine ⟨⟨j + 1, by omega, by omega, by go_num, ps ++ [((i : Int), (j : Int))], ?_, ?_, edgesB_snoc HQ3.out HQ4.out hij hjl, LastLt.snoc _ _ _, ?_⟩, by simp [intOf]; omega⟩
            · rw [pairCells_snoc, List.length_append]; exact hq
            · simp; omega
            · exact Below.grown (q5.alloc hsz _) hgr (by simp; omega) (fun k hk => (q1.lt k hk).1)
          · exact ⟨⟨j + 1, by omega, by omega, by go_num, LiOut.next ⟨ps, q1, q2, HQ3.out, HQ4.out, q5⟩⟩, by simp [intOf]; omega⟩
        · go_wp2
          exact ⟨⟨i + 1, by omega, by go_num, hlj.row (by omega) 0⟩, by simp [intOf]; omega⟩
    · go_wp2
      obtain ⟨ps, q1, q2, q3, q4, q5⟩ := hli
      obtain ⟨p, c, rfl⟩ := q1.isSlice
      go_ret
      refine ⟨ps, p, c, rfl, fun hne => ?_, q3, by omega, q5, q1.cap.1, q1.cap.2⟩
      obtain ⟨gb, o, cap', e, h1, h2, h3, h4, h5, h6⟩ := q1.at (List.length_pos_iff.2 hne)
      cases e
      refine ⟨gb, o, rfl, h2, fun j hj => ?_⟩
      have := pairCells_get ps j hj
      exact ⟨(h5 (j * 2) (by omega)).trans this.1, (h5 (j * 2 + 1) (by omega)).trans this.2⟩
set_option maxRecDepth 100000 in
set_option maxHeartbeats 2000000 in
theorem tame_cap (n : Int) (a : Option Addr) (cap : Nat) (ps : List (Int × Int)) (most : Nat) (w : World) (h : PairsIn w a cap ps) (hm1 : 1 ≤ most) (hm2 : most ≤ 16) :
    Calls Tryd.prog 14 #[.int .i64 n, .slice a ps.length cap, .int .i64 most] w fun e w' => ∃ (m : Nat) (qs : List (Int × Int)) (a' : Option Addr) (c' : Nat), e = .returned (.tuple #[.int .i64 m, .slice a' qs.length c']) ∧ m ≤ most ∧ Good m qs a' w' ∧ Below w.heap.size w w' ∧ qs.length ≤ c' ∧ c' ≤ maxLen := by
  obtain ⟨m, hm⟩ : ∃ m, Hid (m = 1 + um n most) := ⟨_, rfl⟩
  have hu := um_lt n hm1
  have hmm1 : 1 ≤ m := by rw [hm.out]; omega
  have hmm2 : m ≤ most := by rw [hm.out]; omega
  have e0 : wrap64 (1 + wrap64 ((IntKind.u64.wrap n).tmod (most : Int))) = (m : Int) := by
    rw [um_eq, IntWalk.wrap64_in ((um n most : Nat) : Int) (by omega), IntWalk.wrap64_in _ (by omega), hm.out]; omega
  obtain ⟨v0, hv0, hv1, hmk⟩ := make_ints m (by omega)
  have HV0 := Lib.hid hv0
  have HV1 := Lib.hid hv1
  have hl := Nat.le_trans h.fits h.capm
  unfold maxLen at hl
  have hg := h.g
  clear hv0 hv1 h hu
  obtain ⟨len, HL⟩ : ∃ len, Hid (ps.length = len) := ⟨_, rfl⟩
  rw [HL.out] at hl ⊢
  go_enter Tryd.func14, Tryd.ntmps14
  go_upto_region 2 with (fail)
  simp only [e0]
  clear e0
  go_wp2
  clear hmk
  go_loopw [9] (fun i wr => ∃ (k : Nat) (vs : Array Value) (g : List Nat), k ≤ len ∧ k ≤ 60 ∧ i = .int .i64 k ∧ Hid (g.length = m) ∧ BoxN wr w.heap.size 3 vs ∧ RowCells vs g ∧ (∀ i : Nat, Sm (g[i]?.getD 0)) ∧ Below w.heap.size w wr) (fun i _ => len - (intOf i).toNat)
  case atStart =>
    refine ⟨0, v0, List.replicate m 0, Nat.zero_le _, by omega, rfl, by simp [Hid], BoxN.new rfl, RowCells.zero HV0.out HV1.out, fun i => ?_, (Below.refl _ _).alloc (Nat.le_refl _) _⟩
    have : (List.replicate m 0)[i]?.getD 0 = 0 := by simp [List.getElem?_replicate]; split <;> rfl
    rw [this]; exact sm_of (by decide)
  case round =>
    obtain ⟨k, vs, g, hk, hk40, rfl, hglen, hbox, hcc, hgsm, hB⟩ := hrel
    by_cases hkl : k < len
    · by_cases hk4 : k < 60
      · have hsz := hbox.lt
        obtain ⟨b, off, rfl, hb, hc⟩ := hg (by intro e; rw [e] at HL; have := HL.out; simp at this; omega)
        have hck := hc k (by rw [HL.out]; exact hkl)
        have hc1 : wr.cell? ⟨b, off + k * 2, none⟩ = some (.int .i64 (ps[k]?.getD (0, 0)).1) := (hB.cell (p := ⟨b, off + k * 2, none⟩) hb).trans hck.1
        have hc2 : wr.cell? ⟨b, off + k * 2 + 1, none⟩ = some (.int .i64 (ps[k]?.getD (0, 0)).2) := (hB.cell (p := ⟨b, off + k * 2 + 1, none⟩) hb).trans hck.2
        generalize (ps[k]?.getD (0, 0)).1 = zx at hc1
        generalize (ps[k]?.getD (0, 0)).2 = zy at hc2
        clear hck hc hg
        obtain ⟨x, hx⟩ : ∃ x, Hid (x = um zx m) := ⟨_, rfl⟩
        obtain ⟨y, hy⟩ : ∃ y, Hid (y = um zy m) := ⟨_, rfl⟩
        have hxm : x < m := by rw [hx.out]; exact um_lt _ hmm1
        have hym : y < m := by rw [hy.out]; exact um_lt _ hmm1
        have ex : IntKind.i64.wrap ((IntKind.u64.wrap zx).tmod (m : Int)) = (x : Int) := by rw [um_eq, ← hx.out, IntWalk.i64_in _ (by omega)]
        have ey : IntKind.i64.wrap ((IntKind.u64.wrap zy).tmod (m : Int)) = (y : Int) := by rw [um_eq, ← hy.out, IntWalk.i64_in _ (by omega)]
        have ex' : wrap64 ((IntKind.u64.wrap zx).tmod (m : Int)) = (x : Int) := by rw [um_eq, ← hx.out, IntWalk.wrap64_in _ (by omega)]
        have ey' : wrap64 ((IntKind.u64.wrap zy).tmod (m : Int)) = (y : Int) := by rw [um_eq, ← hy.out, IntWalk.wrap64_in _ (by omega)]
        have em : IntKind.u64.wrap (m : Int) = (m : Int) := IntWalk.u64_in _ (by omega)
        have hki : ((k : Nat) : Int) < ((len : Nat) : Int) := by omega
        have hk0 : (0 : Int) ≤ ((k : Nat) : Int) := by omega
        have hm0 : ((m : Nat) : Int) ≠ 0 := by omega
        go_wp2
        go_quiet (fail)
        clear ex ey ex' ey' em hc1 hc2
        by_cases hxy : x = y
        · have hxb : (((x : Nat) : Int) != ((y : Nat) : Int)) = false := by rw [hxy]; simp
          clear hxy
          go_wp2
          exact ⟨⟨k + 1, vs, g, by omega, by omega, by go_num, hglen, hbox, hcc, hgsm, below_dr hB nq⟩, by simp [intOf]; omega⟩
        · have hxb : (((x : Nat) : Int) != ((y : Nat) : Int)) = true := by rw [bne_iff_ne]; omega
          have HXY := Lib.hid hxy
          clear hxy
          have l1 := hbox.cell x
          have l2 := hbox.cell y
          rw [hcc.2 x (by rw [hglen.out]; exact hxm)] at l1
          rw [hcc.2 y (by rw [hglen.out]; exact hym)] at l2
          have lf1 := hbox.frozen x
          have lf2 := hbox.frozen y
          have hx20 : x < 20 := by omega
          have hy20 : y < 20 := by omega
          have hxn : ((x : Nat) : Int) < (m : Int) := by omega
          have hynI : ((y : Nat) : Int) < (m : Int) := by omega
          have hgx := hgsm x
          have hgy := hgsm y
          have HG := Lib.hid hgsm
          clear hgsm
          have l2' : ∀ v, (wr.setCell ⟨w.heap.size, x, none⟩ v).cell? ⟨w.heap.size, y, none⟩ = some (.int .i64 ((g[y]?.getD 0 : Nat) : Int)) := fun v =>
            (World.cell?_setCell_other _ _ _ _ (fun e => by have := HXY.out; have := congrArg Addr.off e; simp at this; omega)).trans l2
          have HL2 := Lib.hid l2'
          clear l2 l2'
          go_wp2
          go_region
          have l2'' : ∀ q v, ((wr.drewN q).setCell ⟨w.heap.size, x, none⟩ v).cell? ⟨w.heap.size, y, none⟩ = some (.int .i64 ((g[y]?.getD 0 : Nat) : Int)) := fun q v => HL2.out v
          clear l1
          go_wp2
          go_region
          go_wp2
          refine ⟨⟨k + 1, _, addE g x y, by omega, by omega, by go_num, by rw [Hid, addE_length]; exact hglen.out, (hbox.set x _).set y _, hcc.add x y HXY.out (by rw [hglen.out]; omega) (by rw [hglen.out]; omega), addE_sm g x y HXY.out (by rw [hglen.out]; omega) (by rw [hglen.out]; omega) (by rw [hglen.out]; omega) HG.out, ?_⟩, by simp [intOf]; omega⟩
          exact ((((below_dr hB nq).drew.setCell (p := ⟨w.heap.size, x, none⟩) (Nat.le_refl _) _).setCell (p := ⟨w.heap.size, y, none⟩) (Nat.le_refl _) _).drew)
      · have : k = 60 := by omega
        subst this
        have HLS := Lib.hid (listed_cap (some ⟨w.heap.size, 0, none⟩) m g wr (by rw [hglen.out]; omega) hgsm (Sets.ofBox hbox hcc))
        rw [hglen.out] at HLS
        clear hg hgsm
        go_wp2_with (go_at_call 51; refine (HLS.out).mono ?_; rintro e w1 ⟨qs, a', c', rfl, hP, hE, hL, hB1, hF⟩; try dsimp only)
        go_ret2
        exact ⟨m, qs, a', c', rfl, hmm2, ⟨by omega, hP, hmm1, by omega, hE⟩, hB.trans (hB1.mono hB.size), hF.1, hF.2⟩
    · have : k = len := by omega
      subst this
      have HLS := Lib.hid (listed_cap (some ⟨w.heap.size, 0, none⟩) m g wr (by rw [hglen.out]; omega) hgsm (Sets.ofBox hbox hcc))
      rw [hglen.out] at HLS
      clear hg hgsm
      go_wp2_with (go_at_call 51; refine (HLS.out).mono ?_; rintro e w1 ⟨qs, a', c', rfl, hP, hE, hL, hB1, hF⟩; try dsimp only)
      go_ret2
      exact ⟨m, qs, a', c', rfl, hmm2, ⟨by omega, hP, hmm1, by omega, hE⟩, hB.trans (hB1.mono hB.size), hF.1, hF.2⟩
/-- its first k -/
theorem Good.take {n : Nat} {ps : List (Int × Int)} {a : Option Addr} {w : World} (h : Good n ps a w) (k : Nat) : Good n (ps.take k) a w := by
  refine ⟨by have := h.hl; rw [List.length_take]; omega, fun hne => ?_, h.n1, h.n2, edgesB_sub (List.take_sublist k ps) h.ok⟩
  obtain ⟨b, off, e, h1, h2⟩ := h.hg fun e => hne (by rw [e]; exact List.take_nil)
  refine ⟨b, off, e, h1, fun j hj => ?_⟩
  rw [List.length_take] at hj
  rw [List.getElem?_take, if_pos (by omega)]
  exact h2 j (by omega)
end Go.Proofs.YtpknnjcbcndbbaaDoor
namespace Go.Proofs.YtpknnjcbcndbbaaDoor
open Go.ChangeShapes Go.WideShapes Go.ChangeAt Go.RowKit Go.Shelf

/-- the j-th number of a list -/
def zz (l : List Int) (j : Nat) : Int := l[j]?.getD 0
/-- lists of integers as they lie -/
def LstI (W : World) (la : Option Addr) (m : Nat) (ls : Nat → List Int) : Prop := m ≠ 0 → ∃ b o, la = some ⟨b, o, none⟩ ∧ b < W.heap.size ∧ ∀ i, i < m → ∃ p c, W.cell? ⟨b, o + i, none⟩ = some (.slice p (ls i).length c) ∧ SrcI W p (ls i).length (zz (ls i))
theorem LstI.below {k : Nat} {w W : World} {la : Option Addr} {m : Nat} {ls : Nat → List Int} (h : LstI w la m ls) (hB : Below k w W) (hk : w.heap.size ≤ k) : LstI W la m ls := fun h0 => by
  obtain ⟨b, o, e, h1, h2⟩ := h h0
  refine ⟨b, o, e, Nat.lt_of_lt_of_le h1 hB.size, fun i hi => ?_⟩
  obtain ⟨p, c, h3, h4⟩ := h2 i hi
  exact ⟨p, c, (hB.cell (p := ⟨b, o + i, none⟩) (Nat.lt_of_lt_of_le h1 hk)).trans h3, h4.below hB hk⟩
/-- lists of integers as they come in -/
structure ListsIn (W : World) (la : Option Addr) (cap : Nat) (xs : List (List Int)) : Prop where
  g : xs.length ≠ 0 → ∃ b o, la = some ⟨b, o, none⟩ ∧ b < W.heap.size ∧ ∀ i, i < xs.length → ∃ p c, W.cell? ⟨b, o + i, none⟩ = some (.slice p (xs[i]?.getD []).length c) ∧ IntsIn W p c (xs[i]?.getD [])
  fits : xs.length ≤ cap
  capm : cap ≤ maxLen
  nil : la = none → cap = 0
theorem IntsIn.below {k : Nat} {w W : World} {p : Option Addr} {c : Nat} {xs : List Int} (h : IntsIn w p c xs) (hB : Below k w W) (hk : w.heap.size ≤ k) : IntsIn W p c xs := ⟨h.g.below hB hk, h.fits, h.capm, h.nil⟩
theorem ListsIn.below {k : Nat} {w W : World} {p : Option Addr} {c : Nat} {xs : List (List Int)} (h : ListsIn w p c xs) (hB : Below k w W) (hk : w.heap.size ≤ k) : ListsIn W p c xs := ⟨fun h0 => by
  obtain ⟨b, o, e, h1, h2⟩ := h.g h0
  refine ⟨b, o, e, Nat.lt_of_lt_of_le h1 hB.size, fun i hi => ?_⟩
  obtain ⟨p, c, h3, h4⟩ := h2 i hi
  exact ⟨p, c, (hB.cell (p := ⟨b, o + i, none⟩) (Nat.lt_of_lt_of_le h1 hk)).trans h3, h4.below hB hk⟩, h.fits, h.capm, h.nil⟩
theorem cells25 : Tryd.prog.cellsOf 25 = 1 := by kernel_rfl
set_option maxRecDepth 100000 in
theorem open_lists {H : Type} {enc : TypeId × Value → H} {W : World} {a : Option Addr} {len cap : Nat} {d : DataW H} {p : List MemPlace}
    (h : ∃ fuel, DataW.trod enc Tryd.prog W 0 (fun _ => true) true fuel 58 (Value.slice a len cap).cells.toList = some (d, p)) : ∃ xs : List (List Int), ListsIn W a cap xs ∧ len = xs.length := by
  obtain ⟨fuel, hf⟩ := h
  rcases Go.Deep.open_slice1 Tryd.underlying58 cells25 hf with ⟨hcs, _⟩ | ⟨x, l, c, m, n, V, D, Pl, hcs, hb, hl, hm, hmm, hx, hel⟩
  · simp [Value.cells] at hcs
    obtain ⟨rfl, rfl, rfl⟩ := hcs
    exact ⟨[], ⟨fun e => absurd rfl e, Nat.le_refl _, by decide, fun _ => rfl⟩, rfl⟩
  · simp [Value.cells] at hcs
    obtain ⟨rfl, rfl, rfl⟩ := hcs
    have hlm : len ≤ m := by rw [hmm]; simpa using hl
    have each : ∀ i, i < len → ∃ z : List Int, ∃ p c, W.cell? (x.add i) = some (.slice p z.length c) ∧ IntsIn W p c z := by
      intro i hi
      obtain ⟨h1, h2⟩ := hel i (by omega)
      have hsl : ∃ p l c, V i = .slice p l c := by
        rcases Go.ChangeShapes.open_ints Tryd.underlying25 Tryd.underlying3 cells3 h2 with ⟨hcs, _⟩ | ⟨x, l, c, zs, hcs, _⟩
        · exact ⟨_, _, _, by simpa using hcs⟩
        · exact ⟨_, _, _, by simpa using hcs⟩
      obtain ⟨p, l, c, e⟩ := hsl
      rw [e] at h1 h2
      obtain ⟨z, hz, rfl⟩ := open_ints_in ⟨n, h2⟩
      exact ⟨z, p, c, h1, hz⟩
    obtain ⟨z, hz⟩ := Go.Deep.choose_lt each
    refine ⟨(List.range len).map z, ⟨fun hne => ?_, by simpa using hl, hm, fun e => by cases e⟩, by simp⟩
    obtain ⟨b, off, sp⟩ := x
    have h0 : 0 < len := by have : ((List.range len).map z).length = len := by simp
                            omega
    obtain ⟨p0, c0, hc0, _⟩ := hz 0 h0
    have hsp : sp = none := by
      unfold World.cell? at hc0
      cases sp with
      | none => rfl
      | some s =>
        simp [Addr.add] at hc0
        split at hc0 <;> simp_all
    subst hsp
    refine ⟨b, off, rfl, ?_, fun j hj => ?_⟩
    · obtain ⟨o, ho, _⟩ := cells_of_cell hc0
      exact (Array.getElem?_eq_some_iff.1 ho).1
    · have hj' : j < len := by simpa using hj
      obtain ⟨p, c, h1, h2⟩ := hz j hj'
      have e : ((List.range len).map z)[j]?.getD [] = z j := by simp [hj']
      rw [e]
      rw [Addr.add_lit] at h1
      exact ⟨p, c, h1, h2⟩
/-- a row of rows of integers that the call has made -/
def LRow (W : World) (base : Nat) (v : Value) (m : Nat) (ls : Nat → List Int) : Prop := ∃ xs, QRow W base 25 1 v m xs ∧ ∀ i, i < m → ∃ p c, xs[i]? = some (.slice p (ls i).length c) ∧ QRow W base 3 1 (.slice p (ls i).length c) (ls i).length (ivI (zz (ls i)) (ls i).length)
theorem LRow.lst {W : World} {base : Nat} {p : Option Addr} {c m : Nat} {ls : Nat → List Int} (h : LRow W base (.slice p m c) m ls) : LstI W p m ls := fun hm => by
  obtain ⟨xs, h1, h2⟩ := h
  obtain ⟨b, o, cap, e, _, hb, _, _, hc, _⟩ := h1.at (by omega)
  cases e
  refine ⟨b, o, rfl, hb, fun i hi => ?_⟩
  obtain ⟨p, c, h3, h4⟩ := h2 i hi
  exact ⟨p, c, (hc i (by omega)).trans h3, h4.srcI (ivI_get _ _)⟩
theorem LRow.below {n base : Nat} {w W : World} {v : Value} {m : Nat} {ls : Nat → List Int} (h : LRow w base v m ls) (hB : Below n w W) (hn : w.heap.size ≤ n) : LRow W base v m ls := by
  obtain ⟨xs, h1, h2⟩ := h
  refine ⟨xs, h1.below hB fun k hk => Nat.lt_of_lt_of_le (h1.lt k hk).2 hn, fun i hi => ?_⟩
  obtain ⟨p, c, h3, h4⟩ := h2 i hi
  exact ⟨p, c, h3, h4.below hB fun k hk => Nat.lt_of_lt_of_le (h4.lt k hk).2 hn⟩
theorem LRow.nil (w : World) (base : Nat) (ls : Nat → List Int) : LRow w base (.slice none 0 0) 0 ls := ⟨[], QRow.nil _ _ _ _, fun i hi => by omega⟩
theorem LRow.isSlice {W : World} {base : Nat} {v : Value} {m : Nat} {ls : Nat → List Int} (h : LRow W base v m ls) : ∃ p c, v = .slice p m c := by
  obtain ⟨xs, h1, h2⟩ := h
  exact h1.isSlice
/-- behind an append to it: W the world before, A with the new row, W' after -/
theorem LRow.push {W W' : World} {base : Nat} {v v' : Value} {m : Nat} {ls : Nat → List Int} {xs : List Value} {p : Option Addr} {c : Nat} {l : List Int}
    (h2 : ∀ i, i < m → ∃ p c, xs[i]? = some (.slice p (ls i).length c) ∧ QRow W base 3 1 (.slice p (ls i).length c) (ls i).length (ivI (zz (ls i)) (ls i).length)) (h1 : QRow W base 25 1 v m xs)
    (hq : QRow W base 3 1 (.slice p l.length c) l.length (ivI (zz l) l.length)) (hg : W.grownBy W' v.ownBlock) (h3 : QRow W' base 25 1 v' (m + 1) (xs ++ [.slice p l.length c])) : LRow W' base v' (m + 1) (fun i => if i = m then l else ls i) := by
  have hxl := h1.1
  refine ⟨_, h3, fun i hi => ?_⟩
  by_cases e : i = m
  · subst e
    refine ⟨p, c, ?_, ?_⟩
    · rw [List.getElem?_append_right (by omega)]; simp [hxl]
    · show QRow W' base 3 1 (.slice p (if i = i then l else ls i).length c) (if i = i then l else ls i).length (ivI (zz (if i = i then l else ls i)) (if i = i then l else ls i).length)
      rw [if_pos rfl]
      exact hq.kept hg (ne_or (hq.ne h1 (by decide)))
  · obtain ⟨p', c', h4, h5⟩ := h2 i (by omega)
    refine ⟨p', c', ?_, ?_⟩
    · rw [List.getElem?_append_left (by omega)]; simp only [if_neg e]; exact h4
    · simp only [if_neg e]
      exact h5.kept hg (ne_or (h5.ne h1 (by decide)))
theorem zz_take (xs : List Int) (k : Nat) : ivI (fun j => xs[j]?.getD 0) (min xs.length k) = ivI (zz (xs.take k)) (xs.take k).length := by
  refine List.ext_getElem? fun i => ?_
  have hl : (xs.take k).length = min xs.length k := by rw [List.length_take, Nat.min_comm]
  by_cases hi : i < min xs.length k
  · rw [ivI_get _ _ i hi, ivI_get _ _ i (by omega)]
    unfold zz
    rw [List.getElem?_take, if_pos (by omega)]
  · rw [List.getElem?_eq_none (by rw [ivI_len]; omega), List.getElem?_eq_none (by rw [ivI_len]; omega)]
theorem list_copy' (a : Option Addr) (cap most : Nat) (xs : List Int) (w : World) (hm : most ≤ 1000) (h : IntsIn w a cap xs) :
    Calls Tryd.prog 34 #[.slice a xs.length cap, .int .i64 (most : Int)] w fun e w' => (∃ p c, e = .returned (.slice p (xs.take most).length c) ∧ QRow w' w.heap.size 3 1 (.slice p (xs.take most).length c) (xs.take most).length (ivI (zz (xs.take most)) (xs.take most).length)) ∧ Below w.heap.size w w' :=
  (list_copy a cap most xs w hm h).mono fun e w' ⟨v, h1, h2, h3⟩ => by
    have hl : (xs.take most).length = min xs.length most := by rw [List.length_take, Nat.min_comm]
    rw [zz_take, ← hl] at h2
    obtain ⟨p, c, rfl⟩ := h2.isSlice
    exact ⟨⟨p, c, h1, h2⟩, h3⟩
set_option maxRecDepth 100000 in
set_option maxHeartbeats 2000000 in
theorem lists_copy (a : Option Addr) (cap : Nat) (xs : List (List Int)) (w : World) (h : ListsIn w a cap xs) :
    Calls Tryd.prog 37 #[.slice a xs.length cap] w fun e w' => (∃ p c m ls, e = .returned (.slice p m c) ∧ m ≤ 125 ∧ (∀ i, (ls i).length ≤ 70) ∧ LRow w' w.heap.size (.slice p m c) m ls) ∧ Below w.heap.size w w' := by
  obtain ⟨i1, hi1, hy0, hy1, hy2⟩ := info_parts info25
  have H := Lib.hid h
  have hfit := h.fits
  have hcm := h.capm
  unfold maxLen at hcm
  clear h
  obtain ⟨len, HL⟩ : ∃ len, Hid (xs.length = len) := ⟨_, rfl⟩
  rw [HL.out] at hfit ⊢
  go_enter Tryd.func37, Tryd.ntmps37
  go_upto_region 3 with (fail)
  go_loopw [3, 4] (fun s3 s4 wr => ∃ (i : Nat) (ls : Nat → List Int), i ≤ len ∧ i ≤ 125 ∧ s4 = .int .i64 (i : Int) ∧ Hid (∀ i, (ls i).length ≤ 70) ∧ Hid (LRow wr w.heap.size s3 i ls) ∧ Hid (Below w.heap.size w wr)) (fun _ s4 _ => 200 - (intOf s4).toNat)
  case atStart => exact ⟨0, fun _ => [], by omega, by omega, rfl, (fun _ => by simp), LRow.nil _ _ _, Below.refl _ _⟩
  case round =>
    obtain ⟨i, ls, hi, hi2, rfl, hl7, hR, hB⟩ := hrel
    obtain ⟨p3, c3, rfl⟩ := hR.out.isSlice
    have hsz := hB.out.size
    by_cases hil : i < len
    · have g1 : (i : Int) < (len : Int) := by omega
      have g0 : (0 : Int) ≤ (i : Int) := by omega
      by_cases hi5 : i < 125
      · have g2 : (i : Int) < 125 := by omega
        obtain ⟨b, o, rfl, hb, hc⟩ := (H.out.g (by rw [HL.out]; omega))
        obtain ⟨p, c, h1, h2⟩ := hc i (by rw [HL.out]; exact hil)
        obtain ⟨l, hl⟩ : ∃ l, Hid (l = xs[i]?.getD []) := ⟨_, rfl⟩
        rw [← hl.out] at h1 h2
        have k1 := (hB.out.cell (p := ⟨b, o + i, none⟩) hb).trans h1
        have HLC := Lib.hid (list_copy' p c 70 l wr (by decide) (h2.below hB.out (Nat.le_refl _)))
        have HTL : Hid ((l.take 70).length ≤ 70) := by rw [Hid, List.length_take]; exact Nat.min_le_left _ _
        generalize l.take 70 = t at *
        clear hc h1 h2
        go_wp2_with (first
          | (go_at_call 34; refine (HLC.out).mono ?_; rintro e w4 ⟨⟨p4, c4, rfl, hq4⟩, hB4⟩; have HQ4 := Lib.hid hq4; have HR4 := Lib.hid (hR.out.below hB4 (Nat.le_refl _)); have HB4 := Lib.hid (hB.out.trans (hB4.mono hsz)); have hsz4 := HB4.out.size; obtain ⟨ys, hy, hz⟩ := HR4.out; have HY := Lib.hid hy; have HZ := Lib.hid hz; have HYA : Hid (QRow (w4.alloc (.cells #[.slice p4 t.length c4] 25)) w.heap.size 25 1 (.slice p3 i c3) i ys) := hy.alloc _; have HQA : Hid (QRow (w4.alloc (.cells #[.slice p4 t.length c4] 25)) w.heap.size 3 1 (.slice p4 t.length c4) t.length (ivI (zz t) t.length)) := (hq4.alloc _).mono hsz; have HZA : Hid (∀ i', i' < i → ∃ p c, ys[i']? = some (.slice p (ls i').length c) ∧ QRow (w4.alloc (.cells #[.slice p4 t.length c4] 25)) w.heap.size 3 1 (.slice p (ls i').length c) (ls i').length (ivI (zz (ls i')) (ls i').length)) := (fun i' hi' => by obtain ⟨p, c, a1, a2⟩ := hz i' hi'; exact ⟨p, c, a1, a2.alloc _⟩); have HLT := Lib.hid HYA.out.lt; clear hq4 hB4 hy hz)
          | (at_builtin; go_must (refine wpList_append_q _ rfl (.tmp 15) (.tmp 21) 58 rfl w.heap.size 25 i1 (.slice none 0 0) 1 24 Tryd.underlying58 hi1 hy0 hy1 hy2 rfl (by decide) _ i ys rfl HYA.out ⟨_, 0, none⟩ 1 1 [.slice p4 t.length c4] rfl rfl (cells_new1 _ _ _) (by simp [Value.oneCell']) (by unfold maxLen; omega) (by omega) (by simp; omega) ?_); intro v5 w5 hq5 hg5 ho5; have HR5 : Hid (LRow w5 w.heap.size v5 (i + 1) (fun i' => if i' = i then t else ls i')) := LRow.push HZA.out HYA.out HQA.out hg5 hq5; have HB5 : Hid (Below w.heap.size w w5) := Below.grown (HB4.out.alloc hsz4 _) hg5 (by simp; omega) (fun kk e => (HLT.out kk e).1); clear hq5 hg5 ho5))
        have HL7 : Hid (∀ i', ((fun i' => if i' = i then t else ls i') i').length ≤ 70) := fun i' => by
          show (if i' = i then t else ls i').length ≤ 70
          by_cases e : i' = i
          · rw [if_pos e]; exact HTL.out
          · rw [if_neg e]; exact hl7.out i'
        exact ⟨⟨i + 1, _, by omega, by omega, int_eq (by omega), HL7, HR5, HB5⟩, by simp [intOf]; omega⟩
      · have g2 : ¬ (i : Int) < 125 := by omega
        go_wp2
        go_ret
        exact ⟨⟨p3, c3, i, rfl, hi2, ls, hl7.out, hR.out⟩, hB.out⟩
    · have g1 : ¬ (i : Int) < (len : Int) := by omega
      go_wp2
      go_ret
      exact ⟨⟨p3, c3, i, rfl, hi2, ls, hl7.out, hR.out⟩, hB.out⟩
end Go.Proofs.YtpknnjcbcndbbaaDoor
namespace Go.Proofs.YtpknnjcbcndbbaaDoor
open Go.RowKit Go.Shelf

/-- x is one of the first m values -/
def InI (f : Nat → Int) (m : Nat) (x : Int) : Prop := ∃ j, j < m ∧ f j = x
set_option maxRecDepth 100000 in
theorem has_any (p : Option Addr) (m c : Nat) (x : Int) (f : Nat → Int) (w : World) (hm : m ≤ 1099511627776) (h : SrcI w p m f) :
    Calls Tryd.prog 69 #[.slice p m c, .int .i64 x] w fun e w' => BoolP (InI f m x) e ∧ w' = w := by
  have H := Lib.hid h
  clear h
  go_enter Tryd.func69, Tryd.ntmps69
  go_upto_region 2 with (fail)
  go_loopw [5] (fun s3 wr => ∃ j : Nat, j ≤ m ∧ s3 = .int .i64 (j : Int) ∧ Hid (∀ i, i < j → f i ≠ x) ∧ Hid (wr = w)) (fun s3 _ => m - (intOf s3).toNat)
  case atStart => exact ⟨0, by omega, rfl, (fun i hi => by omega), rfl⟩
  case round =>
    obtain ⟨j, hj, rfl, hp, hw⟩ := hrel
    rw [hw.out]
    by_cases hjm : j < m
    · have g1 : (j : Int) < (m : Int) := by omega
      have g0 : (0 : Int) ≤ (j : Int) := by omega
      obtain ⟨b, o, rfl, hb, hc⟩ := H.out (by omega)
      have k1 := hc j hjm
      clear hc
      by_cases hx : f j = x
      · have HY : Hid (InI f m x) := ⟨j, hjm, hx⟩
        have hb1 : (f j == x) = true := by rw [hx]; simp
        clear hx
        go_wp2
        go_ret
        exact ⟨BoolP.yes HY.out, rfl⟩
      · have hb1 : (f j == x) = false := by rw [beq_eq_false_iff_ne]; exact hx
        have HP : Hid (∀ i, i < j + 1 → f i ≠ x) := fun i hi => by
          by_cases e : i = j
          · subst e; exact hx
          · exact hp.out i (by omega)
        clear hx
        go_wp2
        exact ⟨⟨j + 1, by omega, int_eq (by omega), HP, Lib.hid trivial⟩, by simp [intOf]; omega⟩
    · have g1 : ¬ (j : Int) < (m : Int) := by omega
      have HN : Hid (¬ InI f m x) := fun ⟨i, hi, h⟩ => hp.out i (by omega) h
      go_wp2
      go_ret
      exact ⟨BoolP.no HN.out, rfl⟩
/-- each number is from its list -/
def FromI (f : Nat → Int) (m n : Nat) (ls : Nat → List Int) : Prop := m = n ∧ ∀ i, i < m → f i ∈ ls i
theorem inI_zz {l : List Int} {x : Int} : InI (zz l) l.length x ↔ x ∈ l := by
  constructor
  · rintro ⟨j, hj, rfl⟩
    unfold zz; rw [List.getElem?_eq_getElem hj]; exact List.getElem_mem hj
  · intro h
    obtain ⟨j, hj, e⟩ := List.getElem_of_mem h
    exact ⟨j, hj, by unfold zz; rw [List.getElem?_eq_getElem hj]; exact e⟩
theorem BoolP.dec {P : Prop} {e : Ending} (h : BoolP P e) {b : Bool} (hb : b = true ↔ P) : e = .returned (.bool b) := by
  obtain ⟨b', rfl, h'⟩ := h
  rw [Bool.eq_iff_iff.2 (h'.trans hb.symm)]
theorem bool_of (P : Prop) : ∃ b : Bool, b = true ↔ P := by
  by_cases h : P
  · exact ⟨true, fun _ => h, fun _ => rfl⟩
  · exact ⟨false, (fun h => by cases h), fun h' => absurd h' h⟩
set_option maxRecDepth 100000 in
theorem from_any (p la : Option Addr) (m c n lc : Nat) (f : Nat → Int) (ls : Nat → List Int) (w : World) (hm : m ≤ 1099511627776) (hll : ∀ i, (ls i).length ≤ 1000) (h : SrcI w p m f) (hL : LstI w la n ls) :
    Calls Tryd.prog 41 #[.slice p m c, .slice la n lc] w fun e w' => BoolP (FromI f m n ls) e ∧ Below w.heap.size w w' := by
  have H := Lib.hid h
  have HL := Lib.hid hL
  clear h hL
  by_cases hmn : m = n
  · subst hmn
    have HHA : Hid (∀ W i p c, SrcI W p (ls i).length (zz (ls i)) → Calls Tryd.prog 69 #[.slice p (ls i).length c, .int .i64 (f i)] W fun e w' => BoolP (f i ∈ ls i) e ∧ w' = W) := fun W i p c hs =>
      (has_any p _ c (f i) _ W (by have := hll i; omega) hs).mono fun e w' ⟨⟨b, h1, h2⟩, h3⟩ => ⟨⟨b, h1, h2.trans inI_zz⟩, h3⟩
    have g : ((m : Int) != (m : Int)) = false := by simp
    go_enter Tryd.func41, Tryd.ntmps41
    go_upto_region 4 with (fail)
    clear g
    go_loopw [5] (fun s5 wr => ∃ j : Nat, j ≤ m ∧ s5 = .int .i64 (j : Int) ∧ Hid (∀ i, i < j → f i ∈ ls i) ∧ Hid (Below w.heap.size w wr)) (fun s5 _ => m - (intOf s5).toNat)
    case atStart => exact ⟨0, by omega, rfl, (fun i hi => by omega), Below.refl _ _⟩
    case round =>
      obtain ⟨j, hj, rfl, hp, hB⟩ := hrel
      by_cases hjm : j < m
      · have g1 : (j : Int) < (m : Int) := by omega
        have g0 : (0 : Int) ≤ (j : Int) := by omega
        obtain ⟨b, o, rfl, hb, hc⟩ := H.out (by omega)
        obtain ⟨lb, lo, rfl, hlb, hlc⟩ := HL.out (by omega)
        obtain ⟨lp, lc2, k2, hs⟩ := hlc j hjm
        have hbr : b < wr.heap.size := Nat.lt_of_lt_of_le hb hB.out.size
        have hlbr : lb < wr.heap.size := Nat.lt_of_lt_of_le hlb hB.out.size
        have r0 : ∀ d : BW wr.heap.size wr, d.w.cell? ⟨b, o + j, none⟩ = some (.int .i64 (f j)) := fun d => d.cell hbr ((hB.out.cell (p := ⟨b, o + j, none⟩) hb).trans (hc j hjm))
        have r1 : ∀ d : BW wr.heap.size wr, d.w.cell? ⟨lb, lo + j, none⟩ = some (.slice lp (ls j).length lc2) := fun d => d.cell hlbr ((hB.out.cell (p := ⟨lb, lo + j, none⟩) hlb).trans k2)
        obtain ⟨bv, hbv⟩ := bool_of (f j ∈ ls j)
        have HC : Hid (∀ d : BW wr.heap.size wr, Calls Tryd.prog 69 #[.slice lp (ls j).length lc2, .int .i64 (f j)] d.w fun e w' => e = .returned (.bool bv) ∧ ∃ d' : BW wr.heap.size wr, w' = d'.w) := fun d => Calls.bw ((HHA.out d.w j lp lc2 (hs.below (hB.out.trans (d.b.mono hB.out.size)) (Nat.le_refl _))).mono fun e w' ⟨h1, h2⟩ => ⟨h1.dec hbv, by rw [h2]; exact d.b⟩)
        have HBV := Lib.hid hbv
        have HN : Hid (f j ∈ ls j → ∀ i, i < j + 1 → f i ∈ ls i) := fun h i hi => by
          by_cases e : i = j
          · subst e; exact h
          · exact hp.out i (by omega)
        have HBD : Hid (f j ∉ ls j → ¬ FromI f m m ls) := fun h h' => h (h'.2 j hjm)
        clear hc hlc hs hbv k2 hbr hlbr
        generalize f j = fj at *
        generalize ls j = lj at *
        go_upto_region 6 with (fail)
        refine wp_region_bw (by kernel_rfl) (by kernel_rfl) ?_
        repeat (go_big_quiet_step ((first
          | rfl
          | (go_at_call 69; exact HC.out _))))
        refine wpQuiet_nil ?_
        rintro _ ⟨d, rfl⟩
        have HBDD := Lib.hid (hB.out.trans (d.b.mono hB.out.size))
        clear r0 r1 HC
        generalize d.w = Z at *
        cases bv with
        | true =>
          have HN2 := Lib.hid (HN.out (HBV.out.1 rfl))
          go_wp2
          exact ⟨⟨j + 1, by omega, int_eq (by omega), HN2, HBDD⟩, by simp [intOf]; omega⟩
        | false =>
          have HB2 := Lib.hid (HBD.out fun h => absurd (HBV.out.2 h) (by simp))
          go_wp2
          go_ret
          exact ⟨BoolP.no HB2.out, HBDD.out⟩
      · have g1 : ¬ (j : Int) < (m : Int) := by omega
        have HY : Hid (FromI f m m ls) := ⟨rfl, fun i hi => hp.out i (by omega)⟩
        go_wp2
        go_ret
        exact ⟨BoolP.yes HY.out, hB.out⟩
  · have g : ((m : Int) != (n : Int)) = true := by rw [bne_iff_ne]; omega
    have HN : Hid (¬ FromI f m n ls) := fun h => hmn h.1
    clear hmn
    go_enter Tryd.func41, Tryd.ntmps41
    go_wp2
    go_ret
    exact ⟨BoolP.no HN.out, Below.refl _ _⟩
/-- rising numbers, none greater than 63 -/
def RiseAt (f : Nat → Int) (k : Nat) : Prop := 0 ≤ f k ∧ f k ≤ 63 ∧ (0 < k → f (k - 1) < f k)
def Rise (l : List Int) : Prop := ∀ k, k < l.length → RiseAt (zz l) k
def ListsP (ls : Nat → List Int) (m n : Nat) : Prop := (∀ i, i < m → Rise (ls i)) ∧ m = n
set_option maxRecDepth 100000 in
set_option maxHeartbeats 2000000 in
theorem lists_any (la : Option Addr) (m n lc : Nat) (ls : Nat → List Int) (w : World) (hm : m ≤ 1099511627776) (hll : ∀ i, (ls i).length ≤ 1000) (hL : LstI w la m ls) :
    Calls Tryd.prog 39 #[.slice la m lc, .int .i64 (n : Int)] w fun e w' => BoolP (ListsP ls m n) e ∧ Below w.heap.size w w' := by
  have HL := Lib.hid hL
  clear hL
  go_enter Tryd.func39, Tryd.ntmps39
  go_upto_region 2 with (fail)
  go_loopw [5] (fun s5 wr => ∃ j : Nat, j ≤ m ∧ s5 = .int .i64 (j : Int) ∧ Hid (∀ i, i < j → Rise (ls i)) ∧ Hid (Below w.heap.size w wr)) (fun s5 _ => m - (intOf s5).toNat)
  case atStart => exact ⟨0, by omega, rfl, (fun i hi => by omega), Below.refl _ _⟩
  case round =>
    obtain ⟨j, hj, rfl, hp, hB⟩ := hrel
    by_cases hjm : j < m
    · have g1 : (j : Int) < (m : Int) := by omega
      have g0 : (0 : Int) ≤ (j : Int) := by omega
      obtain ⟨lb, lo, rfl, hlb, hlc⟩ := HL.out (by omega)
      obtain ⟨lp, lc2, k2, hs⟩ := hlc j hjm
      have HS := Lib.hid hs
      have k3 := (hB.out.cell (p := ⟨lb, lo + j, none⟩) hlb).trans k2
      have hl := hll j
      have HN : Hid (Rise (ls j) → ∀ i, i < j + 1 → Rise (ls i)) := fun h i hi => by
        by_cases e : i = j
        · subst e; exact h
        · exact hp.out i (by omega)
      have HBD : Hid (¬ Rise (ls j) → ¬ ListsP ls m n) := fun h h' => h (h'.1 j hjm)
      have HRS : Hid (∀ k, k < (ls j).length → ¬ RiseAt (zz (ls j)) k → ¬ Rise (ls j)) := fun k hk h h' => h (h' k hk)
      have HRY : Hid ((∀ k, k < (ls j).length → RiseAt (zz (ls j)) k) → Rise (ls j)) := id
      generalize zz (ls j) = f at *
      generalize Rise (ls j) = R at *
      generalize (ls j).length = len at *
      clear hlc hs k2
      go_upto_region 6 with (fail)
      clear k3
      obtain ⟨wo, hwo⟩ : ∃ wo : World, Hid (wo = wr) := ⟨_, rfl⟩
      go_loopw [7] (fun s7 wr2 => ∃ k : Nat, k ≤ len ∧ s7 = .int .i64 (k : Int) ∧ Hid (∀ i, i < k → RiseAt f i) ∧ Hid (Below w.heap.size w wr2)) (fun s7 _ => len - (intOf s7).toNat)
      case atStart => exact ⟨0, by omega, rfl, (fun i hi => by omega), hB⟩
      case round =>
        obtain ⟨k, hk, rfl, hpk, hB2⟩ := hrel
        by_cases hkl : k < len
        · have g2 : (k : Int) < (len : Int) := by omega
          have g3 : (0 : Int) ≤ (k : Int) := by omega
          obtain ⟨b, o, rfl, hb, hc⟩ := HS.out (by omega)
          have hbr : b < wr.heap.size := Nat.lt_of_lt_of_le hb hB2.out.size
          have r0 : ∀ d : BW wr.heap.size wr, d.w.cell? ⟨b, o + k, none⟩ = some (.int .i64 (f k)) := fun d => d.cell hbr ((hB2.out.cell (p := ⟨b, o + k, none⟩) hb).trans (hc k hkl))
          have HBX : Hid (¬ RiseAt f k → ¬ ListsP ls m n) := fun h => HBD.out (HRS.out k hkl h)
          have HNX : Hid (RiseAt f k → ∀ i, i < k + 1 → RiseAt f i) := fun h i hi => by
            by_cases e : i = k
            · subst e; exact h
            · exact hpk.out i (by omega)
          by_cases c1 : f k < 0
          · have d1 : decide (f k < 0) = true := decide_eq_true c1
            have HNB := Lib.hid (HBX.out fun h => by have := h.1; omega)
            clear c1 HBX HNX hc hbr
            go_upto_region 8 with (fail)
            refine wp_region_bw (by kernel_rfl) (by kernel_rfl) ?_
            repeat (go_big_quiet_step (rfl))
            refine wpQuiet_nil ?_
            rintro _ ⟨d, rfl⟩
            have HBDD := Lib.hid (hB2.out.trans (d.b.mono hB2.out.size))
            clear r0 d1
            generalize d.w = Z at *
            go_wp2
            go_ret
            exact ⟨BoolP.no HNB.out, HBDD.out⟩
          by_cases c2 : 63 < f k
          · have d1 : decide (f k < 0) = false := decide_eq_false c1
            have d2 : decide (63 < f k) = true := decide_eq_true c2
            have HNB := Lib.hid (HBX.out fun h => by have := h.2.1; omega)
            clear c1 c2 HBX HNX hc hbr
            go_upto_region 8 with (fail)
            refine wp_region_bw (by kernel_rfl) (by kernel_rfl) ?_
            repeat (go_big_quiet_step (rfl))
            refine wpQuiet_nil ?_
            rintro _ ⟨d, rfl⟩
            have HBDD := Lib.hid (hB2.out.trans (d.b.mono hB2.out.size))
            clear r0 d1 d2
            generalize d.w = Z at *
            go_wp2
            go_ret
            exact ⟨BoolP.no HNB.out, HBDD.out⟩
          have d1 : decide (f k < 0) = false := decide_eq_false c1
          have d2 : decide (63 < f k) = false := decide_eq_false c2
          by_cases c3 : k = 0
          · have HNX2 := Lib.hid (HNX.out ⟨by omega, by omega, fun h => by omega⟩)
            have d3 : decide (0 < k) = false := decide_eq_false (by omega)
            clear c1 c2 c3 HBX HNX hc hbr
            go_upto_region 8 with (fail)
            refine wp_region_bw (by kernel_rfl) (by kernel_rfl) ?_
            repeat (go_big_quiet_step (rfl))
            refine wpQuiet_nil ?_
            rintro _ ⟨d, rfl⟩
            have HBDD := Lib.hid (hB2.out.trans (d.b.mono hB2.out.size))
            clear r0 d1 d2 d3
            generalize d.w = Z at *
            go_wp2
            exact ⟨⟨k + 1, by omega, int_eq (by omega), HNX2, HBDD⟩, by simp [intOf]; omega⟩
          have d3 : decide (0 < k) = true := decide_eq_true (by omega)
          have hk1 : (k : Int) - 1 = ((k - 1 : Nat) : Int) := by omega
          have g4 : (0 : Int) ≤ ((k - 1 : Nat) : Int) := by omega
          have g5 : ((k - 1 : Nat) : Int) < (len : Int) := by omega
          have r1 : ∀ d : BW wr.heap.size wr, d.w.cell? ⟨b, o + (k - 1), none⟩ = some (.int .i64 (f (k - 1))) := fun d => d.cell hbr ((hB2.out.cell (p := ⟨b, o + (k - 1), none⟩) hb).trans (hc (k - 1) (by omega)))
          by_cases c4 : f k ≤ f (k - 1)
          · have d4 : decide (f k ≤ f (k - 1)) = true := decide_eq_true c4
            have HNB := Lib.hid (HBX.out fun h => by have := h.2.2 (by omega); omega)
            clear c1 c2 c3 c4 HBX HNX hc hbr
            go_upto_region 8 with (fail)
            refine wp_region_bw (by kernel_rfl) (by kernel_rfl) ?_
            repeat (go_big_quiet_step (rfl))
            refine wpQuiet_nil ?_
            rintro _ ⟨d, rfl⟩
            have HBDD := Lib.hid (hB2.out.trans (d.b.mono hB2.out.size))
            clear r0 r1 d1 d2 d3 d4
            generalize d.w = Z at *
            go_wp2
            go_ret
            exact ⟨BoolP.no HNB.out, HBDD.out⟩
          · have d4 : decide (f k ≤ f (k - 1)) = false := decide_eq_false c4
            have HNX2 := Lib.hid (HNX.out ⟨by omega, by omega, fun h => by omega⟩)
            clear c1 c2 c3 c4 HBX HNX hc hbr
            go_upto_region 8 with (fail)
            refine wp_region_bw (by kernel_rfl) (by kernel_rfl) ?_
            repeat (go_big_quiet_step (rfl))
            refine wpQuiet_nil ?_
            rintro _ ⟨d, rfl⟩
            have HBDD := Lib.hid (hB2.out.trans (d.b.mono hB2.out.size))
            clear r0 r1 d1 d2 d3 d4
            generalize d.w = Z at *
            go_wp2
            exact ⟨⟨k + 1, by omega, int_eq (by omega), HNX2, HBDD⟩, by simp [intOf]; omega⟩
        · have g2 : ¬ (k : Int) < (len : Int) := by omega
          have HN2 := Lib.hid (HN.out (HRY.out fun i hi => hpk.out i (by omega)))
          go_wp2
          exact ⟨⟨j + 1, by omega, int_eq (by omega), HN2, hB2⟩, by simp [intOf]; omega⟩
    · have g1 : ¬ (j : Int) < (m : Int) := by omega
      by_cases hmn : m = n
      · have HY : Hid (ListsP ls m n) := ⟨fun i hi => hp.out i (by omega), hmn⟩
        have g2 : ((m : Int) == (n : Int)) = true := by rw [hmn]; simp
        clear hmn
        go_wp2
        go_ret
        exact ⟨BoolP.yes HY.out, hB.out⟩
      · have HY : Hid (¬ ListsP ls m n) := fun h => hmn h.2
        have g2 : ((m : Int) == (n : Int)) = false := by rw [beq_eq_false_iff_ne]; omega
        clear hmn
        go_wp2
        go_ret
        exact ⟨BoolP.no HY.out, hB.out⟩
end Go.Proofs.YtpknnjcbcndbbaaDoor
namespace Go.Proofs.YtpknnjcbcndbbaaDoor
open Go.RowKit Go.Shelf

def MaskOf (s : Nat) (l : List Int) : Prop := ∀ x : Nat, s.testBit x = true ↔ (x : Int) ∈ l
def mskTo (f : Nat → Int) : Nat → Nat
  | 0 => 0
  | k + 1 => mskTo f k ||| pw (f k).toNat
def lastTo (f : Nat → Int) : Nat → Int
  | 0 => -1
  | k + 1 => f k
theorem mskTo_bit (f : Nat → Int) (x : Nat) : ∀ k, (mskTo f k).testBit x = true ↔ ∃ j, j < k ∧ (f j).toNat = x
  | 0 => by simp [mskTo]
  | k + 1 => by
    have ih := mskTo_bit f x k
    rw [mskTo, Nat.testBit_or, pw, Nat.testBit_two_pow, Bool.or_eq_true, ih, decide_eq_true_iff]
    constructor
    · rintro (⟨j, hj, h⟩ | h)
      · exact ⟨j, by omega, h⟩
      · exact ⟨k, by omega, h⟩
    · rintro ⟨j, hj, h⟩
      by_cases e : j = k
      · subst e; exact .inr h
      · exact .inl ⟨j, by omega, h⟩
theorem mskTo_lt {f : Nat → Int} : ∀ {k}, (∀ j, j < k → RiseAt f j) → mskTo f k < 18446744073709551616
  | 0, _ => by unfold mskTo; decide
  | k + 1, h => by
    rw [mskTo]
    have h1 := mskTo_lt (k := k) fun j hj => h j (by omega)
    have h2 : pw (f k).toNat < 18446744073709551616 := by
      have := (h k (by omega)).2.1
      have h3 : (2 : Nat) ^ (f k).toNat ≤ 2 ^ 63 := Nat.pow_le_pow_right (by decide) (by omega)
      unfold pw; omega
    exact Nat.or_lt_two_pow (n := 64) h1 h2
theorem mask_of {l : List Int} (h : Rise l) : MaskOf (mskTo (zz l) l.length) l := fun x => by
  rw [mskTo_bit, ← inI_zz]
  constructor
  · rintro ⟨j, hj, e⟩
    exact ⟨j, hj, by have := (h j hj).1; omega⟩
  · rintro ⟨j, hj, e⟩
    exact ⟨j, hj, by rw [e]; simp⟩
/-- the values of a row of masks -/
def uvL (L : Nat → Nat) (m : Nat) : List Value := (List.range m).map fun j => .int .u64 (L j : Nat)
theorem uvL_get (L : Nat → Nat) (m : Nat) : ∀ j, j < m → (uvL L m)[j]? = some (.int .u64 (L j : Nat)) := fun j hj => by
  unfold uvL; rw [List.getElem?_map, List.getElem?_range hj]; rfl
theorem uvL_push (L : Nat → Nat) (m : Nat) : uvL L (m + 1) = uvL L m ++ [.int .u64 (L m : Nat)] := by
  unfold uvL; rw [List.range_succ, List.map_append]; rfl
theorem QRow.rowU {W : World} {base : Nat} {p : Option Addr} {m c : Nat} {L : Nat → Nat} (h : QRow W base 83 1 (.slice p m c) m (uvL L m)) : RowU W p m L := fun hm => by
  obtain ⟨b, o, cap, e, _, hb, _, _, hc, _⟩ := h.at (by omega)
  cases e
  exact ⟨b, o, rfl, hb, fun j hj => (hc j (by omega)).trans (uvL_get L m j hj)⟩
/-- what sets answers -/
def SetsA (ls : Nat → List Int) (m n : Nat) (W' : World) (base : Nat) (e : Ending) : Prop :=
  (e = .returned (.tuple #[.slice none 0 0, .int .i64 70]) ∧ ¬ ListsP ls m n) ∨
  (∃ p c, e = .returned (.tuple #[.slice p m c, .int .i64 0]) ∧ ListsP ls m n ∧ RowU W' p m (fun i => mskTo (zz (ls i)) (ls i).length))
set_option maxRecDepth 100000 in
set_option maxHeartbeats 2000000 in
theorem sets_any (la : Option Addr) (m n lc : Nat) (ls : Nat → List Int) (w : World) (hm : m ≤ 1099511627776) (hll : ∀ i, (ls i).length ≤ 1000) (hL : LstI w la m ls) :
    Calls Tryd.prog 67 #[.slice la m lc, .int .i64 (n : Int)] w fun e w' => SetsA ls m n w' w.heap.size e ∧ Below w.heap.size w w' := by
  obtain ⟨i0, hi0, hz0, hz1, hz2⟩ := info_parts info83
  have HL := Lib.hid hL
  clear hL
  obtain ⟨L, hLd⟩ : ∃ L : Nat → Nat, Hid (L = fun i => mskTo (zz (ls i)) (ls i).length) := ⟨_, rfl⟩
  by_cases hmn : m = n
  · subst hmn
    have g : ((m : Int) != (m : Int)) = false := by simp
    go_enter Tryd.func67, Tryd.ntmps67
    go_upto_region 5 with (fail)
    clear g
    go_loopw [6, 19] (fun s6 s19 wr => ∃ j : Nat, j ≤ m ∧ s19 = .int .i64 (j : Int) ∧ Hid (∀ i, i < j → Rise (ls i)) ∧ Hid (QRow wr w.heap.size 83 1 s6 j (uvL L j)) ∧ Hid (Below w.heap.size w wr)) (fun _ s19 _ => m - (intOf s19).toNat)
    case atStart => exact ⟨0, by omega, rfl, (fun i hi => by omega), QRow.nil _ _ _ _, Below.refl _ _⟩
    case round =>
      obtain ⟨j, hj, rfl, hp, hR, hB⟩ := hrel
      obtain ⟨p6, c6, rfl⟩ := hR.out.isSlice
      by_cases hjm : j < m
      · have g1 : (j : Int) < (m : Int) := by omega
        have g0 : (0 : Int) ≤ (j : Int) := by omega
        obtain ⟨lb, lo, rfl, hlb, hlc⟩ := HL.out (by omega)
        obtain ⟨lp, lc2, k2, hs⟩ := hlc j hjm
        have HS := Lib.hid hs
        have k3 := (hB.out.cell (p := ⟨lb, lo + j, none⟩) hlb).trans k2
        have hl := hll j
        have HN : Hid (Rise (ls j) → ∀ i, i < j + 1 → Rise (ls i)) := fun h i hi => by
          by_cases e : i = j
          · subst e; exact h
          · exact hp.out i (by omega)
        have HBD : Hid (¬ Rise (ls j) → ¬ ListsP ls m m) := fun h h' => h (h'.1 j hjm)
        have HRS : Hid (∀ k, k < (ls j).length → ¬ RiseAt (zz (ls j)) k → ¬ Rise (ls j)) := fun k hk h h' => h (h' k hk)
        have HRY : Hid ((∀ k, k < (ls j).length → RiseAt (zz (ls j)) k) → Rise (ls j)) := id
        have HLJ : Hid (L j = mskTo (zz (ls j)) (ls j).length) := by rw [hLd.out]; exact Lib.hid rfl
        have HPU := Lib.hid (uvL_push L j)
        generalize zz (ls j) = f at *
        generalize Rise (ls j) = R at *
        generalize (ls j).length = len at *
        clear hlc hs k2
        go_upto_region 9 with (fail)
        clear k3
        obtain ⟨wo, hwo⟩ : ∃ wo : World, Hid (wo = wr) := ⟨_, rfl⟩
        go_loopw [9, 10, 25] (fun s9 s10 s25 wr2 => ∃ k : Nat, k ≤ len ∧ s25 = .int .i64 (k : Int) ∧ s10 = .int .i64 (lastTo f k) ∧ s9 = .int .u64 (mskTo f k : Nat) ∧ Hid (∀ i, i < k → RiseAt f i) ∧ Hid (wr2 = wo)) (fun _ _ s25 _ => len - (intOf s25).toNat)
        case atStart => exact ⟨0, by omega, rfl, rfl, rfl, (fun i hi => by omega), hwo.out.symm⟩
        case round =>
          obtain ⟨k, hk, rfl, rfl, rfl, hpk, hw2⟩ := hrel
          have hwe := hw2.out.trans hwo.out
          subst hwe
          by_cases hkl : k < len
          · have g2 : (k : Int) < (len : Int) := by omega
            have g3 : (0 : Int) ≤ (k : Int) := by omega
            obtain ⟨b, o, rfl, hb, hc⟩ := HS.out (by omega)
            have k1 := (hB.out.cell (p := ⟨b, o + k, none⟩) hb).trans (hc k hkl)
            have HBX : Hid (¬ RiseAt f k → ¬ ListsP ls m m) := fun h => HBD.out (HRS.out k hkl h)
            have HNX : Hid (RiseAt f k → ∀ i, i < k + 1 → RiseAt f i) := fun h i hi => by
              by_cases e : i = k
              · subst e; exact h
              · exact hpk.out i (by omega)
            have HLA : Hid ((¬ f k ≤ lastTo f k ∧ ¬ 63 < f k) ↔ RiseAt f k) := by
              cases k with
              | zero => exact ⟨fun ⟨h1, h2⟩ => ⟨by have : lastTo f 0 = -1 := rfl; omega, by omega, fun h => by omega⟩, fun h => ⟨by have : lastTo f 0 = -1 := rfl; have := h.1; omega, by have := h.2.1; omega⟩⟩
              | succ k => exact ⟨fun ⟨h1, h2⟩ => ⟨by have : lastTo f (k + 1) = f k := rfl; have := (hpk.out k (by omega)).1; omega, by omega, fun _ => by have : lastTo f (k + 1) = f k := rfl; simp only [Nat.add_sub_cancel]; omega⟩, fun h => ⟨by have : lastTo f (k + 1) = f k := rfl; have := h.2.2 (by omega); simp only [Nat.add_sub_cancel] at this; omega, by have := h.2.1; omega⟩⟩
            have HM1 : Hid (mskTo f (k + 1) = mskTo f k ||| 2 ^ (f k).toNat) := rfl
            have HL1 : Hid (lastTo f (k + 1) = f k) := rfl
            have hmt := mskTo_lt hpk.out
            by_cases c1 : f k ≤ lastTo f k
            · have HNB := Lib.hid (HBX.out fun h => (HLA.out.2 h).1 c1)
              have d1 : decide (f k ≤ lastTo f k) = true := decide_eq_true c1
              clear c1 HBX HNX HLA hc hmt HM1 HL1
              generalize f k = fk at *
              generalize lastTo f k = lk at *
              go_wp2
              refine bodyPost_ret (v := .tuple #[.slice none 0 0, .int .i64 70]) (by simp [results, Tryd.f67, go_sem]) rfl ?_
              exact ⟨.inl ⟨rfl, HNB.out⟩, hB.out⟩
            · have d1 : decide (f k ≤ lastTo f k) = false := decide_eq_false c1
              by_cases c2 : 63 < f k
              · have HNB := Lib.hid (HBX.out fun h => (HLA.out.2 h).2 c2)
                have d2 : decide (63 < f k) = true := decide_eq_true c2
                clear c1 c2 HBX HNX HLA hc hmt HM1 HL1
                generalize f k = fk at *
                generalize lastTo f k = lk at *
                go_wp2
                refine bodyPost_ret (v := .tuple #[.slice none 0 0, .int .i64 70]) (by simp [results, Tryd.f67, go_sem]) rfl ?_
                exact ⟨.inl ⟨rfl, HNB.out⟩, hB.out⟩
              · have d2 : decide (63 < f k) = false := decide_eq_false c2
                have hra := HLA.out.1 ⟨c1, c2⟩
                have HNX2 := Lib.hid (HNX.out hra)
                obtain ⟨x, hx⟩ : ∃ x : Nat, f k = (x : Int) := ⟨(f k).toNat, by have := hra.1; omega⟩
                have hx64 : x < 64 := by have := hra.2.1; omega
                rw [hx] at k1 d1 d2 HM1 HL1
                rw [Int.toNat_natCast] at HM1
                have hwx : IntKind.u64.wrap (x : Int) = (x : Int) := u64_same _ (by omega)
                have hbo := bor64 (mskTo f k) x hmt hx64
                have h2x : (2 : Nat) ^ x < 18446744073709551616 := Nat.pow_lt_pow_right (n := 64) (by decide) hx64
                clear c1 c2 HBX HNX HLA hc hra hx
                obtain ⟨mk, hmk⟩ : ∃ mk, Hid (mk = mskTo f k) := ⟨_, rfl⟩
                rw [← hmk.out] at hbo hmt HM1 ⊢
                obtain ⟨lk, hlk⟩ : ∃ lk, Hid (lk = lastTo f k) := ⟨_, rfl⟩
                rw [← hlk.out] at d1 ⊢
                clear hmk hlk
                go_wp2
                exact ⟨⟨k + 1, by omega, int_eq (by omega), by rw [HL1.out], by rw [HM1.out], HNX2, hw2⟩, by simp [intOf]; omega⟩
          · have g2 : ¬ (k : Int) < (len : Int) := by omega
            have hke : k = len := by omega
            rw [hke] at hpk ⊢
            have HN2 := Lib.hid (HN.out (HRY.out hpk.out))
            have hmt := mskTo_lt hpk.out
            rw [← HLJ.out] at hmt ⊢
            clear hke
            have HALL : Hid (QRow (wr.alloc (.cells #[.int .u64 (L j : Nat)] 83)) w.heap.size 83 1 (.slice p6 j c6) j (uvL L j)) := hR.out.alloc _
            have HLT := Lib.hid hR.out.lt
            have hsz := hB.out.size
            go_wp2_with (at_builtin; go_must (refine wpList_append_q _ rfl (.tmp 43) (.tmp 45) 82 rfl w.heap.size 83 i0 (.int .u64 0) 1 8 Tryd.underlying82 hi0 hz0 hz1 hz2 rfl (by decide) _ j (uvL L j) rfl HALL.out ⟨_, 0, none⟩ 1 1 [.int .u64 (L j : Nat)] rfl rfl (cells_new1 _ _ _) (by simp [Value.oneCell']) (by unfold maxLen; omega) (by omega) (by simp; omega) ?_); intro v7 w7 hq7 hg7 ho7; have HQ7 : Hid (QRow w7 w.heap.size 83 1 v7 (j + 1) (uvL L (j + 1))) := (by rw [HPU.out]; exact hq7); have HB7 : Hid (Below w.heap.size w w7) := Below.grown (hB.out.alloc hsz _) hg7 (by simp; omega) (fun kk e => (HLT.out kk e).1); clear hq7 hg7 ho7)
            exact ⟨⟨j + 1, by omega, int_eq (by omega), HN2, HQ7, HB7⟩, by simp [intOf]; omega⟩
      · have g1 : ¬ (j : Int) < (m : Int) := by omega
        have hje : j = m := by omega
        rw [hje] at hp hR ⊢
        have HRU : Hid (RowU wr p6 m (fun i => mskTo (zz (ls i)) (ls i).length)) := by rw [← hLd.out]; exact hR.out.rowU
        have HLP : Hid (ListsP ls m m) := ⟨hp.out, rfl⟩
        clear hje
        go_wp2
        refine bodyPost_ret (v := .tuple #[.slice p6 m c6, .int .i64 0]) (by simp [results, Tryd.f67, go_sem]) rfl ?_
        exact ⟨.inr ⟨p6, c6, rfl, HLP.out, HRU.out⟩, hB.out⟩
  · have g : ((m : Int) != (n : Int)) = true := by rw [bne_iff_ne]; omega
    have HN : Hid (¬ ListsP ls m n) := fun h => hmn h.2
    clear hmn
    go_enter Tryd.func67, Tryd.ntmps67
    go_wp2
    refine bodyPost_ret (v := .tuple #[.slice none 0 0, .int .i64 70]) (by simp [results, Tryd.f67, go_sem]) rfl ?_
    exact ⟨.inl ⟨rfl, HN.out⟩, Below.refl _ _⟩
end Go.Proofs.YtpknnjcbcndbbaaDoor
namespace Go.Proofs.YtpknnjcbcndbbaaDoor
open Go.RowKit Go.Shelf

theorem RowU.congr {W : World} {p : Option Addr} {m : Nat} {L L' : Nat → Nat} (h : RowU W p m L) (e : ∀ i, i < m → L i = L' i) : RowU W p m L' := fun h0 => by
  obtain ⟨lb, lq, e1, h1, h2⟩ := h h0
  exact ⟨lb, lq, e1, h1, fun i hi => by rw [← e i hi]; exact h2 i hi⟩
/-- the lists as lists of naturals -/
def natL (ls : Nat → List Int) (i : Nat) : List Nat := (ls i).map Int.toNat
theorem mem_natL {ls : Nat → List Int} {i : Nat} (h : Rise (ls i)) {x : Nat} : x ∈ natL ls i ↔ (x : Int) ∈ ls i := by
  unfold natL
  rw [List.mem_map]
  constructor
  · rintro ⟨z, hz, rfl⟩
    obtain ⟨j, hj, rfl⟩ := inI_zz.2 hz
    have := (h j hj).1
    rw [Int.toNat_of_nonneg this]; exact hz
  · intro h; exact ⟨x, h, by simp⟩
theorem natL_lt {ls : Nat → List Int} {i : Nat} (h : Rise (ls i)) {x : Nat} (hx : x ∈ natL ls i) : x < 64 := by
  obtain ⟨j, hj, e⟩ := inI_zz.2 ((mem_natL h).1 hx)
  have := (h j hj).2.1
  omega
def maskL (ls : Nat → List Int) (m i : Nat) : Nat := if i < m then mskTo (zz (ls i)) (ls i).length else 0
/-- what FromLists answers -/
def FromP (ps : List (Int × Int)) (ls : Nat → List Int) (m : Nat) (W' : World) (base : Nat) (e : Ending) : Prop :=
  (e = .returned (.tuple #[.slice none 0 0, .bool false, .int .i64 70]) ∧ ¬ ListsP ls m ps.length) ∨
  (e = .returned (.tuple #[.slice none 0 0, .bool false, .int .i64 2]) ∧ ListsP ls m ps.length ∧ 12 < ps.length) ∨
  (e = .returned (.tuple #[.slice none 0 0, .bool false, .int .i64 0]) ∧ ListsP ls m ps.length ∧ ps.length ≤ 12 ∧ ¬ ∃ f, FamF ps (natL ls) f) ∨
  (∃ p c f, e = .returned (.tuple #[.slice p ps.length c, .bool true, .int .i64 0]) ∧ ListsP ls m ps.length ∧ ps.length ≤ 12 ∧ FamF ps (natL ls) f ∧ SrcI W' p ps.length (fun j => (f j : Int)))
set_option maxRecDepth 100000 in
set_option maxHeartbeats 4000000 in
theorem FromLists_ok (n : Nat) (a la : Option Addr) (cap m lc : Nat) (ps : List (Int × Int)) (ls : Nat → List Int) (w : World) (hT : Tab w) (hG : Good n ps a w) (hm : m ≤ 1099511627776) (hll : ∀ i, (ls i).length ≤ 1000) (hL : LstI w la m ls) :
    Calls Tryd.prog 38 #[.int .i64 (n : Int), .slice a ps.length cap, .slice la m lc] w fun e w' => FromP ps ls m w' w.heap.size e ∧ Below w.heap.size w w' := by
  have HO := Lib.hid (gopen_ok n a cap ps w hG.hl hG.hg hG.n1 hG.n2 hG.ok)
  have HG := Lib.hid hG
  have HT := Lib.hid hT
  have hlen := hG.hl
  have HE := Lib.hid (edgesOK hG.n2 hG.ok)
  have HSE : Hid (∀ W, Below w.heap.size w W → Calls Tryd.prog 67 #[.slice la m lc, .int .i64 (ps.length : Int)] W fun e w' => SetsA ls m ps.length w' W.heap.size e ∧ Below W.heap.size W w') := fun W hW => sets_any la m ps.length lc ls W hm hll (hL.below hW (Nat.le_refl _))
  clear hT hG hL
  go_enter Tryd.func38, Tryd.ntmps38
  go_upto_region 4 with (go_at_call 52; refine HO.out.mono ?_; rintro e w1 ⟨B, rfl, hBl, hg1, hb1⟩; have HG1 := Lib.hid hg1; have HB1 := Lib.hid hb1; clear hBl hg1 hb1)
  have HC := Lib.hid (HSE.out w1 HB1.out)
  clear HSE HO
  go_upto_region 5 with (go_at_call 67; refine (HC.out).mono ?_; rintro e w2 ⟨hs2, hB2⟩; have HB2 := Lib.hid hB2; clear hB2; rcases hs2 with ⟨rfl, hn⟩ | ⟨p2, c2, rfl, hl2, hr2⟩)
  · have HN := Lib.hid hn
    clear hn
    go_wp2
    refine bodyPost_ret (v := .tuple #[.slice none 0 0, .bool false, .int .i64 70]) (by simp [results, Tryd.f38, go_sem]) rfl ?_
    exact ⟨.inl ⟨rfl, HN.out⟩, HB1.out.trans (HB2.out.mono HB1.out.size)⟩
  · have HLP := Lib.hid hl2
    have hml := hl2.2
    have HBW := Lib.hid (HB1.out.trans (HB2.out.mono HB1.out.size))
    have HRU : Hid (RowU w2 p2 ps.length (maskL ls m)) := by rw [← hml]; exact hr2.congr fun i hi => by unfold maskL; rw [if_pos hi]
    have HL64 : Hid (∀ i, maskL ls m i < 18446744073709551616) := fun i => by
      unfold maskL
      by_cases h : i < m
      · rw [if_pos h]; exact mskTo_lt (hl2.1 i h)
      · rw [if_neg h]; decide
    have HMK : Hid (∀ i, i < ps.length → ∀ x, x ∈ natL ls i ↔ (maskL ls m i).testBit x = true) := fun i hi x => by
      have hi' : i < m := by omega
      unfold maskL
      rw [if_pos hi', mem_natL (hl2.1 i hi'), mask_of (hl2.1 i hi')]
    have HM64 : Hid (∀ i, i < ps.length → ∀ x, x ∈ natL ls i → x < 64) := fun i hi x hx => natL_lt (hl2.1 i (by omega)) hx
    clear hl2 hr2 HC
    by_cases h12 : 12 < ps.length
    · have g1 : (12 : Int) < (ps.length : Int) := by omega
      go_wp2
      refine bodyPost_ret (v := .tuple #[.slice none 0 0, .bool false, .int .i64 2]) (by simp [results, Tryd.f38, go_sem]) rfl ?_
      exact ⟨.inr (.inl ⟨rfl, HLP.out, h12⟩), HBW.out⟩
    · have g1 : ¬ (12 : Int) < (ps.length : Int) := by omega
      have g2 : decide ((12 : Int) < (ps.length : Int)) = false := decide_eq_false g1
      rw [hml]
      have HCH := Lib.hid (chosen_any B n a p2 cap c2 (ofE n ps) ps (maskL ls m) w2 ⟨HG1.out.below HB2.out (Nat.le_refl _), HG.out.hg.below HBW.out (Nat.le_refl _), HRU.out, HT.out.below HBW.out (Nat.le_refl _), HE.out, hlen, HL64.out⟩)
      go_upto_region 10 with (go_at_call 55; refine (HCH.out).mono ?_; rintro e w3 ⟨hs3, hB3⟩; have HB3 := Lib.hid (HBW.out.trans (hB3.mono HBW.out.size)); clear hB3; rcases hs3 with ⟨rfl, hn⟩ | ⟨v3, us, col, rfl, hq3, hi3, ho3⟩)
      · have HN : Hid (¬ ∃ f, FamF ps (natL ls) f) := fun ⟨f, F⟩ => hn ⟨_, hueOK_of HE.out (fun i hi x hx => ⟨HM64.out i hi x hx, (HMK.out i hi x).1 hx⟩) F⟩
        clear hn
        go_wp2
        refine bodyPost_ret (v := .tuple #[.slice none 0 0, .bool false, .int .i64 0]) (by simp [results, Tryd.f38, go_sem]) rfl ?_
        exact ⟨.inr (.inr (.inl ⟨rfl, HLP.out, by omega, HN.out⟩)), HB3.out⟩
      · obtain ⟨p3, c3, rfl⟩ := hq3.isSlice
        have HF := Lib.hid (fam_of HE.out (fun i hi x hx => (HMK.out i hi x).2 hx) ho3)
        have HS : Hid (SrcI w3 p3 ps.length (hf col ps)) := hq3.srcI (hl_get col ps)
        clear hq3 hi3 ho3
        go_wp2
        refine bodyPost_ret (v := .tuple #[.slice p3 ps.length c3, .bool true, .int .i64 0]) (by simp [results, Tryd.f38, go_sem]) rfl ?_
        exact ⟨.inr (.inr (.inr ⟨p3, c3, _, rfl, HLP.out, by omega, HF.out, HS.out⟩)), HB3.out⟩
end Go.Proofs.YtpknnjcbcndbbaaDoor
namespace Go.Proofs.YtpknnjcbcndbbaaDoor
open Go.RowKit Go.Shelf

/-- the set bits below k, rising -/
def bl (s k : Nat) : List Nat := (List.range k).filter fun j => s.testBit j
def cnt (s : Nat) : Nat := (bl s 64).length
theorem bl_succ (s k : Nat) : bl s (k + 1) = bl s k ++ (if s.testBit k then [k] else []) := by
  unfold bl
  rw [List.range_succ, List.filter_append, List.filter_cons, List.filter_nil]
theorem bl_len_le (s : Nat) : ∀ k, (bl s k).length ≤ k
  | 0 => by simp [bl]
  | k + 1 => by
    have := bl_len_le s k
    rw [bl_succ, List.length_append]
    split <;> simp <;> omega
theorem bl_pw (s x : Nat) (h : s.testBit x = false) : ∀ k, (bl (s ||| pw x) k).length = (bl s k).length + (if x < k then 1 else 0)
  | 0 => by simp [bl]
  | k + 1 => by
    have ih := bl_pw s x h k
    rw [bl_succ, bl_succ, List.length_append, List.length_append, ih, Nat.testBit_or, pw, Nat.testBit_two_pow]
    by_cases e : x = k
    · subst e
      rw [h, if_neg (Nat.lt_irrefl x), if_pos (Nat.lt_succ_self x)]
      simp
    · have e1 : decide (x = k) = false := decide_eq_false e
      rw [e1, Bool.or_false]
      by_cases hk : x < k
      · have h2 : x < k + 1 := by omega
        rw [if_pos hk, if_pos h2]; omega
      · have h2 : ¬ x < k + 1 := by omega
        rw [if_neg hk, if_neg h2]; omega
theorem cnt_pw {s x : Nat} (h : s.testBit x = false) (hx : x < 64) : cnt (s ||| pw x) = cnt s + 1 := by
  unfold cnt; rw [bl_pw s x h, if_pos hx]
theorem bl_mono (s : Nat) {k m : Nat} (h : k ≤ m) : (bl s k).length ≤ (bl s m).length := by
  obtain ⟨d, rfl⟩ := Nat.exists_eq_add_of_le h
  induction d with
  | zero => exact Nat.le_refl _
  | succ d ih =>
    have := ih (by omega)
    rw [← Nat.add_assoc, bl_succ, List.length_append]; omega
theorem bl_run (s a : Nat) : ∀ x, a ≤ x → (∀ y, a ≤ y → y < x → s.testBit y = true) → x - a ≤ (bl s x).length
  | 0, _, _ => by omega
  | x + 1, hx, h => by
    by_cases e : a = x + 1
    · omega
    · have ih := bl_run s a x (by omega) fun y h1 h2 => h y h1 (by omega)
      rw [bl_succ, List.length_append, h x (by omega) (by omega)]
      simp; omega
theorem cnt_run {s a x : Nat} (hx : a ≤ x) (hx64 : x ≤ 64) (h : ∀ y, a ≤ y → y < x → s.testBit y = true) : x ≤ cnt s + a := by
  have h1 := bl_run s a x hx h
  have h2 := bl_mono s hx64
  unfold cnt; omega
theorem cnt_le (s : Nat) : cnt s ≤ 64 := bl_len_le s 64
theorem cnt_zero : cnt 0 = 0 := by decide +kernel
theorem mem_bl {s k x : Nat} : x ∈ bl s k ↔ x < k ∧ s.testBit x = true := by unfold bl; rw [List.mem_filter, List.mem_range]
theorem bl_pair (s k : Nat) : (bl s k).Pairwise (· < ·) := List.Pairwise.filter _ List.pairwise_lt_range
/-- the list in integers -/
def zl (s : Nat) : List Int := (bl s 64).map fun (x : Nat) => (x : Int)
theorem zl_len (s : Nat) : (zl s).length = cnt s := by unfold zl cnt; rw [List.length_map]
theorem zl_zz {s j : Nat} (hj : j < (zl s).length) : ∃ h : j < (bl s 64).length, zz (zl s) j = (((bl s 64)[j]'h : Nat) : Int) := by
  have h : j < (bl s 64).length := by rw [zl_len] at hj; exact hj
  refine ⟨h, ?_⟩
  unfold zz zl
  rw [List.getElem?_map, List.getElem?_eq_getElem h]; rfl
theorem zl_rise (s : Nat) : Rise (zl s) := fun k hk => by
  obtain ⟨h, e⟩ := zl_zz hk
  have h1 := mem_bl.1 (List.getElem_mem h)
  refine ⟨by rw [e]; omega, by rw [e]; omega, fun h0 => ?_⟩
  obtain ⟨h', e'⟩ := zl_zz (s := s) (j := k - 1) (by omega)
  rw [e, e']
  have := List.pairwise_iff_getElem.1 (bl_pair s 64) (k - 1) k h' h (by omega)
  omega
/-- a row of 64 bools -/
def BoolRow (W : World) (B s : Nat) : Prop := ∃ vs, BoxN W B 106 vs ∧ vs.size = 64 ∧ ∀ j, j < 64 → vs[j]? = some (.bool (s.testBit j))
theorem BoolRow.lt {W : World} {B s : Nat} (h : BoolRow W B s) : B < W.heap.size := h.elim fun _ h => h.1.lt
theorem BoolRow.cell {W : World} {B s x : Nat} (h : BoolRow W B s) (hx : x < 64) : W.cell? ⟨B, x, none⟩ = some (.bool (s.testBit x)) := by
  obtain ⟨vs, h1, h2, h3⟩ := h
  rw [h1.cell]; exact h3 x hx
theorem BoolRow.frozen {W : World} {B s : Nat} (h : BoolRow W B s) (x : Nat) : W.frozen? ⟨B, x, none⟩ = false := by
  obtain ⟨vs, h1, _⟩ := h
  exact h1.frozen x
theorem BoolRow.set {W : World} {B s x : Nat} (h : BoolRow W B s) (_ : x < 64) : BoolRow (W.setCell ⟨B, x, none⟩ (.bool true)) B (s ||| pw x) := by
  obtain ⟨vs, h1, h2, h3⟩ := h
  refine ⟨_, h1.set x (.bool true), by simpa using h2, fun j hj => ?_⟩
  rw [Nat.testBit_or, pw, Nat.testBit_two_pow]
  by_cases e : x = j
  · subst e
    rw [Array.getElem?_setIfInBounds_self_of_lt (by omega)]; simp
  · rw [Array.getElem?_setIfInBounds_ne (by omega), h3 j hj]; simp [e]
end Go.Proofs.YtpknnjcbcndbbaaDoor
