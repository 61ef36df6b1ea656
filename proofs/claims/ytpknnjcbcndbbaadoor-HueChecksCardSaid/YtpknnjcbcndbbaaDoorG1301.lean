/- Of what is no graph: the error, from the functions that are left; the document's check; the degree. The law's copy of a list; the document's test of an odd ring: walks. A row of integers of the call's own, whatever it holds; and a list of integers, and of lists, as it comes in. HueChecks: the walk of the law. -/
import Derived.Test.YtpknnjcbcndbbaaDoorA06
import Derived.Test.YtpknnjcbcndbbaaDoorA12
import Derived.Test.YtpknnjcbcndbbaaDoorH01
import Derived.Test.YtpknnjcbcndbbaaDoorE01
import Derived.Test.YtpknnjcbcndbbaaDoorLo
import Derived.Test.YtpknnjcbcndbbaaDoorA14
import Derived.Test.YtpknnjcbcndbbaaDoorA15
import Derived.Test.YtpknnjcbcndbbaaDoorA17
set_option linter.unusedVariables false
set_option linter.unusedSimpArgs false
namespace Go.Proofs.YtpknnjcbcndbbaaDoor
open Go.RowKit Go.Shelf

set_option maxRecDepth 100000 in
set_option maxHeartbeats 1000000 in
theorem Degree_err (n : Int) (a : Option Addr) (cap : Nat) (ps : List (Int × Int)) (w : World) (hl : ps.length ≤ 1099511627776) (hg : Pairs w a ps) (hne : checkP n ps ≠ 0) :
    Calls Tryd.prog 48 #[.int .i64 n, .slice a ps.length cap] w fun e w' => e = .returned (.tuple #[.int .i64 0, .int .i64 (checkP n ps)]) ∧ Below w.heap.size w w' := by
  have HO := Lib.hid (gopen_err n a cap ps w hl hg hne)
  have hb : (checkP n ps != 0) = true := by simpa using hne
  clear hg hne
  generalize checkP n ps = c at *
  go_enter Tryd.func48, Tryd.ntmps48
  go_wp2_with (first
    | (go_at_call 52; refine HO.out.mono ?_; rintro e w1 ⟨rfl, hb1⟩; have HB1 := Lib.hid hb1; clear hb1))
  refine bodyPost_ret (v := .tuple #[.int .i64 0, .int .i64 c]) (by simp [results, Tryd.f48, go_sem]) rfl ?_
  exact ⟨rfl, HB1.out⟩
set_option maxRecDepth 100000 in
set_option maxHeartbeats 1000000 in
theorem Chromatic_err (n : Int) (a : Option Addr) (cap : Nat) (ps : List (Int × Int)) (w : World) (hl : ps.length ≤ 1099511627776) (hg : Pairs w a ps) (hne : checkP n ps ≠ 0) :
    Calls Tryd.prog 46 #[.int .i64 n, .slice a ps.length cap] w fun e w' => e = .returned (.tuple #[.int .i64 0, .slice none 0 0, .int .i64 (checkP n ps)]) ∧ Below w.heap.size w w' := by
  have HO := Lib.hid (gopen_err n a cap ps w hl hg hne)
  have hb : (checkP n ps != 0) = true := by simpa using hne
  clear hg hne
  generalize checkP n ps = c at *
  go_enter Tryd.func46, Tryd.ntmps46
  go_wp2_with (first
    | (go_at_call 52; refine HO.out.mono ?_; rintro e w1 ⟨rfl, hb1⟩; have HB1 := Lib.hid hb1; clear hb1))
  refine bodyPost_ret (v := .tuple #[.int .i64 0, .slice none 0 0, .int .i64 c]) (by simp [results, Tryd.f46, go_sem]) rfl ?_
  exact ⟨rfl, HB1.out⟩
set_option maxRecDepth 100000 in
set_option maxHeartbeats 1000000 in
theorem IsProper_err (n : Int) (a : Option Addr) (cap : Nat) (ps : List (Int × Int)) (w : World) (hl : ps.length ≤ 1099511627776) (hg : Pairs w a ps) (hne : checkP n ps ≠ 0) :
    Calls Tryd.prog 35 #[.int .i64 n, .slice a ps.length cap, .slice none 0 0] w fun e w' => e = .returned (.tuple #[.bool false, .int .i64 (checkP n ps)]) ∧ Below w.heap.size w w' := by
  have HO := Lib.hid (gopen_err n a cap ps w hl hg hne)
  have hb : (checkP n ps != 0) = true := by simpa using hne
  clear hg hne
  generalize checkP n ps = c at *
  go_enter Tryd.func35, Tryd.ntmps35
  go_wp2_with (first
    | (go_at_call 52; refine HO.out.mono ?_; rintro e w1 ⟨rfl, hb1⟩; have HB1 := Lib.hid hb1; clear hb1))
  refine bodyPost_ret (v := .tuple #[.bool false, .int .i64 c]) (by simp [results, Tryd.f35, go_sem]) rfl ?_
  exact ⟨rfl, HB1.out⟩
set_option maxRecDepth 100000 in
set_option maxHeartbeats 1000000 in
theorem Galvin_err (n : Int) (a : Option Addr) (cap : Nat) (ps : List (Int × Int)) (w : World) (hl : ps.length ≤ 1099511627776) (hg : Pairs w a ps) (hne : checkP n ps ≠ 0) :
    Calls Tryd.prog 49 #[.int .i64 n, .slice a ps.length cap, .slice none 0 0] w fun e w' => e = .returned (.tuple #[.slice none 0 0, .int .i64 (checkP n ps)]) ∧ Below w.heap.size w w' := by
  have HO := Lib.hid (gopen_err n a cap ps w hl hg hne)
  have hb : (checkP n ps != 0) = true := by simpa using hne
  clear hg hne
  generalize checkP n ps = c at *
  go_enter Tryd.func49, Tryd.ntmps49
  go_wp2_with (first
    | (go_at_call 52; refine HO.out.mono ?_; rintro e w1 ⟨rfl, hb1⟩; have HB1 := Lib.hid hb1; clear hb1))
  refine bodyPost_ret (v := .tuple #[.slice none 0 0, .int .i64 c]) (by simp [results, Tryd.f49, go_sem]) rfl ?_
  exact ⟨rfl, HB1.out⟩
set_option maxRecDepth 100000 in
set_option maxHeartbeats 1000000 in
theorem FromLists_err (n : Int) (a : Option Addr) (cap : Nat) (ps : List (Int × Int)) (w : World) (hl : ps.length ≤ 1099511627776) (hg : Pairs w a ps) (hne : checkP n ps ≠ 0) :
    Calls Tryd.prog 38 #[.int .i64 n, .slice a ps.length cap, .slice none 0 0] w fun e w' => e = .returned (.tuple #[.slice none 0 0, .bool false, .int .i64 (checkP n ps)]) ∧ Below w.heap.size w w' := by
  have HO := Lib.hid (gopen_err n a cap ps w hl hg hne)
  have hb : (checkP n ps != 0) = true := by simpa using hne
  clear hg hne
  generalize checkP n ps = c at *
  go_enter Tryd.func38, Tryd.ntmps38
  go_wp2_with (first
    | (go_at_call 52; refine HO.out.mono ?_; rintro e w1 ⟨rfl, hb1⟩; have HB1 := Lib.hid hb1; clear hb1))
  refine bodyPost_ret (v := .tuple #[.slice none 0 0, .bool false, .int .i64 c]) (by simp [results, Tryd.f38, go_sem]) rfl ?_
  exact ⟨rfl, HB1.out⟩
set_option maxRecDepth 100000 in
set_option maxHeartbeats 1000000 in
theorem Colours_err (n : Int) (a : Option Addr) (cap : Nat) (ps : List (Int × Int)) (w : World) (hl : ps.length ≤ 1099511627776) (hg : Pairs w a ps) (hne : checkP n ps ≠ 0) :
    Calls Tryd.prog 43 #[.int .i64 n, .slice a ps.length cap, .slice none 0 0] w fun e w' => e = .returned (.tuple #[.slice none 0 0, .bool false, .int .i64 (checkP n ps)]) ∧ Below w.heap.size w w' := by
  have HO := Lib.hid (gopen_err n a cap ps w hl hg hne)
  have hb : (checkP n ps != 0) = true := by simpa using hne
  clear hg hne
  generalize checkP n ps = c at *
  go_enter Tryd.func43, Tryd.ntmps43
  go_wp2_with (first
    | (go_at_call 52; refine HO.out.mono ?_; rintro e w1 ⟨rfl, hb1⟩; have HB1 := Lib.hid hb1; clear hb1))
  refine bodyPost_ret (v := .tuple #[.slice none 0 0, .bool false, .int .i64 c]) (by simp [results, Tryd.f43, go_sem]) rfl ?_
  exact ⟨rfl, HB1.out⟩
set_option maxRecDepth 100000 in
set_option maxHeartbeats 1000000 in
theorem check_any (n : Int) (a : Option Addr) (cap : Nat) (ps : List (Int × Int)) (w : World) (hl : ps.length ≤ 1099511627776) (hg : Pairs w a ps) :
    Calls Tryd.prog 50 #[.int .i64 n, .slice a ps.length cap] w fun e w' => e = .returned (.int .i64 (checkP n ps)) ∧ Below w.heap.size w w' := by
  have HE := Lib.hid (edges_any n a cap ps w hl hg)
  have HC : Hid (checkP n ps = if n < 1 ∨ 16 < n then 1 else if edgesB n ps = true then 0 else 40) := rfl
  clear hg
  generalize edgesB n ps = b at *
  by_cases c1 : n < 1
  · rw [HC.out, if_pos (.inl c1)]
    have d1 : decide (n < 1) = true := decide_eq_true c1
    go_enter Tryd.func50, Tryd.ntmps50
    go_wp2
    go_ret
    exact ⟨rfl, Below.refl _ _⟩
  · by_cases c2 : 16 < n
    · rw [HC.out, if_pos (.inr c2)]
      have d1 : decide (n < 1) = false := decide_eq_false c1
      have d2 : decide (16 < n) = true := decide_eq_true c2
      go_enter Tryd.func50, Tryd.ntmps50
      go_wp2
      go_ret
      exact ⟨rfl, Below.refl _ _⟩
    · rw [HC.out, if_neg (fun h => h.elim c1 c2)]
      have d1 : decide (n < 1) = false := decide_eq_false c1
      have d2 : decide (16 < n) = false := decide_eq_false c2
      cases b with
      | true =>
        rw [if_pos rfl]
        go_enter Tryd.func50, Tryd.ntmps50
        go_wp2_with (go_at_call 74; refine (HE.out).mono ?_; rintro e w1 ⟨rfl, m1, rfl⟩; try dsimp only)
        go_ret
        exact ⟨rfl, below_dr (Below.refl _ _) m1⟩
      | false =>
        rw [if_neg (by simp)]
        go_enter Tryd.func50, Tryd.ntmps50
        go_wp2_with (go_at_call 74; refine (HE.out).mono ?_; rintro e w1 ⟨rfl, m1, rfl⟩; try dsimp only)
        go_ret
        exact ⟨rfl, below_dr (Below.refl _ _) m1⟩
set_option maxRecDepth 100000 in
set_option maxHeartbeats 1000000 in
theorem Degree_okC (n : Nat) (a : Option Addr) (cap : Nat) (ps : List (Int × Int)) (w : World) (hG : Good n ps a w) :
    Calls Tryd.prog 48 #[.int .i64 (n : Int), .slice a ps.length cap] w fun e w' => e = .returned (.tuple #[.int .i64 (dgTo (ofE n ps) 16 : Nat), .int .i64 0]) ∧ Below w.heap.size w w' := by
  have HO := Lib.hid (gopen_ok n a cap ps w hG.hl hG.hg hG.n1 hG.n2 hG.ok)
  have HSM := Lib.hid (ofE_sm hG.n2 hG.ok)
  clear hG
  obtain ⟨g, hg⟩ : ∃ g, Hid (g = ofE n ps) := ⟨_, rfl⟩
  rw [← hg.out] at HO HSM ⊢
  have HDG : Hid (∀ B W, GraphAt W B n a cap ps.length g → Calls Tryd.prog 53 #[.pointer (some ⟨B, 0, none⟩)] W fun e w' => e = .returned (.int .i64 (dgTo g 16 : Nat)) ∧ w' = W) := fun B W h => degree_any B n a cap ps.length g W h HSM.out
  generalize dgTo g 16 = d at *
  go_enter Tryd.func48, Tryd.ntmps48
  go_wp2_with (first
    | (go_at_call 52; refine HO.out.mono ?_; rintro e w1 ⟨B, rfl, hBl, hg1, hb1⟩; have HG1 := Lib.hid hg1; have HB1 := Lib.hid hb1; clear hBl hg1 hb1)
    | (go_at_call 53; refine (HDG.out B _ HG1.out).mono ?_; rintro e w2 ⟨rfl, hw2⟩; subst hw2; try dsimp only))
  refine bodyPost_ret (v := .tuple #[.int .i64 (d : Int), .int .i64 0]) (by simp [results, Tryd.f48, go_sem]) rfl ?_
  exact ⟨rfl, HB1.out⟩
end Go.Proofs.YtpknnjcbcndbbaaDoor
namespace Go.Proofs.YtpknnjcbcndbbaaDoor
open Go.RowKit Go.Shelf

/-- a slice of integers as it comes in -/
structure IntsIn (w : World) (a : Option Addr) (cap : Nat) (xs : List Int) : Prop where
  g : SrcI w a xs.length (fun j => xs[j]?.getD 0)
  fits : xs.length ≤ cap
  capm : cap ≤ maxLen
  nil : a = none → cap = 0
theorem SrcI.take {w : World} {p : Option Addr} {m k : Nat} {f : Nat → Int} (h : SrcI w p m f) (hk : k ≤ m) : SrcI w p k f := fun h0 => by
  obtain ⟨b, o, e, h1, h2⟩ := h (by omega)
  exact ⟨b, o, e, h1, fun j hj => h2 j (by omega)⟩
set_option maxRecDepth 100000 in
set_option maxHeartbeats 2000000 in
theorem list_copy (a : Option Addr) (cap most : Nat) (xs : List Int) (w : World) (hm : most ≤ 1000) (h : IntsIn w a cap xs) :
    Calls Tryd.prog 34 #[.slice a xs.length cap, .int .i64 (most : Int)] w fun e w' => ∃ v, e = .returned v ∧ QRow w' w.heap.size 3 1 v (min xs.length most) (ivI (fun j => xs[j]?.getD 0) (min xs.length most)) ∧ Below w.heap.size w w' := by
  obtain ⟨i0, hi, hz0, hz1, hz2⟩ := info_parts info3
  have HS := Lib.hid ((h.g.take (Nat.min_le_left xs.length most)).src)
  have HONE := Lib.hid (ivI_one (fun j => xs[j]?.getD 0) (min xs.length most))
  have hf := h.fits
  have hcm := h.capm
  have hnil := h.nil
  unfold maxLen at hcm
  obtain ⟨k, hk⟩ : ∃ k, Hid (k = min xs.length most) := ⟨_, rfl⟩
  rw [← hk.out] at HS HONE ⊢
  have hkl : k ≤ xs.length := by rw [hk.out]; exact Nat.min_le_left _ _
  have hkm : k ≤ most := by rw [hk.out]; exact Nat.min_le_right _ _
  have hmin : min (xs.length : Int) (most : Int) = (k : Int) := by rw [hk.out]; omega
  generalize xs.length = len at *
  clear h
  cases a with
  | none =>
    have hc0 : cap = 0 := hnil rfl
    have hk0 : k = 0 := by omega
    clear hnil
    go_enter Tryd.func34, Tryd.ntmps34
    go_wp2
    go_ret
    refine ⟨_, rfl, ?_, Below.refl _ _⟩
    rw [hk0]
    exact QRow.nil _ _ _ _
  | some ad =>
    clear hnil
    go_enter Tryd.func34, Tryd.ntmps34
    go_wp2_with (at_builtin; go_must (refine wpList_append_qq _ rfl (.tmp 6) (.tmp 12) 25 rfl w.heap.size 3 i0 (.int .i64 0) 1 8 Tryd.underlying25 hi hz0 hz1 hz2 rfl (by decide) _ 0 [] rfl (QRow.nil _ _ _ _) (some ad) k cap (ivI (fun j => xs[j]?.getD 0) k) rfl HS.out HONE.out (by unfold maxLen; omega) (by omega) (Nat.le_refl _) ?_); intro v6 w6 hq6 hg6 ho6; have HB6 : Hid (Below w.heap.size w w6) := Below.grown (Below.refl _ w) hg6 (Nat.le_refl _) (fun kk e => by cases e); have HQ6 : Hid (QRow w6 w.heap.size 3 1 v6 k (ivI (fun j => xs[j]?.getD 0) k)) := (by rw [Nat.zero_add, List.nil_append] at hq6; exact hq6); clear hq6 hg6 ho6)
    go_ret
    exact ⟨v6, rfl, HQ6.out, HB6.out⟩
/-- an odd ring is found right -/
theorem nth_lt {l : List Nat} {n i : Nat} (h : ∀ x ∈ l, x < n) (hi : i < l.length) : nth l i < n := by
  unfold nth; rw [List.getElem?_eq_getElem hi]; exact h _ (List.getElem_mem hi)
def ringM (l : List Nat) : Nat → Nat
  | 0 => 0
  | k + 1 => ringM l k ||| pw (nth l k)
theorem ringM_bit (l : List Nat) (x : Nat) : ∀ k, (ringM l k).testBit x = true ↔ ∃ j, j < k ∧ nth l j = x
  | 0 => by simp [ringM]
  | k + 1 => by
    have ih := ringM_bit l x k
    rw [ringM, Nat.testBit_or, pw, Nat.testBit_two_pow, Bool.or_eq_true, ih, decide_eq_true_iff]
    constructor
    · rintro (⟨j, hj, h⟩ | h)
      · exact ⟨j, by omega, h⟩
      · exact ⟨k, by omega, h⟩
    · rintro ⟨j, hj, h⟩
      by_cases e : j = k
      · subst e; exact .inr h
      · exact .inl ⟨j, by omega, h⟩
theorem ringM_sm {l : List Nat} {n : Nat} (h : ∀ x ∈ l, x < n) (hn : n ≤ 16) : ∀ k, k ≤ l.length → Sm (ringM l k)
  | 0, _ => by unfold ringM; exact sm_of (by decide)
  | k + 1, hk => by
    rw [ringM]
    exact sm_or (ringM_sm h hn k (by omega)) (sm_pw (by have := nth_lt h (show k < l.length by omega); omega))
set_option maxRecDepth 100000 in
set_option maxHeartbeats 4000000 in
theorem roddring_true (n : Nat) (a : Option Addr) (cap : Nat) (p : Option Addr) (c : Nat) (g l : List Nat) (w : World) (hl : g.length = n) (hn : n ≤ 16) (hsm : ∀ i : Nat, Sm (g[i]?.getD 0)) (hg : Sets w a g) (hO : OddR g l) (hln : ∀ x ∈ l, x < n) (hs : SrcI w p l.length (fun j => (nth l j : Nat))) :
    Calls Tryd.prog 36 #[.slice a n cap, .slice p l.length c] w fun e w' => e = .returned (.bool true) ∧ Below w.heap.size w w' := by
  have hlen : l.length ≤ 16 := by
    have := nodup_sub l (List.range n) hO.nd (fun x hx => List.mem_range.2 (hln x hx))
    rw [List.length_range] at this; omega
  have hl3 := hO.len
  have hodd := hO.odd
  obtain ⟨b, off, rfl, hb, hc⟩ := hg
  have HC := Lib.hid hc
  have HS := Lib.hid hsm
  have HLN := Lib.hid hl
  have HOD := Lib.hid hO
  have HLT := Lib.hid hln
  obtain ⟨lb, lo, rfl, hlb, hlc⟩ := hs (by omega)
  have HLC := Lib.hid hlc
  clear hc hsm hl hO hln hlc hs
  obtain ⟨m, hm⟩ : ∃ m, Hid (m = l.length) := ⟨_, rfl⟩
  rw [← hm.out] at hlen hl3 hodd HLC ⊢
  have t1 : decide ((m : Int) < 3) = false := decide_eq_false (by omega)
  have t2 : ((m : Int) % 2 == 0) = false := by rw [beq_eq_false_iff_ne]; omega
  go_enter Tryd.func36, Tryd.ntmps36
  go_upto_region 5 with (fail)
  go_loopw [5, 6] (fun s5 s6 wr => ∃ k : Nat, k ≤ m ∧ s6 = .int .i64 (k : Int) ∧ s5 = .int .i64 (ringM l k : Nat) ∧ Hid (wr = w)) (fun _ s6 _ => 40 - (intOf s6).toNat)
  case atStart => exact ⟨0, by omega, rfl, rfl, rfl⟩
  case round =>
    obtain ⟨k, hk, rfl, rfl, hw⟩ := hrel
    rw [hw.out]
    by_cases hkm : k < m
    · have g1 : (k : Int) < (m : Int) := by omega
      have g0 : (0 : Int) ≤ (k : Int) := by omega
      have k1 : w.cell? ⟨lb, lo + k, none⟩ = some (.int .i64 (nth l k : Nat)) := HLC.out k hkm
      have hxn := nth_lt HLT.out (show k < l.length by rw [← hm.out]; exact hkm)
      have hsm := ringM_sm HLT.out hn k (by rw [← hm.out]; omega)
      have HNX : Hid (ringM l (k + 1) = ringM l k ||| pw (nth l k)) := rfl
      have hno : (ringM l k).testBit (nth l k) = false := by
        cases hb : (ringM l k).testBit (nth l k) with
        | false => rfl
        | true =>
          obtain ⟨j, hj, e⟩ := (ringM_bit l _ k).1 hb
          have := nth_nd HOD.out.nd (show j < l.length by rw [← hm.out]; omega) (show k < l.length by rw [← hm.out]; exact hkm) e
          omega
      generalize ringM l k = rm at *
      generalize nth l k = x at *
      have hx0 : (0 : Int) ≤ (x : Int) := by omega
      have t3 : decide ((x : Int) < 0) = false := decide_eq_false (by omega)
      have t4 : decide ((n : Int) ≤ (x : Int)) = false := decide_eq_false (by omega)
      have hx20 : x < 20 := by omega
      have hpx : wrap64 (2 ^ x) = ((pw x : Nat) : Int) := pw_cast _ (by omega)
      have hspx : Sm (pw x) := sm_pw (by omega)
      go_wp2
      exact ⟨⟨k + 1, by omega, int_eq (by omega), by rw [HNX.out], Lib.hid trivial⟩, by simp [intOf]; omega⟩
    · have g1 : ¬ (k : Int) < (m : Int) := by omega
      clear g1
      have g1 : ¬ (k : Int) < (m : Int) := by omega
      go_upto_region 11 with (fail)
      go_loopw [7] (fun s7 wr2 => ∃ i : Nat, i ≤ m ∧ s7 = .int .i64 (i : Int) ∧ Hid (Below w.heap.size w wr2)) (fun s7 _ => 40 - (intOf s7).toNat)
      case atStart => exact ⟨0, by omega, rfl, Below.refl _ _⟩
      case round =>
        obtain ⟨i, hi, rfl, hB⟩ := hrel
        by_cases him : i < m
        · have g2 : (i : Int) < (m : Int) := by omega
          have g0 : (0 : Int) ≤ (i : Int) := by omega
          have hnx : (i + 1) % m < m := Nat.mod_lt _ (by omega)
          have k1 : wr.cell? ⟨lb, lo + i, none⟩ = some (.int .i64 (nth l i : Nat)) := (hB.out.cell (p := ⟨lb, lo + i, none⟩) hlb).trans (HLC.out i him)
          have k2 : wr.cell? ⟨lb, lo + (i + 1) % m, none⟩ = some (.int .i64 (nth l ((i + 1) % m) : Nat)) := (hB.out.cell (p := ⟨lb, lo + (i + 1) % m, none⟩) hlb).trans (HLC.out _ hnx)
          have hxn := nth_lt HLT.out (show i < l.length by rw [← hm.out]; exact him)
          have hyn := nth_lt HLT.out (show (i + 1) % m < l.length by rw [← hm.out]; exact hnx)
          have k3 := (hB.out.cell (p := ⟨b, off + nth l i, none⟩) hb).trans (HC.out (nth l i) (by rw [HLN.out]; exact hxn))
          have hgk := HS.out (nth l i)
          have hbit : (g[nth l i]?.getD 0).testBit (nth l ((i + 1) % m)) = true := by
            have := HOD.out.edge i (by rw [← hm.out]; exact him)
            rw [← hm.out] at this
            exact this
          have hmi : ((i : Int) + 1) % (m : Int) = (((i + 1) % m : Nat) : Int) := by simp
          generalize (i + 1) % m = i2 at *
          generalize g[nth l i]?.getD 0 = z at *
          generalize nth l i = x at *
          generalize nth l i2 = y at *
          have e1 : (x : Int) < (n : Int) := by omega
          have e2 : (0 : Int) ≤ (x : Int) := by omega
          have e3 : (i2 : Int) < (m : Int) := by omega
          have e4 : (0 : Int) ≤ (i2 : Int) := by omega
          have e5 : (0 : Int) ≤ (y : Int) := by omega
          have e6 : y < 20 := by omega
          have e7 : ((m : Nat) : Int) ≠ 0 := by omega
          go_upto_region 13 with (fail)
          go_region
          go_wp2
          exact ⟨⟨i + 1, by omega, int_eq (by omega), hB.out.drew⟩, by simp [intOf]; omega⟩
        · have g2 : ¬ (i : Int) < (m : Int) := by omega
          go_wp2
          go_ret
          exact ⟨rfl, hB.out⟩
end Go.Proofs.YtpknnjcbcndbbaaDoor
namespace Go.Proofs.YtpknnjcbcndbbaaDoor
open Go.ChangeShapes Go.WideShapes Go.ChangeAt Go.RowKit

def slen : Value → Nat
  | .slice _ n _ => n
  | _ => 0
def IntRow (W : World) (N : Nat) (v : Value) (m : Nat) : Prop := ∃ f : Nat → Int, QRow W N 3 1 v m (ivI f m)
theorem QRow.cut {w : World} {base : Nat} {e : TypeId} {size : Nat} {p : Option Addr} {m c k : Nat} {xs : List Value} (h : QRow w base e size (.slice p m c) m xs) (hk : k ≤ m) : QRow w base e size (.slice p k c) k (xs.take (k * size)) := by
  have hks : k * size ≤ m * size := Nat.mul_le_mul_right _ hk
  refine ⟨by rw [List.length_take, h.1]; omega, ?_⟩
  rcases h.2 with ⟨e0, h0⟩ | ⟨g, o, cap, cur, e1, hb, hg, h1, h2, h3, h4⟩
  · cases e0; exact .inl ⟨by rw [show k = 0 by omega], by omega⟩
  · cases e1
    exact .inr ⟨g, o, c, cur, rfl, hb, hg, by omega, h2, h3, fun j hj => by rw [h4 j (by omega), List.getElem?_take, if_pos hj]⟩
theorem QRow.cap {w : World} {base : Nat} {e : TypeId} {size : Nat} {p : Option Addr} {m c : Nat} {xs : List Value} (h : QRow w base e size (.slice p m c) m xs) : m ≤ c ∧ c ≤ maxLen := by
  rcases h.2 with ⟨e0, h0⟩ | ⟨g, o, cap, cur, e1, hb, hg, h1, h2, _⟩
  · cases e0; exact ⟨Nat.le_refl _, by decide⟩
  · cases e1; exact ⟨h1, h2⟩
theorem ivI_take (f : Nat → Int) {k m : Nat} (hk : k ≤ m) : (ivI f m).take k = ivI f k := by
  unfold ivI
  rw [← List.map_take, List.take_range, Nat.min_eq_left hk]
theorem ivI_set (f : Nat → Int) {j m : Nat} (z : Int) : (ivI f m).set j (.int .i64 z) = ivI (fun i => if i = j then z else f i) m := by
  refine List.ext_getElem? fun i => ?_
  rw [List.getElem?_set]
  by_cases hi : i < m
  · rw [ivI_get _ m i hi, ivI_get _ m i hi]
    by_cases e : j = i
    · subst e; rw [ivI_len, if_pos rfl, if_pos hi, if_pos rfl]
    · rw [if_neg e, if_neg (Ne.symm e)]
  · rw [List.getElem?_eq_none (by rw [ivI_len]; omega), List.getElem?_eq_none (by rw [ivI_len]; omega), ivI_len]
    by_cases e : j = i
    · rw [if_pos e, if_neg (by omega)]
    · rw [if_neg e]
theorem ivI_push (f : Nat → Int) (m : Nat) (z : Int) : ivI f m ++ [.int .i64 z] = ivI (fun i => if i = m then z else f i) (m + 1) := by
  refine List.ext_getElem? fun i => ?_
  by_cases hi : i < m
  · rw [List.getElem?_append_left (by rw [ivI_len]; omega), ivI_get _ m i hi, ivI_get _ (m + 1) i (by omega), if_neg (by omega)]
  · rw [List.getElem?_append_right (by rw [ivI_len]; omega), ivI_len]
    by_cases e : i = m
    · subst e; rw [ivI_get _ (i + 1) i (by omega), if_pos rfl, Nat.sub_self]; rfl
    · rw [List.getElem?_eq_none (by simp; omega), List.getElem?_eq_none (by rw [ivI_len]; omega)]
theorem IntRow.take {W : World} {N : Nat} {p : Option Addr} {m c k : Nat} (h : IntRow W N (.slice p m c) m) (hk : k ≤ m) : IntRow W N (.slice p k c) k := by
  obtain ⟨f, h⟩ := h
  have := h.cut hk
  rw [Nat.mul_one, ivI_take f hk] at this
  exact ⟨f, this⟩
theorem IntRow.put {W : World} {N g o m c j : Nat} (h : IntRow W N (.slice (some ⟨g, o, none⟩) m c) m) (hj : j < m) (z : Int) : IntRow (W.setCell ⟨g, o + j, none⟩ (.int .i64 z)) N (.slice (some ⟨g, o, none⟩) m c) m := by
  obtain ⟨f, h⟩ := h
  have := h.set j (by omega) (.int .i64 z)
  rw [ivI_set f z] at this
  exact ⟨_, this⟩
theorem IntRow.lt {W : World} {N : Nat} {v : Value} {m : Nat} (h : IntRow W N v m) : ∀ k, v.ownBlock = some k → N ≤ k ∧ k < W.heap.size := by
  obtain ⟨f, h⟩ := h
  exact h.lt
theorem IntRow.below {W W' : World} {N n : Nat} {v : Value} {m : Nat} (h : IntRow W N v m) (hB : Below n W W') (hn : W.heap.size ≤ n) : IntRow W' N v m := by
  obtain ⟨f, h⟩ := h
  exact ⟨f, h.below hB fun k hk => Nat.lt_of_lt_of_le (h.lt k hk).2 hn⟩
theorem IntRow.cap {W : World} {N : Nat} {p : Option Addr} {m c : Nat} (h : IntRow W N (.slice p m c) m) : m ≤ c ∧ c ≤ maxLen := by
  obtain ⟨f, h⟩ := h
  exact h.cap
theorem IntRow.isSlice {W : World} {N : Nat} {v : Value} {m : Nat} (h : IntRow W N v m) : ∃ p c, v = .slice p m c := by
  obtain ⟨f, h⟩ := h
  exact h.isSlice
theorem open_ints_in {H : Type} {enc : TypeId × Value → H} {W : World} {a : Option Addr} {len cap : Nat} {d : DataW H} {p : List MemPlace}
    (h : ∃ fuel, DataW.trod enc Tryd.prog W 0 (fun _ => true) true fuel 25 (Value.slice a len cap).cells.toList = some (d, p)) : ∃ xs : List Int, IntsIn W a cap xs ∧ len = xs.length := by
  obtain ⟨fuel, hf⟩ := h
  rcases Go.ChangeShapes.open_ints Tryd.underlying25 Tryd.underlying3 cells3 hf with ⟨hcs, _⟩ | ⟨x, l, c, zs, hcs, _, hl, hm, hz, _, hcell, hwz⟩
  · simp [Value.cells] at hcs
    obtain ⟨rfl, rfl, rfl⟩ := hcs
    exact ⟨[], ⟨fun e => absurd rfl e, Nat.le_refl _, by decide, fun _ => rfl⟩, rfl⟩
  · simp [Value.cells] at hcs
    obtain ⟨rfl, rfl, rfl⟩ := hcs
    have hzl : zs.length = cap := by simpa using hz
    have hlen : (zs.take len).length = len := by rw [List.length_take]; omega
    refine ⟨zs.take len, ⟨fun hne => ?_, by rw [hlen]; exact hl, hm, fun e => (by cases e)⟩, hlen.symm⟩
    obtain ⟨b, off, sp⟩ := x
    have hc0 := hcell 0 (by omega)
    have hsp : sp = none := by
      unfold World.cell? at hc0
      cases sp with
      | none => rfl
      | some s =>
        simp [Addr.add] at hc0
        split at hc0 <;> simp_all
    subst hsp
    refine ⟨b, off, rfl, ?_, fun j hj => ?_⟩
    · obtain ⟨o, ho, _⟩ := cells_of_cell hc0
      exact (Array.getElem?_eq_some_iff.1 ho).1
    · rw [hlen] at hj
      have := hcell j (by omega)
      rw [Addr.add_lit] at this
      rw [this]; simp [List.getElem?_take, hj, List.getD_eq_getElem?_getD]
end Go.Proofs.YtpknnjcbcndbbaaDoor
namespace Go.Proofs.YtpknnjcbcndbbaaDoor
open Go.RowKit Go.Shelf

theorem Pairs.src {w : World} {a : Option Addr} {ps : List (Int × Int)} (h : Pairs w a ps) (k : Nat) (hk : k ≤ ps.length) : Src w a k 2 (pairCells (ps.take k)) := by
  have hl : (ps.take k).length = k := by rw [List.length_take]; omega
  refine ⟨by rw [pairCells_length, hl], fun hm => ?_⟩
  obtain ⟨b, off, e, h1, h2⟩ := h fun e => by rw [e] at hk; simp at hk; omega
  refine ⟨_, e, fun j u hu => ?_⟩
  have hj := (List.getElem?_eq_some_iff.1 hu).1
  rw [pairCells_length, hl] at hj
  have hq := h2 (j / 2) (by omega)
  have hg := pairCells_get (ps.take k) (j / 2) (by omega)
  have ht : (ps.take k)[j / 2]?.getD (0, 0) = ps[j / 2]?.getD (0, 0) := by rw [List.getElem?_take, if_pos (by omega)]
  rw [ht] at hg
  rw [Addr.add_lit]
  rcases Nat.mod_two_eq_zero_or_one j with h0 | h0
  · have e2 : j / 2 * 2 = j := by omega
    rw [e2] at hq hg
    rw [hg.1] at hu
    cases hu
    exact hq.1
  · have e2 : j / 2 * 2 + 1 = j := by omega
    rw [e2] at hg
    rw [hg.2] at hu
    cases hu
    have := hq.2
    rw [Nat.add_assoc, e2] at this
    exact this
theorem QRow.pairs {w : World} {base : Nat} {p : Option Addr} {m c : Nat} {ps : List (Int × Int)} (h : QRow w base 72 2 (.slice p m c) m (pairCells ps)) (hm : m = ps.length) : Pairs w p ps := fun hne => by
  have h0 := List.length_pos_iff.2 hne
  obtain ⟨b, o, cap, e, _, hb, _, _, hc, _⟩ := h.at (by omega)
  cases e
  refine ⟨b, o, rfl, hb, fun j hj => ?_⟩
  have := pairCells_get ps j hj
  exact ⟨(hc (j * 2) (by omega)).trans this.1, by rw [Nat.add_assoc]; exact (hc (j * 2 + 1) (by omega)).trans this.2⟩
theorem good_of {n : Int} {ps : List (Int × Int)} {a : Option Addr} {w : World} (hl : ps.length ≤ 1099511627776) (hg : Pairs w a ps) (h : checkP n ps = 0) : ∃ m : Nat, n = (m : Int) ∧ Good m ps a w := by
  unfold checkP at h
  by_cases hn : n < 1 ∨ 16 < n
  · rw [if_pos hn] at h; cases h
  · rw [if_neg hn] at h
    by_cases he : edgesB n ps = true
    · refine ⟨n.toNat, by omega, hl, hg, by omega, by omega, ?_⟩
      rw [show ((n.toNat : Nat) : Int) = n by omega]; exact he
    · rw [if_neg he] at h; cases h
set_option maxRecDepth 100000 in
set_option maxHeartbeats 4000000 in
theorem law13 (n : Int) (a : Option Addr) (cap : Nat) (ps : List (Int × Int)) (kk : Int) (w : World) (h : PairsIn w a cap ps) (hT : Tab w) :
    Calls Tryd.prog 13 #[.int .i64 n, .slice a ps.length cap, .int .i64 kk] w fun e w' => e = .returned (.bool true) ∧ Below w.heap.size w w' := by
  obtain ⟨i0, hi, hz0, hz1, hz2⟩ := info_parts info49
  have HT := Lib.hid hT
  have hf := h.fits
  have hcm := h.capm
  have hnil := h.nil
  unfold maxLen at hcm
  obtain ⟨k, hk⟩ : ∃ k, Hid (k = min ps.length 130) := ⟨_, rfl⟩
  have hkl : k ≤ ps.length := by rw [hk.out]; exact Nat.min_le_left _ _
  have hkm : k ≤ 130 := by rw [hk.out]; exact Nat.min_le_right _ _
  have hmin : min (ps.length : Int) (130 : Int) = (k : Int) := by rw [hk.out]; omega
  have HS := Lib.hid (h.g.src k hkl)
  have HONE := Lib.hid (pairCells_one (ps.take k))
  have HXL : Hid ((ps.take k).length = k) := by rw [Hid, List.length_take]; omega
  clear h hT
  have hkc : k ≤ cap := by omega
  obtain ⟨xs, hxs⟩ : ∃ xs, Hid (xs = ps.take k) := ⟨_, rfl⟩
  rw [← hxs.out] at HS HONE HXL
  generalize ps.length = len at *
  go_enter Tryd.func13, Tryd.ntmps13
  go_upto_region 3 with (at_builtin; go_must (refine wpList_append_qq _ rfl (.tmp 41) (.tmp 46) 22 rfl w.heap.size 72 i0 _ 2 16 Tryd.underlying22 hi hz0 hz1 hz2 rfl (by decide) _ 0 [] rfl (QRow.nil _ _ _ _) a k cap (pairCells xs) rfl HS.out HONE.out (by unfold maxLen; omega) (by omega) (Nat.le_refl _) ?_); intro v6 w6 hq6 hg6 ho6; have HB6 : Hid (Below w.heap.size w w6) := Below.grown (Below.refl _ w) hg6 (Nat.le_refl _) (fun kk e => by cases e); have HQ6 : Hid (QRow w6 w.heap.size 72 2 v6 k (pairCells xs)) := (by rw [Nat.zero_add, List.nil_append] at hq6; exact hq6); clear hq6 hg6 ho6)
  obtain ⟨p, c, rfl⟩ := HQ6.out.isSlice
  have HP := Lib.hid (HQ6.out.pairs HXL.out.symm)
  have hl2 : xs.length ≤ 1099511627776 := by rw [HXL.out]; omega
  rw [← HXL.out]
  have HCK := Lib.hid (check_any n p c xs w6 hl2 HP.out)
  have HAW : Hid (∀ W, Below w6.heap.size w6 W → Calls Tryd.prog 16 #[] W fun e w' => e = .returned (.bool true) ∧ Below W.heap.size W w') := fun W hW => awake_any W (HT.out.below (HB6.out.trans (hW.mono HB6.out.size)) (Nat.le_refl _))
  by_cases hc0 : checkP n xs = 0
  · obtain ⟨m, rfl, hG⟩ := good_of hl2 HP.out hc0
    rw [hc0] at HCK
    have hn2 := hG.n2
    have HDE := Lib.hid (fun W (hW : Below w6.heap.size w6 W) => Degree_okC m p c xs W (hG.below hW))
    have HOF := Lib.hid (fun W (hW : Below w6.heap.size w6 W) => of_any m p c xs W (hG.below hW))
    have HSM := Lib.hid (ofE_sm hG.n2 hG.ok)
    have HLN := Lib.hid (ofE_length m xs)
    obtain ⟨g, hg⟩ : ∃ g, Hid (g = ofE m xs) := ⟨_, rfl⟩
    rw [← hg.out] at HDE HOF HSM HLN
    have HRD : Hid (∀ b2 W, Sets W (some ⟨b2, 0, none⟩) g → Calls Tryd.prog 27 #[.slice (some ⟨b2, 0, none⟩) m m] W fun e w' => e = .returned (.int .i64 (dgTo g 16 : Nat)) ∧ w' = W) := fun b2 W hS => rdegree_any m _ m g W HLN.out hn2 HSM.out hS
    generalize dgTo g 16 = d at *
    have hdd : ((d : Int) == (d : Int)) = true := by simp
    clear hc0 hG HP HS HONE
    go_wp2_with (first
      | (go_at_call 50; refine (HCK.out).mono ?_; rintro e w7 ⟨rfl, hB7⟩; have HB7 := Lib.hid hB7; clear hB7; try dsimp only)
      | (go_at_call 48; refine (HDE.out _ HB7.out).mono ?_; rintro e w8 ⟨rfl, hB8⟩; have HB8 := Lib.hid (HB7.out.trans (hB8.mono HB7.out.size)); clear hB8; try dsimp only)
      | (go_at_call 21; refine (HOF.out _ HB8.out).mono ?_; rintro e w9 ⟨b9, rfl, -, hS9, hB9⟩; have HS9 := Lib.hid hS9; have HB9 := Lib.hid (HB8.out.trans (hB9.mono HB8.out.size)); clear hB9 hS9)
      | (go_at_call 27; refine (HRD.out b9 _ HS9.out).mono ?_; rintro e w10 ⟨rfl, hw10⟩; subst hw10; try dsimp only)
      | (go_at_call 16; refine (HAW.out _ HB9.out).mono ?_; rintro e w11 ⟨rfl, hB11⟩; have HB11 := Lib.hid (HB9.out.trans (hB11.mono HB9.out.size)); clear hB11))
    go_ret
    exact ⟨rfl, HB6.out.trans (HB11.out.mono HB6.out.size)⟩
  · have HPB : Hid (∀ W, Below w6.heap.size w6 W → Pairs W p xs) := fun W hW => HP.out.below hW (Nat.le_refl _)
    have H48 : Hid (∀ W, Below w6.heap.size w6 W → Calls Tryd.prog 48 #[.int .i64 n, .slice p xs.length c] W fun e w' => e = .returned (.tuple #[.int .i64 0, .int .i64 (checkP n xs)]) ∧ Below W.heap.size W w') := fun W hW => Degree_err n p c xs W hl2 (HPB.out W hW) hc0
    have H35 : Hid (∀ W, Below w6.heap.size w6 W → Calls Tryd.prog 35 #[.int .i64 n, .slice p xs.length c, .slice none 0 0] W fun e w' => e = .returned (.tuple #[.bool false, .int .i64 (checkP n xs)]) ∧ Below W.heap.size W w') := fun W hW => IsProper_err n p c xs W hl2 (HPB.out W hW) hc0
    have H32 : Hid (∀ W, Below w6.heap.size w6 W → Calls Tryd.prog 32 #[.int .i64 n, .slice p xs.length c] W fun e w' => e = .returned (.tuple #[.int .i64 0, .bool false, .int .i64 (checkP n xs)]) ∧ Below W.heap.size W w') := fun W hW => Sides_err n p c xs W hl2 (HPB.out W hW) hc0
    have H33 : Hid (∀ W, Below w6.heap.size w6 W → Calls Tryd.prog 33 #[.int .i64 n, .slice p xs.length c] W fun e w' => e = .returned (.tuple #[.slice none 0 0, .bool false, .int .i64 (checkP n xs)]) ∧ Below W.heap.size W w') := fun W hW => OddRing_err n p c xs W hl2 (HPB.out W hW) hc0
    have H28 : Hid (∀ W, Below w6.heap.size w6 W → Calls Tryd.prog 28 #[.int .i64 n, .slice p xs.length c] W fun e w' => e = .returned (.tuple #[.slice none 0 0, .int .i64 (checkP n xs)]) ∧ Below W.heap.size W w') := fun W hW => Vizing_err n p c xs W hl2 (HPB.out W hW) hc0
    have H29 : Hid (∀ W, Below w6.heap.size w6 W → Calls Tryd.prog 29 #[.int .i64 n, .slice p xs.length c] W fun e w' => e = .returned (.tuple #[.slice none 0 0, .int .i64 (checkP n xs)]) ∧ Below W.heap.size W w') := fun W hW => Konig_err n p c xs W hl2 (HPB.out W hW) hc0
    have H15 : Hid (∀ W, Below w6.heap.size w6 W → Calls Tryd.prog 15 #[.int .i64 n, .slice p xs.length c] W fun e w' => e = .returned (.tuple #[.slice none 0 0, .int .i64 (checkP n xs)]) ∧ Below W.heap.size W w') := fun W hW => Fewest_err n p c xs W hl2 (HPB.out W hW) hc0
    have H49 : Hid (∀ W, Below w6.heap.size w6 W → Calls Tryd.prog 49 #[.int .i64 n, .slice p xs.length c, .slice none 0 0] W fun e w' => e = .returned (.tuple #[.slice none 0 0, .int .i64 (checkP n xs)]) ∧ Below W.heap.size W w') := fun W hW => Galvin_err n p c xs W hl2 (HPB.out W hW) hc0
    have H38 : Hid (∀ W, Below w6.heap.size w6 W → Calls Tryd.prog 38 #[.int .i64 n, .slice p xs.length c, .slice none 0 0] W fun e w' => e = .returned (.tuple #[.slice none 0 0, .bool false, .int .i64 (checkP n xs)]) ∧ Below W.heap.size W w') := fun W hW => FromLists_err n p c xs W hl2 (HPB.out W hW) hc0
    have H22 : Hid (∀ W, Below w6.heap.size w6 W → Calls Tryd.prog 22 #[.int .i64 n, .slice p xs.length c] W fun e w' => e = .returned (.tuple #[.slice none 0 0, .int .i64 0, .int .i64 (checkP n xs)]) ∧ Below W.heap.size W w') := fun W hW => Order_err n p c xs W hl2 (HPB.out W hW) hc0
    have H25 : Hid (∀ W, Below w6.heap.size w6 W → Calls Tryd.prog 25 #[.int .i64 n, .slice p xs.length c, .int .i64 kk] W fun e w' => e = .returned (.tuple #[.int .i64 0, .int .i64 (checkP n xs)]) ∧ Below W.heap.size W w') := fun W hW => Core_err n p c kk xs W hl2 (HPB.out W hW) hc0
    have H43 : Hid (∀ W, Below w6.heap.size w6 W → Calls Tryd.prog 43 #[.int .i64 n, .slice p xs.length c, .slice none 0 0] W fun e w' => e = .returned (.tuple #[.slice none 0 0, .bool false, .int .i64 (checkP n xs)]) ∧ Below W.heap.size W w') := fun W hW => Colours_err n p c xs W hl2 (HPB.out W hW) hc0
    have H46 : Hid (∀ W, Below w6.heap.size w6 W → Calls Tryd.prog 46 #[.int .i64 n, .slice p xs.length c] W fun e w' => e = .returned (.tuple #[.int .i64 0, .slice none 0 0, .int .i64 (checkP n xs)]) ∧ Below W.heap.size W w') := fun W hW => Chromatic_err n p c xs W hl2 (HPB.out W hW) hc0
    have hcb : (checkP n xs == 0) = false := by rw [beq_eq_false_iff_ne]; exact hc0
    have hcc : (checkP n xs == checkP n xs) = true := by simp
    clear hc0 HP HS HONE
    generalize checkP n xs = cc at *
    go_wp2_with (first
      | (go_at_call 50; refine (HCK.out).mono ?_; rintro e v0 ⟨rfl, hB⟩; have KB0 := Lib.hid hB; clear hB; try dsimp only)
      | (go_at_call 48; refine (H48.out _ KB0.out).mono ?_; rintro e v1 ⟨rfl, hB⟩; have KB1 := Lib.hid (KB0.out.trans (hB.mono KB0.out.size)); clear hB; try dsimp only)
      | (go_at_call 35; refine (H35.out _ KB1.out).mono ?_; rintro e v2 ⟨rfl, hB⟩; have KB2 := Lib.hid (KB1.out.trans (hB.mono KB1.out.size)); clear hB; try dsimp only)
      | (go_at_call 32; refine (H32.out _ KB2.out).mono ?_; rintro e v3 ⟨rfl, hB⟩; have KB3 := Lib.hid (KB2.out.trans (hB.mono KB2.out.size)); clear hB; try dsimp only)
      | (go_at_call 33; refine (H33.out _ KB3.out).mono ?_; rintro e v4 ⟨rfl, hB⟩; have KB4 := Lib.hid (KB3.out.trans (hB.mono KB3.out.size)); clear hB; try dsimp only)
      | (go_at_call 28; refine (H28.out _ KB4.out).mono ?_; rintro e v5 ⟨rfl, hB⟩; have KB5 := Lib.hid (KB4.out.trans (hB.mono KB4.out.size)); clear hB; try dsimp only)
      | (go_at_call 29; refine (H29.out _ KB5.out).mono ?_; rintro e v6 ⟨rfl, hB⟩; have KB6 := Lib.hid (KB5.out.trans (hB.mono KB5.out.size)); clear hB; try dsimp only)
      | (go_at_call 15; refine (H15.out _ KB6.out).mono ?_; rintro e v7 ⟨rfl, hB⟩; have KB7 := Lib.hid (KB6.out.trans (hB.mono KB6.out.size)); clear hB; try dsimp only)
      | (go_at_call 49; refine (H49.out _ KB7.out).mono ?_; rintro e v8 ⟨rfl, hB⟩; have KB8 := Lib.hid (KB7.out.trans (hB.mono KB7.out.size)); clear hB; try dsimp only)
      | (go_at_call 38; refine (H38.out _ KB8.out).mono ?_; rintro e v9 ⟨rfl, hB⟩; have KB9 := Lib.hid (KB8.out.trans (hB.mono KB8.out.size)); clear hB; try dsimp only)
      | (go_at_call 22; refine (H22.out _ KB9.out).mono ?_; rintro e v10 ⟨rfl, hB⟩; have KB10 := Lib.hid (KB9.out.trans (hB.mono KB9.out.size)); clear hB; try dsimp only)
      | (go_at_call 25; refine (H25.out _ KB10.out).mono ?_; rintro e v11 ⟨rfl, hB⟩; have KB11 := Lib.hid (KB10.out.trans (hB.mono KB10.out.size)); clear hB; try dsimp only)
      | (go_at_call 43; refine (H43.out _ KB11.out).mono ?_; rintro e v12 ⟨rfl, hB⟩; have KB12 := Lib.hid (KB11.out.trans (hB.mono KB11.out.size)); clear hB; try dsimp only)
      | (go_at_call 46; refine (H46.out _ KB12.out).mono ?_; rintro e v13 ⟨rfl, hB⟩; have KB13 := Lib.hid (KB12.out.trans (hB.mono KB12.out.size)); clear hB; try dsimp only)
      | (go_at_call 16; refine (HAW.out _ KB13.out).mono ?_; rintro e v14 ⟨rfl, hB⟩; have KB14 := Lib.hid (KB13.out.trans (hB.mono KB13.out.size)); clear hB))
    go_ret
    exact ⟨rfl, HB6.out.trans (KB14.out.mono HB6.out.size)⟩
end Go.Proofs.YtpknnjcbcndbbaaDoor
