/- Plain: the levels of a chain. The closures of Rank: what a boat costs, and the fewest upsets, kept in a map. Rank: the first list with the fewest upsets. -/
import Derived.Test.YtbioondlmgolkaaG523
import Derived.Test.YtbioondlmgolkaaG524
import Derived.Test.YtbioondlmgolkaaG512
import Derived.Test.YtbioondlmgolkaaG517
import Derived.Test.YtbioondlmgolkaaG508
set_option linter.unusedVariables false
set_option linter.unusedSimpArgs false
namespace Go.Proofs.Ytbioondlmgolkaa
open Go.RowKit

section
variable {n : Nat} {t : Nat → Nat → Bool}
theorem chain_ok (H : TourP n t) (h1 : 1 ≤ n) (h12 : n ≤ 12) : TabOK n (fun _ => n) t ↔ TransP n t :=
  ⟨fun h => h.ord.tr, fun h => ⟨h1, h12, fun _ _ => rfl, ⟨H.irr, h⟩⟩⟩
theorem chain_size (h64 : n ≤ 64) (x : Nat) : size (bef n t x) = lvl n t x := size_bs h64
theorem lvl_inj (H : TourP n t) (hT : TransP n t) {y z : Nat} (hy : y < n) (hz : z < n) (e : lvl n t y = lvl n t z) : y = z := by
  by_cases hyz : y = z
  · exact hyz
  · cases e2 : t y z with
    | true => have := lvl_lt H hT hy hz e2; omega
    | false => have := lvl_lt H hT hz hy (H.or hy hz hyz e2); omega
theorem lvl_lt_n (H : TourP n t) {x : Nat} (hx : x < n) : lvl n t x < n := by have := wins H hx; omega
theorem chain_sets (H : TourP n t) (hT : TransP n t) (h64 : n ≤ 64) {l : List Nat} (hl : RkL n t l 0) {L : List Nat} (hL : SetsL n t L) : L = l.map (bef n t) := by
  have hlen := hl.len
  have hc := (hl.chain H hT).2
  refine pairwise_ext hL.up ?_ fun s => ?_
  · rw [List.pairwise_map, List.pairwise_iff_getElem]
    intro i j hi hj hij
    have h1 := hc i hi
    have h2 := hc j hj
    refine .inl ?_
    rw [chain_size h64, chain_size h64, h1, h2]
    exact hij
  · rw [hL.mem, List.mem_map]
    constructor
    · rintro ⟨x, hx, rfl⟩
      have h1 := lvl_lt_n H hx
      have h2 := hc (lvl n t x) (by omega)
      have h3 : l[lvl n t x]'(by omega) < n := hl.lt _ (List.getElem_mem _)
      exact ⟨l[lvl n t x]'(by omega), List.getElem_mem _, by rw [lvl_inj H hT h3 hx h2]⟩
    · rintro ⟨x, hx, rfl⟩
      exact ⟨x, hl.lt x hx, rfl⟩
theorem chain_len (H : TourP n t) (hT : TransP n t) (h64 : n ≤ 64) {l : List Nat} (hl : RkL n t l 0) {L : List Nat} (hL : SetsL n t L) : L.length = n := by rw [chain_sets H hT h64 hl hL, List.length_map]; exact hl.len
theorem chain_lvl (H : TourP n t) (hT : TransP n t) (h64 : n ≤ 64) {l : List Nat} (hl : RkL n t l 0) {L : List Nat} (hL : SetsL n t L) {x : Nat} (hx : x < n) : la (canonPs n t L) x = ((lvl n t x : Nat) : Int) := by
  have h0 : la (canonPs n t L) x = ((lftS L (bef n t x) : Nat) : Int) := by
    unfold la canonPs
    rw [List.getElem?_map, List.getElem?_range hx]; rfl
  rw [h0]
  congr 1
  have hlen := hl.len
  have h1 := lvl_lt_n H hx
  have h2 := (hl.chain H hT).2 (lvl n t x) (by omega)
  have h3 : l[lvl n t x]'(by omega) < n := hl.lt _ (List.getElem_mem _)
  have h4 := lvl_inj H hT h3 hx h2
  have h5 := hL.idx (k := lvl n t x) (by rw [chain_len H hT h64 hl hL]; exact h1)
  have h6 : nthN L (lvl n t x) = bef n t x := by
    unfold nthN
    rw [chain_sets H hT h64 hl hL, List.getElem?_map, List.getElem?_eq_getElem (by omega), h4]
    rfl
  rw [h6] at h5
  exact h5
theorem chain_weak (H : TourP n t) : Weak n t := fun x y hx hy h => by
  have := H.or hx hy h.1 h.2.1
  rw [h.2.2] at this; cases this
theorem LevA.chain {ln : Nat → Nat} {base : Nat} {e : Ending} {w' : World} (h : LevA n ln t base e w') (h1 : TabOK n ln t) (h2 : Weak n t) : ∃ v L, e = .returned (.tuple #[v, .int .i64 0]) ∧ SetsL n t L ∧ QRow w' base 3 1 v n (ivI (la (canonPs n t L)) n) := by
  rcases h with ⟨_, h⟩ | ⟨_, _, h⟩ | ⟨v, L, e, _, _, hS, hq⟩
  · exact absurd h1 h
  · exact absurd h2 h
  · exact ⟨v, L, e, hS, hq⟩
theorem MagA.chain {ln : Nat → Nat} {e : Ending} (h : MagA n ln t e) (h1 : TabOK n ln t) (H : TourP n t) (hT : TransP n t) (h64 : n ≤ 64) {l : List Nat} (hl : RkL n t l 0) : e = .returned (.tuple #[.int .i64 (n : Int), .int .i64 0]) := by
  rcases h with ⟨_, h⟩ | ⟨L, e, _, hS⟩
  · exact absurd h1 h
  · rw [e, chain_len H hT h64 hl hS]
theorem RkL.nths (H : TourP n t) (hT : TransP n t) {l : List Nat} (hl : RkL n t l 0) {x : Nat} (hx : x < n) : (iv l)[x]? = some (.int .i64 ((nth l x : Nat) : Int)) ∧ nth l x < n ∧ lvl n t (nth l x) = x := by
  have hlen := hl.len
  have e : nth l x = l[x]'(by omega) := by unfold nth; rw [List.getElem?_eq_getElem (by omega)]; rfl
  refine ⟨iv_get (by omega), ?_, ?_⟩
  · rw [e]; exact hl.lt _ (List.getElem_mem _)
  · rw [e]; exact (hl.chain H hT).2 x (by omega)
end
end Go.Proofs.Ytbioondlmgolkaa
namespace Go.Proofs.Ytbioondlmgolkaa
open Go.RowKit Go.Shelf
attribute [local go_sem] Oper.semAt_some

theorem kindK : MapKind Try.prog 96 3 3 kvN kvN 0 := natKind (by kernel_rfl) Try.underlying3 (fun _ => by kernel_rfl)
theorem sm_lt {n S : Nat} (hn : n ≤ 12) (h : ∀ i, S.testBit i = true → i < n) : Sm S := by
  refine Nat.lt_of_lt_of_le (Nat.lt_pow_two_of_testBit S (n := n) fun i hi => ?_) (show 2 ^ n ≤ 2 ^ 20 from Nat.pow_le_pow_right (by decide) (by omega))
  cases e : S.testBit i with
  | false => rfl
  | true => have := h i e; omega
theorem ups_zero (n : Nat) (t : Nat → Nat → Bool) (i S : Nat) : cnt (fun j => S.testBit j && t j i) 0 = 0 := rfl
set_option maxRecDepth 100000 in
theorem cost_any (Bg B n i S : Nat) (t : Nat → Nat → Bool) (w : World) (hn : n ≤ 12) (hi : i < n) (hS : ∀ i, S.testBit i = true → i < n) (hI : TrIn Bg B n t w) :
    Calls Try.prog 48 #[.int .i64 (i : Int), .int .i64 (S : Int), .pointer (some ⟨Bg, 0, none⟩)] w fun e w' => e = .returned (.int .i64 (ups n t i S : Int)) ∧ w' = w := by
  have hsm := sm_lt hn hS
  have k1 := hI.2.1
  have k2 := hI.1.cn
  have HR := Lib.hid hI.1
  clear hI
  go_enter Try.func48, Try.ntmps48
  go_upto_region 3 with (fail)
  go_loopw [6, 12] (fun s6 s12 wr => ∃ j : Nat, j ≤ n ∧ s6 = .int .i64 (cnt (fun j => S.testBit j && t j i) j : Int) ∧ s12 = .int .i64 (j : Int) ∧ Hid (w = wr)) (fun _ s12 _ => n - (intOf s12).toNat)
  case atStart => exact ⟨0, by omega, rfl, rfl, rfl⟩
  case round =>
    obtain ⟨j, hj, rfl, rfl, hw⟩ := hrel
    rw [← hw.out]
    clear hw
    by_cases hjn : j < n
    · have g1 : (j : Int) < (n : Int) := by omega
      have g2 : (0 : Int) ≤ (j : Int) := by omega
      have hz : IntKind.u64.wrap (j : Int) = (j : Int) := u64_same _ (by omega)
      have hc := cnt_le (fun j => S.testBit j && t j i) j
      have HC := Lib.hid (shas_any B n j i t w hn hjn hi HR.out)
      have HSU : Hid (cnt (fun j => S.testBit j && t j i) (j + 1) = cnt (fun j => S.testBit j && t j i) j + (S.testBit j && t j i).toNat) := rfl
      generalize cnt (fun j => S.testBit j && t j i) j = c at *
      cases hb : S.testBit j with
      | false =>
        rw [hb] at HSU
        go_wp2
        exact ⟨⟨j + 1, by omega, int_eq (by rw [HSU.out]; simp), int_eq (by omega), (by first | exact trivial | exact rfl)⟩, by simp [intOf]; omega⟩
      | true =>
        rw [hb] at HSU
        cases ht : t j i with
        | false =>
          rw [ht] at HSU HC
          go_wp2_with (go_at_call 49; refine HC.out.mono ?_; rintro e w4 ⟨rfl, hw4⟩; replace hw4 := hw4.symm; subst hw4; try dsimp only)
          exact ⟨⟨j + 1, by omega, int_eq (by rw [HSU.out]; simp), int_eq (by omega), (by first | exact trivial | exact rfl)⟩, by simp [intOf]; omega⟩
        | true =>
          rw [ht] at HSU HC
          go_wp2_with (go_at_call 49; refine HC.out.mono ?_; rintro e w4 ⟨rfl, hw4⟩; replace hw4 := hw4.symm; subst hw4; try dsimp only)
          exact ⟨⟨j + 1, by omega, int_eq (by rw [HSU.out]; simp), int_eq (by omega), (by first | exact trivial | exact rfl)⟩, by simp [intOf]; omega⟩
    · have g1 : ¬ (j : Int) < (n : Int) := by omega
      obtain rfl : n = j := by omega
      go_wp2
      go_ret
      exact ⟨rfl, rfl⟩
/-- what the recursive closure finds in its variables -/
structure RkW (bm M Bg B bc bf n : Nat) (t : Nat → Nat → Bool) (W : World) : Prop where
  tr : TrIn Bg B n t W
  cm : W.cell? ⟨bm, 0, none⟩ = some (.map (some M))
  cc : W.cell? ⟨bc, 0, none⟩ = some (.func (.func 48) #[] #[.pointer (some ⟨Bg, 0, none⟩)])
  cf : W.cell? ⟨bf, 0, none⟩ = some (.func (.func 50) #[] #[.pointer (some ⟨bm, 0, none⟩), .pointer (some ⟨Bg, 0, none⟩), .pointer (some ⟨bc, 0, none⟩), .pointer (some ⟨bf, 0, none⟩)])
  mp : ∃ col : Nat → Option Nat, MapF kvN kvN W M col ∧ (∀ S v, col S = some v → v = FW n t S) ∧ col 0 = some 0
  lts : bm < W.heap.size ∧ bc < W.heap.size ∧ bf < W.heap.size
  nes : bm ≠ M ∧ Bg ≠ M ∧ B ≠ M ∧ bc ≠ M ∧ bf ≠ M
section
variable {bm M Bg B bc bf n : Nat} {t : Nat → Nat → Bool} {W W' : World}
theorem RkW.lt (h : RkW bm M Bg B bc bf n t W) : M < W.heap.size := h.mp.elim fun _ hm => hm.1.lt
theorem RkW.ag (h : RkW bm M Bg B bc bf n t W) (hA : Ag (fun k => k = M) W W') (hm : ∃ col : Nat → Option Nat, MapF kvN kvN W' M col ∧ (∀ S v, col S = some v → v = FW n t S) ∧ col 0 = some 0) : RkW bm M Bg B bc bf n t W' where
  tr := h.tr.block (hA.block B h.tr.1.lt h.nes.2.2.1) (hA.block Bg h.tr.2.2 h.nes.2.1) hA.size
  cm := by rw [← h.cm]; exact World.cell?_of_block (hA.block bm h.lts.1 h.nes.1)
  cc := by rw [← h.cc]; exact World.cell?_of_block (hA.block bc h.lts.2.1 h.nes.2.2.2.1)
  cf := by rw [← h.cf]; exact World.cell?_of_block (hA.block bf h.lts.2.2 h.nes.2.2.2.2)
  mp := hm
  lts := ⟨Nat.lt_of_lt_of_le h.lts.1 hA.size, Nat.lt_of_lt_of_le h.lts.2.1 hA.size, Nat.lt_of_lt_of_le h.lts.2.2 hA.size⟩
  nes := h.nes
theorem RkW.keep (h : RkW bm M Bg B bc bf n t W) (hA : Ag (fun _ => False) W W') : RkW bm M Bg B bc bf n t W' :=
  h.ag (hA.mono fun _ h => h.elim) (by
    obtain ⟨col, h1, h2⟩ := h.mp
    exact ⟨col, h1.kept (hA.block M h.lt (fun h => h)), h2⟩)
end
/-- the worlds that the closure comes to -/
def RkC (bm M Bg B bc bf n : Nat) (t : Nat → Nat → Bool) (w : World) : Type := {W : World // RkW bm M Bg B bc bf n t W ∧ Ag (fun k => k = M) w W}
def RkC.w {bm M Bg B bc bf n : Nat} {t : Nat → Nat → Bool} {w : World} (d : RkC bm M Bg B bc bf n t w) : World := d.1
theorem RkC.ok {bm M Bg B bc bf n : Nat} {t : Nat → Nat → Bool} {w : World} (d : RkC bm M Bg B bc bf n t w) : RkW bm M Bg B bc bf n t d.w := d.2.1
theorem RkC.ag {bm M Bg B bc bf n : Nat} {t : Nat → Nat → Bool} {w : World} (d : RkC bm M Bg B bc bf n t w) : Ag (fun k => k = M) w d.w := d.2.2
theorem RkC.of {bm M Bg B bc bf n : Nat} {t : Nat → Nat → Bool} {w W : World} (h : RkW bm M Bg B bc bf n t W) (hA : Ag (fun k => k = M) w W) : ∃ d : RkC bm M Bg B bc bf n t w, W = d.w := ⟨⟨W, h, hA⟩, rfl⟩
theorem RkC.calls {bm M Bg B bc bf n : Nat} {t : Nat → Nat → Bool} {w : World} {f : FuncId} {args : Array Value} {d : RkC bm M Bg B bc bf n t w} {v : Value}
    (h : Calls Try.prog f args d.w fun e w' => e = .returned v ∧ RkW bm M Bg B bc bf n t w' ∧ Ag (fun k => k = M) d.w w') : Calls Try.prog f args d.w fun e w' => e = .returned v ∧ ∃ d' : RkC bm M Bg B bc bf n t w, w' = d'.w :=
  h.mono fun _ _ ⟨he, h1, h2⟩ => ⟨he, RkC.of h1 (d.ag.trans h2)⟩
theorem RkC.calls0 {bm M Bg B bc bf n : Nat} {t : Nat → Nat → Bool} {w : World} {f : FuncId} {args : Array Value} {d : RkC bm M Bg B bc bf n t w} {v : Value}
    (h : Calls Try.prog f args d.w fun e w' => e = .returned v ∧ w' = d.w) : Calls Try.prog f args d.w fun e w' => e = .returned v ∧ ∃ d' : RkC bm M Bg B bc bf n t w, w' = d'.w :=
  h.mono fun _ _ ⟨he, h1⟩ => ⟨he, d, h1⟩
/-- a region that draws its order, by a class of worlds that is an image -/
theorem wp_region_cls {D : Type} (f : D → World) {P : Program} {id : Nat} {Q : Exit → Act → World → Prop} {a : Act} {w : World} {l : List Oper} (hm : P.follows .mixedOrders = true) (hB : Region.lexB .any l.toArray = true) (hC : ∃ d, { w with drawn := w.drawn + 1 } = f d)
    (h : wpQuiet P l.toArray (fun W => ∃ d, W = f d) (fun a' => ∀ W, (∃ d, W = f d) → Q .normal a' W) l a) : (Code.region id l.toArray true).wp P Q a w :=
  wp_region_quiet (C := fun W => ∃ d, W = f d) hm hB hC (by simpa using h)
set_option maxRecDepth 100000 in
set_option maxHeartbeats 4000000 in
theorem fewest_step (bm M Bg B bc bf n S : Nat) (t : Nat → Nat → Bool) (hn : n ≤ 10) (hS : ∀ i, S.testBit i = true → i < n) (w : World) (HW : Hid (RkW bm M Bg B bc bf n t w))
    (HF : Hid (∀ S' : Nat, S' < S → (∀ i, S'.testBit i = true → i < n) → ∀ w, RkW bm M Bg B bc bf n t w →
      Calls Try.prog 50 #[.int .i64 (S' : Int), .pointer (some ⟨bm, 0, none⟩), .pointer (some ⟨Bg, 0, none⟩), .pointer (some ⟨bc, 0, none⟩), .pointer (some ⟨bf, 0, none⟩)] w fun e w' => e = .returned (.int .i64 (FW n t S' : Int)) ∧ RkW bm M Bg B bc bf n t w' ∧ Ag (fun k => k = M) w w')) :
    Calls Try.prog 50 #[.int .i64 (S : Int), .pointer (some ⟨bm, 0, none⟩), .pointer (some ⟨Bg, 0, none⟩), .pointer (some ⟨bc, 0, none⟩), .pointer (some ⟨bf, 0, none⟩)] w fun e w' => e = .returned (.int .i64 (FW n t S : Int)) ∧ RkW bm M Bg B bc bf n t w' ∧ Ag (fun k => k = M) w w' := by
  have hsm := sm_lt (by omega) hS
  have HS := Lib.hid hS
  clear hS
  have k1 := HW.out.cm
  obtain ⟨col, hM, hcol, h0⟩ := HW.out.mp
  have hl := look_f kindK true S w M col hM
  cases hc : col S with
  | some v =>
    have HV := Lib.hid (hcol S v hc)
    replace hl : Sem.run Try.prog (Instr.lookup 96 (.map (some M)) (.int .i64 (S : Int)) true) w = .ok (.tuple #[.int .i64 (v : Int), .bool true]) w := by simpa [hc, kvN] using hl
    clear hM hcol h0 hc
    go_enter Try.func50, Try.ntmps50
    go_wp2
    go_ret
    exact ⟨by rw [← HV.out]; rfl, HW.out, Ag.refl _ _⟩
  | none =>
    have hS0 : Hid (S ≠ 0) := fun e => by
      subst e
      rw [h0] at hc; cases hc
    replace hl : Sem.run Try.prog (Instr.lookup 96 (.map (some M)) (.int .i64 (S : Int)) true) w = .ok (.tuple #[.int .i64 0, .bool false]) w := by simpa [hc, kvN] using hl
    have k2 := HW.out.tr.2.1
    have k3 := HW.out.tr.1.cn
    have hnn : n * n ≤ 100 := Nat.mul_le_mul hn hn
    have e1 : (n : Int) * (n : Int) = ((n * n : Nat) : Int) := by simp
    have HE0 : Hid (bst n t (FW n t) S 0 = n * n) := rfl
    generalize n * n = nn at *
    clear hM hcol h0 hc
    go_enter Try.func50, Try.ntmps50
    go_wp2
    go_quiet (fail)
    have HW1 : Hid (RkW bm M Bg B bc bf n t (w.drewN nq)) := HW.out.keep ((Ag.refl _ w).drewN nq)
    have HA1 : Hid (Ag (fun k => k = M) w (w.drewN nq)) := (Ag.refl _ w).drewN nq
    clear k1 k2 k3 hl HW
    generalize w.drewN nq = wA at *
    have k2 := HW1.out.tr.2.1
    have k3 := HW1.out.tr.1.cn
    go_upto_region 6 with (fail)
    go_loopw [9, 33] (fun s9 s33 wr => ∃ i : Nat, i ≤ n ∧ s9 = .int .i64 (bst n t (FW n t) S i : Int) ∧ s33 = .int .i64 (i : Int) ∧ Hid (RkW bm M Bg B bc bf n t wr) ∧ Hid (Ag (fun k => k = M) w wr)) (fun _ s33 _ => n - (intOf s33).toNat)
    case atStart => exact ⟨0, by omega, int_eq (by rw [HE0.out]), rfl, HW1, HA1⟩
    case round =>
      clear HW1 HA1 k2 k3 HE0
      obtain ⟨i, hi, rfl, rfl, HW, HA⟩ := hrel
      have hbl := bst_le (n := n) (t := t) (FW n t) S i
      have hbl2 : bst n t (FW n t) S i ≤ 100 := Nat.le_trans hbl (Nat.mul_le_mul hn hn)
      by_cases hin : i < n
      · have g1 : (i : Int) < (n : Int) := by omega
        have g2 : (0 : Int) ≤ (i : Int) := by omega
        have g3 : (i : Int) < 64 := by omega
        have hz : IntKind.u64.wrap (i : Int) = (i : Int) := u64_same _ (by omega)
        have hpw := sm_pw (k := i) (by omega)
        have hpc := pw_cast i (by omega)
        have HSU : Hid (bst n t (FW n t) S (i + 1) = if S.testBit i = true then min (bst n t (FW n t) S i) (ups n t i (clr S i) + FW n t (clr S i)) else bst n t (FW n t) S i) := rfl
        cases hb : S.testBit i with
        | false =>
          rw [hb] at HSU
          generalize bst n t (FW n t) S i = bs0 at *
          clear hbl
          go_wp2
          exact ⟨⟨i + 1, by omega, int_eq (by rw [HSU.out]; simp), int_eq (by omega), HW, HA⟩, by simp [intOf]; omega⟩
        | true =>
          rw [if_pos hb] at HSU
          have HT1 := Lib.hid (clr_lt hb)
          have HT2 : Hid (∀ j, (clr S i).testBit j = true → j < n) := clr_in HS.out
          have hu := ups_le (n := n) (t := t) i (clr S i)
          have hf : FW n t (clr S i) ≤ 100 := Nat.le_trans (FW_le HT2.out) (Nat.mul_le_mul hn hn)
          generalize bst n t (FW n t) S i = bs0 at *
          clear hbl
          go_upto_region 10 with (fail)
          obtain ⟨T, hT⟩ : ∃ T, Hid (T = clr S i) := ⟨_, rfl⟩
          rw [show ldiff S (pw i) = T from hT.out.symm]
          rw [← hT.out] at HT1 HT2 hu hf HSU
          have HCO : Hid (∀ d : RkC bm M Bg B bc bf n t wr, Calls Try.prog 48 #[.int .i64 (i : Int), .int .i64 (T : Int), .pointer (some ⟨Bg, 0, none⟩)] d.w fun e w' => e = .returned (.int .i64 (ups n t i T : Int)) ∧ ∃ d' : RkC bm M Bg B bc bf n t wr, w' = d'.w) := fun d => RkC.calls0 (cost_any Bg B n i T t d.w (by omega) hin HT2.out d.ok.tr)
          have HFE : Hid (∀ d : RkC bm M Bg B bc bf n t wr, Calls Try.prog 50 #[.int .i64 (T : Int), .pointer (some ⟨bm, 0, none⟩), .pointer (some ⟨Bg, 0, none⟩), .pointer (some ⟨bc, 0, none⟩), .pointer (some ⟨bf, 0, none⟩)] d.w fun e w' => e = .returned (.int .i64 (FW n t T : Int)) ∧ ∃ d' : RkC bm M Bg B bc bf n t wr, w' = d'.w) := fun d => RkC.calls (HF.out T HT1.out HT2.out d.w d.ok)
          have m0 : ∀ d : RkC bm M Bg B bc bf n t wr, d.w.cell? ⟨bc, 0, none⟩ = some (.func (.func 48) #[] #[.pointer (some ⟨Bg, 0, none⟩)]) := fun d => d.ok.cc
          have m1 : ∀ d : RkC bm M Bg B bc bf n t wr, d.w.cell? ⟨bf, 0, none⟩ = some (.func (.func 50) #[] #[.pointer (some ⟨bm, 0, none⟩), .pointer (some ⟨Bg, 0, none⟩), .pointer (some ⟨bc, 0, none⟩), .pointer (some ⟨bf, 0, none⟩)]) := fun d => d.ok.cf
          haveI : Nonempty (RkC bm M Bg B bc bf n t wr) := ⟨⟨wr, HW.out, Ag.refl _ _⟩⟩
          generalize ups n t i T = uu at *
          generalize FW n t T = ff at *
          refine wp_region_cls (RkC.w (w := wr) (bm := bm) (M := M) (Bg := Bg) (B := B) (bc := bc) (bf := bf) (n := n) (t := t)) (by kernel_rfl) (by kernel_rfl) (RkC.of (HW.out.keep ((Ag.refl _ wr).drewN 1)) ((Ag.refl _ wr).drewN 1)) ?_
          repeat (go_big_quiet_step ((first
            | rfl
            | (go_at_call 48; exact HCO.out _)
            | (go_at_call 50; exact HFE.out _))))
          refine wpQuiet_nil ?_
          rintro _ ⟨d, rfl⟩
          have HWd := Lib.hid d.ok
          have HAd := Lib.hid (HA.out.trans d.ag)
          clear m0 m1 HCO HFE
          generalize d.w = Z at *
          go_wp2
          exact ⟨⟨i + 1, by omega, int_eq (by rw [HSU.out]; omega), int_eq (by omega), HWd, HAd⟩, by simp [intOf]; omega⟩
      · have g1 : ¬ (i : Int) < (n : Int) := by omega
        obtain rfl : n = i := by omega
        obtain ⟨col, hM, hcol, h0⟩ := HW.out.mp
        have k1 := HW.out.cm
        have HMM := Lib.hid hM
        have HCL := Lib.hid hcol
        have H00 := Lib.hid h0
        have HFS := Lib.hid (FW_eq (n := n) (t := t) hS0.out)
        clear hM hcol h0
        generalize bst n t (FW n t) S n = bs0 at *
        go_wp2_with (refine wpList_store_f kindK rfl (.tmp 58) (.tmp 59) (.tmp 60) rfl M col S bs0 rfl rfl rfl HMM.out ?_; intro w8 hM8 hg8; have HM8 := Lib.hid hM8; have HG8 := Lib.hid hg8; clear hM8 hg8)
        go_ret
        have hA8 : Ag (fun k => k = M) wr w8 := Ag.of_grown HG8.out (fun k e => (Option.some.inj e).symm)
        refine ⟨by rw [HFS.out]; rfl, HW.out.ag hA8 ⟨_, HM8.out, fun S' v hv => ?_, ?_⟩, HA.out.trans hA8⟩
        · unfold setF at hv
          by_cases e : S' = S
          · rw [if_pos e] at hv
            rw [e, HFS.out]; exact (Option.some.inj hv).symm
          · rw [if_neg e] at hv
            exact HCL.out S' v hv
        · unfold setF
          rw [if_neg (fun e => hS0.out e.symm)]
          exact H00.out
theorem fewest_any (bm M Bg B bc bf n : Nat) (t : Nat → Nat → Bool) (hn : n ≤ 10) : ∀ (k S : Nat), S ≤ k → (∀ i, S.testBit i = true → i < n) → ∀ w, RkW bm M Bg B bc bf n t w →
    Calls Try.prog 50 #[.int .i64 (S : Int), .pointer (some ⟨bm, 0, none⟩), .pointer (some ⟨Bg, 0, none⟩), .pointer (some ⟨bc, 0, none⟩), .pointer (some ⟨bf, 0, none⟩)] w fun e w' => e = .returned (.int .i64 (FW n t S : Int)) ∧ RkW bm M Bg B bc bf n t w' ∧ Ag (fun k => k = M) w w' := by
  intro k
  induction k with
  | zero => exact fun S h hS w hW => fewest_step bm M Bg B bc bf n S t hn hS w hW (fun S' h' => by omega)
  | succ k ih => exact fun S h hS w hW => fewest_step bm M Bg B bc bf n S t hn hS w hW (fun S' h' => ih S' (by omega))
end Go.Proofs.Ytbioondlmgolkaa
namespace Go.Proofs.Ytbioondlmgolkaa
open Go.RowKit Go.Shelf
attribute [local go_sem] Oper.semAt_some

theorem wpList_insert_f {P : Program} {T K E : TypeId} {α β : Type} [DecidableEq α] {kv : α → Value} {vv : β → Value} {z : β} (hk : MapKind P T K E kv vv z) {w : World} {ops : Array Oper} {rest : List Oper} {o : Oper} {act : Act} {Q : Exit → Act → World → Prop} (hgd : o.guard = none) (m x y : Operand) (ho : o.op = Op.insert T m x y) (M : Nat) (col : α → Option β) (a : α) (b : β)
    (hm : act.eval m = .map (some M)) (hx : act.eval x = kv a) (hy : act.eval y = vv b) (hM : MapF kv vv w M col) (hK : ∀ w', MapF kv vv w' M (setF col a (some b)) → w.grownBy w' (some M) → wpList P ops Q rest (act.put o.dst undef) w') : wpList P ops Q (o :: rest) act w := by
  refine wpList_plain hgd fun K hK' => ?_
  obtain ⟨w', hr, h1, h2⟩ := store_f hk a b w M col hM
  unfold Oper.wp
  simp [execOp, ho, hm, hx, hy, hr, Result.andThen, Oper.upon]
  exact hK' _ _ (hK w' h1 h2)
theorem RkW.high {bm M Bg B bc bf n base : Nat} {t : Nat → Nat → Bool} {W W' : World} (h : RkW bm M Bg B bc bf n t W) (hb : bm < base ∧ M < base ∧ Bg < base ∧ B < base ∧ bc < base ∧ bf < base) (hA : Ag (fun k => base ≤ k) W W') : RkW bm M Bg B bc bf n t W' where
  tr := h.tr.block (hA.block B h.tr.1.lt (by omega)) (hA.block Bg h.tr.2.2 (by omega)) hA.size
  cm := by rw [← h.cm]; exact World.cell?_of_block (hA.block bm h.lts.1 (by omega))
  cc := by rw [← h.cc]; exact World.cell?_of_block (hA.block bc h.lts.2.1 (by omega))
  cf := by rw [← h.cf]; exact World.cell?_of_block (hA.block bf h.lts.2.2 (by omega))
  mp := by
    obtain ⟨col, h1, h2⟩ := h.mp
    exact ⟨col, h1.kept (hA.block M h.lt (by omega)), h2⟩
  lts := ⟨Nat.lt_of_lt_of_le h.lts.1 hA.size, Nat.lt_of_lt_of_le h.lts.2.1 hA.size, Nat.lt_of_lt_of_le h.lts.2.2 hA.size⟩
  nes := h.nes
theorem pick_eq {n : Nat} {t : Nat → Nat → Bool} {S i : Nat} (hb : S.testBit i = true) : Pick n t S i ↔ ups n t i (clr S i) + FW n t (clr S i) = FW n t S := ⟨fun h => h.2, fun h => ⟨hb, h⟩⟩
set_option maxRecDepth 100000 in
set_option maxHeartbeats 8000000 in
theorem Rank_ok (la : Option Addr) (n lc : Nat) (t : Nat → Nat → Bool) (w : World) (hn1 : 1 ≤ n) (hn10 : n ≤ 10) (hP : TourP n t) (hT : TblI w la n (fun _ => n) t) :
    Calls Try.prog 22 #[.slice la n lc] w fun e w' => (∃ p c l, e = .returned (.tuple #[.slice p n c, .int .i64 (FW n t (full n) : Int), .int .i64 0]) ∧ RkL n t l 0 ∧ QRow w' w.heap.size 3 1 (.slice p n c) n (iv l)) ∧ Below w.heap.size w w' := by
  obtain ⟨i0, hi0, hz0, hz1, hz2⟩ := info_parts info3
  have HO := Lib.hid (sopen_ok la n lc t w hn1 (by omega) hP hT)
  have hpw := sm_pw (k := n) (by omega)
  have hfl := sm_full (n := n) (by omega)
  clear hP hT
  have hmm := @run_makeMap Try.prog
  have hpc := pw_cast n (by omega)
  have hwf : wrap64 (((pw n : Nat) : Int) - 1) = ((full n : Nat) : Int) := by
    rw [full_cast]
    rw [← IntWalk.i64_left]; exact wrap_small _ hfl.lt
  have g10 : ¬ (10 : Int) < (n : Int) := by omega
  have g0 : (0 : Int) ≤ (n : Int) := by omega
  have g64 : (n : Int) < 64 := by omega
  have hz : IntKind.u64.wrap (n : Int) = (n : Int) := u64_same _ (by omega)
  go_enter Try.func22, Try.ntmps22
  go_upto_region 4 with (first
    | (go_at_call 28; refine HO.out.mono ?_; rintro e w1 ⟨B, rfl, hwB, hreg, hB1⟩; have HWB := Lib.hid hwB; have HR1 := Lib.hid hreg; have HB1 := Lib.hid hB1; have k3 := hreg.cn; have hBl := hreg.lt; clear hreg hB1 hwB))
  obtain ⟨Bg, hBg⟩ : ∃ Bg, Hid (Bg = w1.heap.size) := ⟨_, rfl⟩
  have x1 : BoxN (w1.alloc (.cells #[.pointer (some ⟨B, 0, none⟩)] 60)) w1.heap.size 60 #[.pointer (some ⟨B, 0, none⟩)] := BoxN.new rfl
  have HBX : Hid (Below w1.heap.size w1 (w1.alloc (.cells #[.pointer (some ⟨B, 0, none⟩)] 60))) := (Below.refl _ _).alloc (Nat.le_refl _) _
  have hsz : (w1.alloc (.cells #[.pointer (some ⟨B, 0, none⟩)] 60)).heap.size = w1.heap.size + 1 := by simp
  generalize (w1.alloc (.cells #[.pointer (some ⟨B, 0, none⟩)] 60)) = wA at *
  rw [← hBg.out] at x1 HBX hsz hBl ⊢
  have k3' : wA.cell? ⟨B, 0, none⟩ = some (.int .i64 (n : Int)) := (HBX.out.cell (p := ⟨B, 0, none⟩) hBl).trans k3
  have k2 := x1.cell 0
  clear k3
  have HMM : Hid (MapF kvN kvN (wA.alloc (.map #[] 0)) (Bg + 1) (fun _ : Nat => (none : Option Nat))) := by
    rw [← hsz]; exact MapF.made wA
  go_upto_region 11 with (refine wpList_insert_f kindK rfl (.tmp 35) (.const (.int .i64 0)) (.const (.int .i64 0)) rfl (Bg + 1) (fun _ : Nat => (none : Option Nat)) 0 0 rfl rfl rfl HMM.out ?_; intro w8 hM8 hg8; have HM8 := Lib.hid hM8; have HG8 := Lib.hid hg8; clear hM8 hg8)
  obtain ⟨b8, hb8⟩ : ∃ b8, Hid (b8 = w8.heap.size) := ⟨_, rfl⟩
  have X0 := ((boxed_at (W := w8) (B := w8.heap.size) (t := 96) (v := .map (some (Bg + 1))) rfl).alloc (.cells #[.func (.func 50) #[] #[.pointer (some ⟨w8.heap.size, 0, none⟩), .pointer (some ⟨Bg, 0, none⟩), .pointer (some ⟨w8.heap.size + 1 + 1, 0, none⟩), .pointer (some ⟨w8.heap.size + 1, 0, none⟩)]] 43)).alloc (.cells #[.func (.func 48) #[] #[.pointer (some ⟨Bg, 0, none⟩)]] 23)
  have X1 := (boxed_at (W := (w8.alloc (.cells #[.map (some (Bg + 1))] 96))) (B := w8.heap.size + 1) (t := 43) (v := .func (.func 50) #[] #[.pointer (some ⟨w8.heap.size, 0, none⟩), .pointer (some ⟨Bg, 0, none⟩), .pointer (some ⟨w8.heap.size + 1 + 1, 0, none⟩), .pointer (some ⟨w8.heap.size + 1, 0, none⟩)]) (by simp)).alloc (.cells #[.func (.func 48) #[] #[.pointer (some ⟨Bg, 0, none⟩)]] 23)
  have X2 := boxed_at (W := ((w8.alloc (.cells #[.map (some (Bg + 1))] 96)).alloc (.cells #[.func (.func 50) #[] #[.pointer (some ⟨w8.heap.size, 0, none⟩), .pointer (some ⟨Bg, 0, none⟩), .pointer (some ⟨w8.heap.size + 1 + 1, 0, none⟩), .pointer (some ⟨w8.heap.size + 1, 0, none⟩)]] 43))) (B := w8.heap.size + 1 + 1) (t := 23) (v := .func (.func 48) #[] #[.pointer (some ⟨Bg, 0, none⟩)]) (by simp)
  have HA0 : Hid (Ag (fun k => k = Bg + 1) wA (((w8.alloc (.cells #[.map (some (Bg + 1))] 96)).alloc (.cells #[.func (.func 50) #[] #[.pointer (some ⟨w8.heap.size, 0, none⟩), .pointer (some ⟨Bg, 0, none⟩), .pointer (some ⟨w8.heap.size + 1 + 1, 0, none⟩), .pointer (some ⟨w8.heap.size + 1, 0, none⟩)]] 43)).alloc (.cells #[.func (.func 48) #[] #[.pointer (some ⟨Bg, 0, none⟩)]] 23))) :=
    (((((Ag.refl _ wA).alloc (.map #[] 0)).grown HG8.out (fun k e => .inr (Option.some.inj e).symm)).alloc _).alloc _).alloc _
  have HMU : Hid (MapF kvN kvN (((w8.alloc (.cells #[.map (some (Bg + 1))] 96)).alloc (.cells #[.func (.func 50) #[] #[.pointer (some ⟨w8.heap.size, 0, none⟩), .pointer (some ⟨Bg, 0, none⟩), .pointer (some ⟨w8.heap.size + 1 + 1, 0, none⟩), .pointer (some ⟨w8.heap.size + 1, 0, none⟩)]] 43)).alloc (.cells #[.func (.func 48) #[] #[.pointer (some ⟨Bg, 0, none⟩)]] 23)) (Bg + 1) (setF (fun _ : Nat => (none : Option Nat)) 0 (some 0))) :=
    ((HM8.out.grown (World.grownBy_alloc _ _ none) (by simp)).grown (World.grownBy_alloc _ _ none) (by simp)).grown (World.grownBy_alloc _ _ none) (by simp)
  have hs8 : Bg + 2 ≤ w8.heap.size := by
    have h1 := HG8.out.size
    rw [World.size_alloc, hsz] at h1
    omega
  generalize (((w8.alloc (.cells #[.map (some (Bg + 1))] 96)).alloc (.cells #[.func (.func 50) #[] #[.pointer (some ⟨w8.heap.size, 0, none⟩), .pointer (some ⟨Bg, 0, none⟩), .pointer (some ⟨w8.heap.size + 1 + 1, 0, none⟩), .pointer (some ⟨w8.heap.size + 1, 0, none⟩)]] 43)).alloc (.cells #[.func (.func 48) #[] #[.pointer (some ⟨Bg, 0, none⟩)]] 23)) = U at *
  rw [← hb8.out] at X0 X1 X2 hs8 ⊢
  have HSF : Hid (∀ S v : Nat, setF (fun _ : Nat => (none : Option Nat)) 0 (some 0) S = some v → v = FW n t S) := fun S v hv => by
    unfold setF at hv
    by_cases e : S = 0
    · rw [if_pos e] at hv
      subst e
      exact (Option.some.inj hv).symm
    · rw [if_neg e] at hv; cases hv
  have HWU : Hid (RkW b8 (Bg + 1) Bg B (b8 + 1 + 1) (b8 + 1) n t U) :=
    { tr := TrIn.block ⟨HR1.out.below HBX.out hBl, k2, x1.lt⟩ (HA0.out.block B (Nat.lt_trans hBl x1.lt) (by omega)) (HA0.out.block Bg x1.lt (by omega)) HA0.out.size
      cm := X0.cell
      cc := X2.cell
      cf := X1.cell
      mp := ⟨_, HMU.out, HSF.out, by unfold setF; rw [if_pos rfl]⟩
      lts := ⟨X0.lt, X2.lt, X1.lt⟩
      nes := ⟨by omega, by omega, by omega, by omega, by omega⟩ }
  have hw1 : w.heap.size ≤ Bg := by rw [hBg.out]; exact HB1.out.size
  have HBU : Hid (Below w.heap.size w U) := HA0.out.below (HB1.out.trans (HBX.out.mono hw1)) (by omega) (fun k hk => by omega)
  have HLT : Hid (b8 < U.heap.size ∧ Bg + 1 < U.heap.size ∧ Bg < U.heap.size ∧ B < U.heap.size ∧ b8 + 1 + 1 < U.heap.size ∧ b8 + 1 < U.heap.size) := by
    have := X0.lt; have := X1.lt; have := X2.lt
    exact ⟨by omega, by omega, by omega, by omega, by omega, by omega⟩
  obtain ⟨M, hMM⟩ : ∃ M, Hid (M = Bg + 1) := ⟨_, rfl⟩
  obtain ⟨bc, hbc⟩ : ∃ bc, Hid (bc = b8 + 1 + 1) := ⟨_, rfl⟩
  obtain ⟨bf, hbf⟩ : ∃ bf, Hid (bf = b8 + 1) := ⟨_, rfl⟩
  rw [← hMM.out, ← hbc.out, ← hbf.out] at HWU HLT
  simp only [← hMM.out]
  simp only [← hbc.out]
  simp only [← hbf.out]
  have hwM : w.heap.size ≤ M := by rw [hMM.out]; omega
  have hU : w.heap.size ≤ U.heap.size := HBU.out.size
  clear X0 X1 X2 HA0 HMU HMM HM8 HG8 x1 k2 k3' hs8 HBX HR1 HB1 HO hmm
  clear hMM hbc hbf HSF
  have HFA := Lib.hid (fun S (hS : ∀ i, S.testBit i = true → i < n) W hW => fewest_any b8 M Bg B bc bf n t hn10 S S (Nat.le_refl _) hS W hW)
  go_upto_region 13 with (fail)
  go_loopw [11, 12] (fun s11 s12 wr => ∃ (l : List Nat) (S : Nat), s12 = .int .i64 (S : Int) ∧ Hid (RkL n t l S) ∧ Hid (QRow wr U.heap.size 3 1 s11 l.length (iv l)) ∧ Hid (RkW b8 M Bg B bc bf n t wr) ∧ Hid (Below w.heap.size w wr) ∧ U.heap.size ≤ wr.heap.size) (fun _ s12 _ => (intOf s12).toNat)
  case atStart => exact ⟨[], full n, rfl, RkL.nil, QRow.nil _ _ _ _, HWU, HBU, Nat.le_refl _⟩
  case round =>
    clear HWU HBU
    obtain ⟨l, S, rfl, hL, hQ, hW, hB, hUw⟩ := hrel
    obtain ⟨p11, c11, rfl⟩ := hQ.out.isSlice
    have hsm := sm_lt (by omega) hL.out.left.1
    by_cases hS0 : S = 0
    · subst hS0
      have hln := hL.out.len
      rw [hln] at hQ ⊢
      have HFF := Lib.hid (HFA.out (full n) full_in wr hW.out)
      have kf := hW.out.cf
      clear hln
      go_wp2_with (go_at_call 50; refine HFF.out.mono ?_; rintro e w9 ⟨rfl, hW9, hA9⟩; have HA9 := Lib.hid hA9; clear hA9 hW9)
      refine bodyPost_ret (v := .tuple #[.slice p11 n c11, .int .i64 (FW n t (full n) : Int), .int .i64 0]) (by simp [results, Try.f22, go_sem]) rfl ?_
      refine ⟨⟨p11, c11, l, rfl, hL.out, (HA9.out.qrow hQ.out (fun k hk e => ?_)).mono hU⟩, HA9.out.below hB.out hB.out.size (fun k hk e => by omega)⟩
      have := (hQ.out.lt k hk).1
      have := HLT.out
      omega
    · have g1 : ¬ (S : Int) = 0 := by omega
      have HSI : Hid (∀ i, S.testBit i = true → i < n) := hL.out.left.1
      have hll : l.length ≤ n := by have := hL.out.left.2; omega
      obtain ⟨wo, hwo⟩ : ∃ wo, Hid (wo = wr) := ⟨_, rfl⟩
      rw [← hwo.out] at hQ hW hB hUw ⊢
      clear hwo
      have k2 := hW.out.tr.2.1
      have k3 := hW.out.tr.1.cn
      go_wp2
      go_step3
      go_wp2
      go_step3
      go_upto_region 15 with (fail)
      go_loopw [11, 12, 46] (fun s11 s12 s46 wq => ∃ i : Nat, i ≤ n ∧ s11 = .slice p11 l.length c11 ∧ s12 = .int .i64 (S : Int) ∧ s46 = .int .i64 (i : Int) ∧ Hid (∀ i', i' < i → ¬ Pick n t S i') ∧ Hid (RkW b8 M Bg B bc bf n t wq) ∧ Hid (Ag (fun k => k = M) wo wq)) (fun _ _ s46 _ => n - (intOf s46).toNat)
      case atStart => exact ⟨0, by omega, rfl, rfl, rfl, fun i' h => by omega, hW, Ag.refl _ _⟩
      case round =>
        clear hW k2 k3
        obtain ⟨i, hi, rfl, rfl, rfl, hP, hW, hA⟩ := hrel
        by_cases hin : i < n
        · have g2 : (i : Int) < (n : Int) := by omega
          have g3 : (0 : Int) ≤ (i : Int) := by omega
          have hz : IntKind.u64.wrap (i : Int) = (i : Int) := u64_same _ (by omega)
          have hpw := sm_pw (k := i) (by omega)
          have hpc := pw_cast i (by omega)
          have HPN : Hid (¬ Pick n t S i → ∀ i', i' < i + 1 → ¬ Pick n t S i') := fun h i' hi' => by
            by_cases e : i' = i
            · rw [e]; exact h
            · exact hP.out i' (by omega)
          cases hb : S.testBit i with
          | false =>
            have HPF := Lib.hid (HPN.out (fun h => by rw [h.1] at hb; cases hb))
            go_wp2
            exact ⟨⟨i + 1, by omega, rfl, rfl, int_eq (by omega), HPF, hW, hA⟩, by simp [intOf]; omega⟩
          | true =>
            have HT1 := Lib.hid (clr_lt hb)
            have HT2 : Hid (∀ j, (clr S i).testBit j = true → j < n) := clr_in HSI.out
            have hu := ups_le (n := n) (t := t) i (clr S i)
            have hf : FW n t (clr S i) ≤ 100 := Nat.le_trans (FW_le HT2.out) (Nat.mul_le_mul hn10 hn10)
            have HPE := Lib.hid (pick_eq (n := n) (t := t) hb)
            go_upto_region 19 with (fail)
            obtain ⟨T, hT⟩ : ∃ T, Hid (T = clr S i) := ⟨_, rfl⟩
            rw [show ldiff S (pw i) = T from hT.out.symm]
            rw [← hT.out] at HT1 HT2 hu hf HPE
            have HRS : Hid (Pick n t S i → RkL n t (l ++ [i]) T) := fun h => by rw [hT.out]; exact RkL.snoc hL.out hin h
            have HCO : Hid (∀ d : RkC b8 M Bg B bc bf n t wr, Calls Try.prog 48 #[.int .i64 (i : Int), .int .i64 (T : Int), .pointer (some ⟨Bg, 0, none⟩)] d.w fun e w' => e = .returned (.int .i64 (ups n t i T : Int)) ∧ ∃ d' : RkC b8 M Bg B bc bf n t wr, w' = d'.w) := fun d => RkC.calls0 (cost_any Bg B n i T t d.w (by omega) hin HT2.out d.ok.tr)
            have HFE : Hid (∀ d : RkC b8 M Bg B bc bf n t wr, Calls Try.prog 50 #[.int .i64 (T : Int), .pointer (some ⟨b8, 0, none⟩), .pointer (some ⟨Bg, 0, none⟩), .pointer (some ⟨bc, 0, none⟩), .pointer (some ⟨bf, 0, none⟩)] d.w fun e w' => e = .returned (.int .i64 (FW n t T : Int)) ∧ ∃ d' : RkC b8 M Bg B bc bf n t wr, w' = d'.w) := fun d => RkC.calls (HFA.out T HT2.out d.w d.ok)
            have HFG : Hid (∀ d : RkC b8 M Bg B bc bf n t wr, Calls Try.prog 50 #[.int .i64 (S : Int), .pointer (some ⟨b8, 0, none⟩), .pointer (some ⟨Bg, 0, none⟩), .pointer (some ⟨bc, 0, none⟩), .pointer (some ⟨bf, 0, none⟩)] d.w fun e w' => e = .returned (.int .i64 (FW n t S : Int)) ∧ ∃ d' : RkC b8 M Bg B bc bf n t wr, w' = d'.w) := fun d => RkC.calls (HFA.out S HSI.out d.w d.ok)
            have m0 : ∀ d : RkC b8 M Bg B bc bf n t wr, d.w.cell? ⟨bc, 0, none⟩ = some (.func (.func 48) #[] #[.pointer (some ⟨Bg, 0, none⟩)]) := fun d => d.ok.cc
            have m1 : ∀ d : RkC b8 M Bg B bc bf n t wr, d.w.cell? ⟨bf, 0, none⟩ = some (.func (.func 50) #[] #[.pointer (some ⟨b8, 0, none⟩), .pointer (some ⟨Bg, 0, none⟩), .pointer (some ⟨bc, 0, none⟩), .pointer (some ⟨bf, 0, none⟩)]) := fun d => d.ok.cf
            haveI : Nonempty (RkC b8 M Bg B bc bf n t wr) := ⟨⟨wr, hW.out, Ag.refl _ _⟩⟩
            generalize ups n t i T = uu at *
            generalize FW n t T = ff at *
            generalize FW n t S = fs at *
            by_cases hpk : uu + ff = fs
            · have q1 : (((uu : Int) + (ff : Int)) == (fs : Int)) = true := by simp; omega
              have q2 : (uu : Int) + (ff : Int) = (fs : Int) := by omega
              have HLN := Lib.hid (HRS.out (HPE.out.2 hpk))
              refine wp_region_cls (RkC.w (w := wr) (bm := b8) (M := M) (Bg := Bg) (B := B) (bc := bc) (bf := bf) (n := n) (t := t)) (by kernel_rfl) (by kernel_rfl) (RkC.of (hW.out.keep ((Ag.refl _ wr).drewN 1)) ((Ag.refl _ wr).drewN 1)) ?_
              repeat (go_big_quiet_step ((first
                | rfl
                | (go_at_call 48; exact HCO.out _)
                | (go_at_call 50; with_reducible exact HFE.out _)
                | (go_at_call 50; with_reducible exact HFG.out _))))
              refine wpQuiet_nil ?_
              rintro _ ⟨d, rfl⟩
              have HWd := Lib.hid d.ok
              have HAd := Lib.hid (hA.out.trans d.ag)
              clear m0 m1 HCO HFE HFG hW hA
              generalize d.w = Z at *
              have HQZ : Hid (QRow Z U.heap.size 3 1 (.slice p11 l.length c11) l.length (iv l)) := HAd.out.qrow hQ.out (fun k hk e => by
                have h1 := (hQ.out.lt k hk).1
                have h2 := HLT.out
                omega)
              have HBZ : Hid (Below w.heap.size w Z) := HAd.out.below hB.out hB.out.size (fun k hk e => by omega)
              have HAl : Hid (Ag (fun k => U.heap.size ≤ k) Z (Z.alloc (.cells #[.int .i64 (i : Int)] 3))) := (Ag.refl _ Z).alloc _
              have HQA := Lib.hid (HQZ.out.alloc (.cells #[.int .i64 (i : Int)] 3))
              have HLK := Lib.hid (fun kk (e : _ = some kk) => (HQZ.out.lt kk e).1)
              have HBA : Hid (Below w.heap.size w (Z.alloc (.cells #[.int .i64 (i : Int)] 3))) := HBZ.out.alloc HBZ.out.size _
              have hUZ : U.heap.size ≤ Z.heap.size := Nat.le_trans hUw HAd.out.size
              have HSN : Hid (iv (l ++ [i]) = iv l ++ [.int .i64 (i : Int)]) := by unfold Hid; simp [iv]
              clear hQ hB
              go_wp2_with (at_builtin; go_must (refine wpList_append_q _ rfl (.tmp 72) (.tmp 74) 34 rfl U.heap.size 3 i0 (.int .i64 0) 1 8 Try.underlying34 hi0 hz0 hz1 hz2 rfl (by decide) _ l.length (iv l) rfl HQA.out ⟨_, 0, none⟩ 1 1 [.int .i64 (i : Int)] rfl rfl (cells_new1 _ _ _) (by simp [Value.oneCell']) (by unfold maxLen; omega) (by omega) (by simp; omega) ?_); intro v7 w7 hq7 hg7 ho7; have HQ7 := Lib.hid hq7; have HG7 := Lib.hid hg7; clear hq7 hg7 ho7)
              have HA7 : Hid (Ag (fun k => U.heap.size ≤ k) Z w7) := HAl.out.grown HG7.out (fun k e => .inr (HLK.out k e))
              simp only [Exit.noGoto]
              try go_wp2
              have hT1 := HT1.out
              refine ⟨⟨l ++ [i], T, rfl, HLN, ?_, HWd.out.high HLT.out HA7.out, Below.grown HBA.out HG7.out HBA.out.size (fun kk e => Nat.le_trans hU (HLK.out kk e)), Nat.le_trans hUZ HA7.out.size⟩, by simp [intOf]; omega⟩
              rw [HSN.out, List.length_append]
              exact HQ7.out
            · have q1 : (((uu : Int) + (ff : Int)) == (fs : Int)) = false := by simp; omega
              have q2 : ¬ (uu : Int) + (ff : Int) = (fs : Int) := by omega
              have HPF := Lib.hid (HPN.out (fun h => hpk (HPE.out.1 h)))
              refine wp_region_cls (RkC.w (w := wr) (bm := b8) (M := M) (Bg := Bg) (B := B) (bc := bc) (bf := bf) (n := n) (t := t)) (by kernel_rfl) (by kernel_rfl) (RkC.of (hW.out.keep ((Ag.refl _ wr).drewN 1)) ((Ag.refl _ wr).drewN 1)) ?_
              repeat (go_big_quiet_step ((first
                | rfl
                | (go_at_call 48; exact HCO.out _)
                | (go_at_call 50; with_reducible exact HFE.out _)
                | (go_at_call 50; with_reducible exact HFG.out _))))
              refine wpQuiet_nil ?_
              rintro _ ⟨d, rfl⟩
              have HWd := Lib.hid d.ok
              have HAd := Lib.hid (hA.out.trans d.ag)
              clear m0 m1 HCO HFE HFG
              generalize d.w = Z at *
              go_wp2
              exact ⟨⟨i + 1, by omega, rfl, rfl, int_eq (by omega), HPF, HWd, HAd⟩, by simp [intOf]; omega⟩
        · exfalso
          obtain ⟨i', h1, h2⟩ := pick_ex (t := t) hS0 HSI.out
          exact hP.out i' (by omega) h2
end Go.Proofs.Ytbioondlmgolkaa
