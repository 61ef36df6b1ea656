/- slices.Reverse by its contract off the shelf. The program's way to the root: a walk. The program's ring: a walk. The program's order and cores: walks. Colours from lists, in plain text. Rows of numbers that a call makes; what holds in memory while the sides are found. The program's colours by trial: a walk. -/
import Derived.Ground.NamesProg
import Derived.Shelf.Slices.Cells
import Derived.Shelf.Slices.Turned
import Derived.WalkKit
import Derived.Test.YtbioondlmgolkaaDoorG321
import Derived.Test.YtbioondlmgolkaaDoorG328
import Derived.Test.YtbioondlmgolkaaDoorHuFd
set_option linter.unusedVariables false
set_option linter.unusedSimpArgs false
namespace Go.Proofs
open Go.Shelf
def Tryd.lays112_ren : Go.Shelf.Ren := ⟨fun | 112 => 49 | n => n, fun | 28 => 30 | 3 => 3 | 4 => 4 | 0 => 0 | n => n, fun | n => n⟩
theorem Tryd.lays112 : Go.Proofs.Lays.n112 Tryd.prog Tryd.lays112_ren := {
  mixed := by kernel_rfl
  f112 := Tryd.func49.trans (congrArg some (by kernel_rfl))
  t0 := Tryd.underlying0
  a0 := Tryd.isAgg0
  z0 := Tryd.sizeOf0
  v0 := Tryd.zeroValue0
  t3 := Tryd.underlying3
  a3 := Tryd.isAgg3
  z3 := Tryd.sizeOf3
  v3 := Tryd.zeroValue3
  t4 := Tryd.underlying4
  a4 := Tryd.isAgg4
  z4 := Tryd.sizeOf4
  v4 := Tryd.zeroValue4
  t28 := Tryd.underlying30
  a28 := Tryd.isAgg30
  z28 := Tryd.sizeOf30
  v28 := Tryd.zeroValue30 }
end Go.Proofs
namespace Go.Proofs.YtbioondlmgolkaaDoor.Hu
open Go.RowKit Go.Shelf
def setL : List Value → Nat → List Value → List Value
  | xs, _, [] => xs
  | xs, k, v :: r => setL (xs.set k v) (k + 1) r
theorem setL_get : ∀ (vs xs : List Value) (k j : Nat), k + vs.length ≤ xs.length → (setL xs k vs)[j]? = if k ≤ j ∧ j < k + vs.length then vs[j - k]? else xs[j]?
  | [], xs, k, j, _ => by simp [setL]; intro h1 h2; omega
  | v :: r, xs, k, j, h => by
    rw [List.length_cons] at h
    rw [setL, setL_get r (xs.set k v) (k + 1) j (by simp; omega), List.length_cons]
    by_cases e : j = k
    · subst e
      rw [if_neg (by omega), if_pos (by omega), List.getElem?_set_self (by omega)]; simp
    · by_cases e2 : k + 1 ≤ j ∧ j < k + 1 + r.length
      · rw [if_pos e2, if_pos (by omega)]
        obtain ⟨m, rfl⟩ : ∃ m, j = k + 1 + m := ⟨j - (k + 1), by omega⟩
        rw [show k + 1 + m - (k + 1) = m by omega, show k + 1 + m - k = m + 1 by omega, List.getElem?_cons_succ]
      · rw [if_neg e2, if_neg (by omega), List.getElem?_set_ne (Ne.symm e)]
theorem QRow.setCells {base : Nat} {e : TypeId} {size : Nat} {g o cap n : Nat} : ∀ (vs : List Value) (W : World) (xs : List Value) (k : Nat), QRow W base e size (.slice (some ⟨g, o, none⟩) n cap) n xs → k + vs.length ≤ n * size →
    QRow (W.setCells g (o + k) vs) base e size (.slice (some ⟨g, o, none⟩) n cap) n (setL xs k vs) ∧ Ag (· = g) W (W.setCells g (o + k) vs)
  | [], W, xs, k, h, _ => ⟨h, Ag.refl _ _⟩
  | v :: r, W, xs, k, h, hk => by
    rw [List.length_cons] at hk
    have h1 := h.set k (by omega) v
    have h2 := QRow.setCells r _ _ (k + 1) h1 (by omega)
    exact ⟨h2.1, ((Ag.refl (· = g) W).set ⟨g, o + k, none⟩ v (.inr rfl)).trans h2.2⟩
theorem QRow.drewN {W : World} {base : Nat} {e : TypeId} {size : Nat} {v : Value} {n : Nat} {xs : List Value} (h : QRow W base e size v n xs) (k : Nat) : QRow (W.drewN k) base e size v n xs := h
theorem reverse_q (W : World) (base : Nat) (v : Value) (xs : List Int) (h : QRow W base 3 1 v xs.length (xs.map (Value.int .i64))) (hn : xs.length ≤ maxLen) :
    Calls Tryd.prog 49 #[v] W fun e w' => e = .returned (.tuple #[]) ∧ QRow w' base 3 1 v xs.length (xs.reverse.map (Value.int .i64)) ∧ Ag (fun k => v.ownBlock = some k) W w' := by
  rcases hv : xs with _ | ⟨x, r⟩
  · subst hv
    obtain ⟨p, c, rfl⟩ := h.isSlice
    refine (show Calls Tryd.prog 49 #[.slice p 0 c] W _ from Any.slices_Reverse_int_empty Tryd.lays112 p c W).mono ?_
    rintro e w' ⟨rfl, rfl⟩
    exact ⟨rfl, h, Ag.refl _ _⟩
  · rw [← hv]
    obtain ⟨g, o, cap, rfl, h1, h2, h3, h4, h5, h6⟩ := h.at (by rw [hv]; simp)
    refine (show Calls Tryd.prog 49 #[.slice (some ⟨g, o, none⟩) xs.length cap] W _ from Any.slices_Reverse_int_cells Tryd.lays112 g o xs.length cap xs W (Nat.le_refl _) (by unfold maxLen at hn; omega) (fun j hj => ?_) (fun j hj => h6 _)).mono ?_
    · rw [h5 j (by omega)]
      simp [List.getElem?_map, List.getElem?_eq_getElem hj, List.getD_eq_getElem?_getD]
    · rintro e w' ⟨rfl, q, rfl⟩
      have := QRow.setCells ((xs.take xs.length).reverse.map (Value.int .i64)) (W.drewN q) _ 0 (h.drewN q) (by simp)
      refine ⟨rfl, ?_, ?_⟩
      · have e2 : setL (xs.map (Value.int .i64)) 0 ((xs.take xs.length).reverse.map (Value.int .i64)) = xs.reverse.map (Value.int .i64) := by
          apply List.ext_getElem?
          intro j
          rw [setL_get _ _ _ _ (by simp)]
          by_cases e : j < xs.length
          · rw [if_pos (by simp; exact e), List.take_length]; rfl
          · rw [if_neg (by simp; omega), List.getElem?_eq_none (by simp; omega), List.getElem?_eq_none (by simp; omega)]
        rw [e2] at this
        exact this.1
      · exact ((Ag.refl _ W).drewN q).trans (this.2.mono (fun k hk => by subst hk; rfl))
end Go.Proofs.YtbioondlmgolkaaDoor.Hu
namespace Go.Proofs.YtbioondlmgolkaaDoor.Hu
open Go.RowKit Go.Shelf

theorem QRow.take {w : World} {base : Nat} {e : TypeId} {size : Nat} {g o cap n : Nat} {xs : List Value} (h : QRow w base e size (.slice (some ⟨g, o, none⟩) n cap) n xs) (m : Nat) (hm : m ≤ n) :
    QRow w base e size (.slice (some ⟨g, o, none⟩) m cap) m (xs.take (m * size)) := by
  have hms := Nat.mul_le_mul_right size hm
  refine ⟨by rw [List.length_take, h.1]; omega, .inr ?_⟩
  rcases h.2 with ⟨e0, _⟩ | ⟨g', o', cap', cur, e1, hb, hg, h1, h2, h3, h4⟩
  · cases e0
  · cases e1
    exact ⟨g, o, cap, cur, rfl, hb, hg, by omega, h2, h3, fun j hj => by rw [List.getElem?_take, if_pos hj]; exact h4 j (by omega)⟩
end Go.Proofs.YtbioondlmgolkaaDoor.Hu
namespace Go.Proofs.YtbioondlmgolkaaDoor.Hu
open Go.RowKit Go.Shelf

theorem iv_int (l : List Nat) : iv l = (l.map fun (x : Nat) => (x : Int)).map (Value.int .i64) := by unfold iv; rw [List.map_map]; rfl
end Go.Proofs.YtbioondlmgolkaaDoor.Hu
namespace Go.Proofs.YtbioondlmgolkaaDoor.Hu
open Go.RowKit Go.Shelf

set_option maxRecDepth 100000 in
theorem within_any (G n v s : Nat) (a : Option Addr) (cap len : Nat) (g : List Nat) (w : World) (hg : GraphAt w G n a cap len g) (hsm : ∀ i : Nat, Sm (g[i]?.getD 0)) (hs : Sm s) (hv : v < 16) :
    Calls Tryd.prog 48 #[.pointer (some ⟨G, 0, none⟩), .int .i64 (v : Int), .int .i64 (s : Int)] w fun e w' => e = .returned (.int .i64 (wtn g v s : Nat)) ∧ w' = w := by
  obtain ⟨x, hx⟩ : ∃ x, Hid (x = g[v]?.getD 0) := ⟨_, rfl⟩
  have c0 := hg.next v hv
  have hxs : Sm x := by rw [hx.out]; exact hsm v
  rw [← hx.out] at c0
  have hsx : Sm (x &&& s) := sm_and_l s hxs
  have h64 : Hid ((x &&& s) < 18446744073709551616) := Nat.lt_trans hsx (by decide)
  have hwr : IntKind.u64.wrap ((x &&& s : Nat) : Int) = ((x &&& s : Nat) : Int) := u64_same _ h64.out
  have h1 : (v : Int) < 16 := by omega
  have h0 : (0 : Int) ≤ (v : Int) := by omega
  clear hg hsm
  go_enter Tryd.func48, Tryd.ntmps48
  go_wp2_with (go_at_call 56; refine (ones (x &&& s) _ h64).mono ?_; rintro e w' ⟨rfl, rfl⟩)
  go_ret
  exact ⟨ret_int (by unfold wtn; rw [hx.out]), rfl⟩
def bestV : Option Nat → Int
  | none => -1
  | some b => (b : Int)
theorem bstK_yes {g : List Nat} {s k : Nat} (h : s.testBit k = true) (hb : ∀ b, bstK g s k = some b → wtn g k s ≤ wtn g b s) : bstK g s (k + 1) = some k := by unfold bstK; rw [if_pos ⟨h, hb⟩]
theorem bstK_no {g : List Nat} {s k : Nat} (h : s.testBit k = false ∨ ∃ b, bstK g s k = some b ∧ ¬ wtn g k s ≤ wtn g b s) : bstK g s (k + 1) = bstK g s k := by
  rw [show bstK g s (k + 1) = if s.testBit k = true ∧ (∀ b, bstK g s k = some b → wtn g k s ≤ wtn g b s) then some k else bstK g s k from rfl, if_neg]
  rintro ⟨h1, h2⟩
  rcases h with h | ⟨b, h, h3⟩
  · rw [h] at h1; cases h1
  · exact h3 (h2 b h)
theorem loo_lt (g : List Nat) (n : Nat) : ∀ j, loo g n j ≤ 64
  | 0 => by unfold loo; omega
  | j + 1 => by unfold loo; have := loo_lt g n j; have : wtn g (pk g n j) (lf g n j) ≤ 64 := size_le _; omega
theorem lf_sm {g : List Nat} {n : Nat} (hn : n ≤ 16) : ∀ j, Sm (lf g n j)
  | 0 => sm_full (by omega)
  | j + 1 => sm_ldiff _ (lf_sm hn j)
set_option maxRecDepth 100000 in
set_option maxHeartbeats 4000000 in
theorem order_any (G n : Nat) (a : Option Addr) (cap len : Nat) (g : List Nat) (w : World) (hg : GraphAt w G n a cap len g) (hsm : ∀ i : Nat, Sm (g[i]?.getD 0)) (hn : n ≤ 16) :
    Calls Tryd.prog 29 #[.pointer (some ⟨G, 0, none⟩)] w fun e w' => ∃ v, e = .returned (.tuple #[v, .int .i64 (loo g n n : Nat)]) ∧ QRow w' w.heap.size 3 1 v n (iv (ordL g n)) ∧ Below w.heap.size w w' := by
  obtain ⟨i0, hi, hz0, hz1, hz2⟩ := info_parts info3
  have HG := Lib.hid hg
  have hgn := hg.n
  have hGl := hg.lt
  have HW : Hid (∀ (v s : Nat) W, v < 16 → Sm s → Below w.heap.size w W → Calls Tryd.prog 48 #[.pointer (some ⟨G, 0, none⟩), .int .i64 (v : Int), .int .i64 (s : Int)] W fun e w' => e = .returned (.int .i64 (wtn g v s : Nat)) ∧ w' = W) := fun v s W hv hs hB => within_any G n v s a cap len g W (hg.below hB (Nat.le_refl _)) hsm hs hv
  have hpn : wrap64 (2 ^ n) = ((pw n : Nat) : Int) := pw_cast _ (by omega)
  have hspn : Sm (pw n) := sm_pw (by omega)
  have hfc : ((pw n : Nat) : Int) - 1 = ((full n : Nat) : Int) := full_cast n
  have hwf : wrap64 ((full n : Nat) : Int) = ((lf g n 0 : Nat) : Int) := (IntWalk.i64_left _).symm.trans (IntWalk.i64_in _ (by have := (sm_full (n := n) (by omega)).lt; omega))
  have hwn : IntKind.u64.wrap (n : Int) = (n : Int) := u64_same _ (by omega)
  clear hg hsm
  go_enter Tryd.func29, Tryd.ntmps29
  go_upto_region 4 with (fail)
  go_loopw [4, 5, 6] (fun s4 s5 s6 wr => ∃ j : Nat, j ≤ n ∧ s6 = .int .i64 (lf g n j : Nat) ∧ s5 = .int .i64 (loo g n j : Nat) ∧ QRow wr w.heap.size 3 1 s4 j (iv ((List.range j).map (pk g n))) ∧ Below w.heap.size w wr) (fun s4 _ _ _ => 40 - lenV s4)
  case atStart => exact ⟨0, by omega, int_eq hwf, rfl, QRow.nil _ _ _ _, Below.refl _ _⟩
  case round =>
    obtain ⟨j, hj, rfl, rfl, hq, hB⟩ := hrel
    obtain ⟨p4, c4, rfl⟩ := hq.isSlice
    by_cases hjn : j < n
    · have hpk := pk_facts (g := g) hjn
      have hsl := lf_sm (g := g) hn j
      have hne : lf g n j ≠ 0 := fun e => by have := (lf_zero (g := g) hj).1 e; omega
      have hpk1 := hpk.1
      have hloo := loo_lt g n j
      have HPK := Lib.hid hpk
      have hl1 : lf g n (j + 1) = ldiff (lf g n j) (pw (pk g n j)) := rfl
      have hl2 : loo g n (j + 1) = max (loo g n j) (wtn g (pk g n j) (lf g n j)) := rfl
      have hwl : wtn g (pk g n j) (lf g n j) ≤ 64 := size_le _
      have hsn : iv ((List.range (j + 1)).map (pk g n)) = iv ((List.range j).map (pk g n)) ++ [.int .i64 (pk g n j : Nat)] := by rw [List.range_succ, List.map_append, List.map_cons, List.map_nil, iv_snoc]
      have HL1 := Lib.hid hl1
      have HL2 := Lib.hid hl2
      have HSN := Lib.hid hsn
      clear hl1 hl2 hsn hpk
      generalize lf g n j = left at *
      generalize hpe : pk g n j = b at *
      generalize loo g n j = lo at *
      have hbn : (((left : Nat) : Int) != 0) = true := by rw [bne_iff_ne]; omega
      have hgr := (hB.cell (p := ⟨G, 0, none⟩) hGl).trans hgn
      have HB := Lib.hid hB
      have HQ := Lib.hid hq
      clear hq hB
      go_upto_region 7 with (fail)
      go_loopw [7, 22] (fun s7 s22 wr2 => ∃ k : Nat, k ≤ n ∧ s22 = .int .i64 (k : Int) ∧ s7 = .int .i64 (bestV (bstK g left k)) ∧ Hid (wr2 = wr)) (fun _ s22 _ => 40 - (intOf s22).toNat)
      case atStart => exact ⟨0, by omega, rfl, rfl, rfl⟩
      case round =>
        obtain ⟨k, hk, rfl, rfl, hw⟩ := hrel
        rw [hw.out]
        by_cases hkn : k < n
        · have h1 : (k : Int) < (n : Int) := by omega
          have hwk : IntKind.u64.wrap (k : Int) = (k : Int) := u64_same _ (by omega)
          cases hbit : left.testBit k with
          | false =>
            have hno := bstK_no (g := g) (s := left) (k := k) (.inl hbit)
            have HNO := Lib.hid hno
            clear hno
            go_wp2
            exact ⟨⟨k + 1, by omega, int_eq (by omega), by rw [HNO.out], Lib.hid trivial⟩, by simp [intOf]; omega⟩
          | true =>
            cases hbk : bstK g left k with
            | none =>
              have hyes := bstK_yes (g := g) (s := left) (k := k) hbit (fun b h => by rw [hbk] at h; cases h)
              have HY := Lib.hid hyes
              clear hyes
              simp only [bestV]
              go_wp2
              exact ⟨⟨k + 1, by omega, int_eq (by omega), by rw [HY.out], Lib.hid trivial⟩, by simp [intOf]; omega⟩
            | some b0 =>
              have hb0 := ((bstK_spec (g := g) (s := left) k).1 b0 hbk).1
              simp only [bestV]
              have h2 : decide ((b0 : Int) < 0) = false := decide_eq_false (by omega)
              have HW1 := Lib.hid (HW.out k left _ (by omega) hsl HB.out)
              have HW2 := Lib.hid (HW.out b0 left _ (by omega) hsl HB.out)
              by_cases hle : wtn g k left ≤ wtn g b0 left
              · have hyes := Lib.hid (bstK_yes (g := g) (s := left) (k := k) hbit (fun b h => by rw [hbk] at h; cases h; exact hle))
                have h3 : ((wtn g k left : Nat) : Int) ≤ ((wtn g b0 left : Nat) : Int) := by omega
                clear hle hbk
                go_wp2_with (first
                  | (go_at_call 48; with_reducible refine Calls.mono HW1.out ?_; rintro e w' ⟨rfl, hw'⟩; subst hw'; try dsimp only)
                  | (go_at_call 48; with_reducible refine Calls.mono HW2.out ?_; rintro e w' ⟨rfl, hw'⟩; subst hw'; try dsimp only))
                exact ⟨⟨k + 1, by omega, int_eq (by omega), by rw [hyes.out], Lib.hid trivial⟩, by simp [intOf]; omega⟩
              · have hno := Lib.hid (bstK_no (g := g) (s := left) (k := k) (.inr ⟨b0, hbk, hle⟩))
                have hbk' := Lib.hid hbk
                have h3 : ¬ ((wtn g k left : Nat) : Int) ≤ ((wtn g b0 left : Nat) : Int) := by omega
                clear hle hbk
                go_wp2_with (first
                  | (go_at_call 48; with_reducible refine Calls.mono HW1.out ?_; rintro e w' ⟨rfl, hw'⟩; subst hw'; try dsimp only)
                  | (go_at_call 48; with_reducible refine Calls.mono HW2.out ?_; rintro e w' ⟨rfl, hw'⟩; subst hw'; try dsimp only))
                exact ⟨⟨k + 1, by omega, int_eq (by omega), by rw [hno.out, hbk'.out], Lib.hid trivial⟩, by simp [intOf]; omega⟩
        · have h1 : ¬ (k : Int) < (n : Int) := by omega
          have hke : k = n := by omega
          rw [hke, HPK.out.2.2.1]
          simp only [bestV]
          have HWB := Lib.hid (HW.out b left _ (by omega) hsl HB.out)
          have hwb : IntKind.u64.wrap (b : Int) = (b : Int) := u64_same _ (by omega)
          have hpb : wrap64 (2 ^ b) = ((pw b : Nat) : Int) := pw_cast _ (by omega)
          have hspb : Sm (pw b) := sm_pw (by omega)
          have hmax : max ((lo : Nat) : Int) ((wtn g b left : Nat) : Int) = ((max lo (wtn g b left) : Nat) : Int) := by omega
          have HBL := Lib.hid (fun kk => HQ.out.lt kk)
          clear hke
          go_wp2_with (first
            | (go_at_call 48; with_reducible refine Calls.mono HWB.out ?_; rintro e w' ⟨rfl, hw'⟩; subst hw'; try dsimp only)
            | (at_builtin; go_must (refine wpList_append_q _ rfl (.tmp 59) (.tmp 61) 30 rfl w.heap.size 3 i0 (.int .i64 0) 1 8 Tryd.underlying30 hi hz0 hz1 hz2 rfl (by decide) _ j (iv ((List.range j).map (pk g n))) rfl (HQ.out.alloc (.cells #[.int .i64 (b : Int)] 3)) ⟨_, 0, none⟩ 1 1 [.int .i64 (b : Int)] rfl rfl (cells_new1 _ _ _) (by simp [Value.oneCell']) (by unfold maxLen; omega) (by omega) (by have := HB.out.size; simp; omega) ?_); intro v4 w4 hq4 hg4 ho4; obtain ⟨q1, q2, rfl⟩ := hq4.isSlice; have HQ4 := Lib.hid hq4; have HB4 : Hid (Below w.heap.size w w4) := Below.grown (HB.out.alloc HB.out.size _) hg4 (by have := HB.out.size; simp; omega) (fun kk e => (HBL.out kk e).1); clear hq4 hg4 ho4))
          exact ⟨⟨_, _, _, ⟨j + 1, by omega, rfl, rfl, by rw [HSN.out]; exact HQ4.out, HB4.out⟩, rfl, int_eq (by rw [HL2.out]), int_eq (by rw [HL1.out])⟩, by simp [lenV]; omega⟩
    · have hje : j = n := by omega
      have hz := (lf_zero (g := g) hj).2 hje
      rw [hz]
      have hRV : Hid (Calls Tryd.prog 49 #[.slice p4 j c4] wr fun e w' => e = .returned (.tuple #[]) ∧ QRow w' w.heap.size 3 1 (.slice p4 j c4) n (iv (ordL g n)) ∧ Ag (fun k => (Value.slice p4 j c4).ownBlock = some k) wr w') := by
        have h := reverse_q wr w.heap.size (.slice p4 j c4) (((List.range j).map (pk g n)).map fun (x : Nat) => (x : Int)) (by rw [List.length_map, List.length_map, List.length_range, ← iv_int]; exact hq) (by simp; unfold maxLen; omega)
        refine h.mono ?_
        rintro e w' ⟨h1, h2, h3⟩
        refine ⟨h1, ?_, h3⟩
        rw [List.length_map, List.length_map, List.length_range, ← List.map_reverse, ← iv_int] at h2
        rw [hje] at h2 ⊢
        exact h2
      have HJE := Lib.hid hje
      have HB := Lib.hid hB
      have HBL := Lib.hid (fun kk => hq.lt kk)
      obtain ⟨lo, hlo⟩ : ∃ lo, Hid (lo = loo g n j) := ⟨_, rfl⟩
      rw [← hlo.out]
      clear hq hB hz hje
      go_wp2_with (first
        | (go_at_call 49; refine (hRV.out).mono ?_; rintro e w5 ⟨rfl, hq5, hag5⟩; have HQ5 := Lib.hid hq5; have HB5 := Lib.hid (hag5.below HB.out HB.out.size (fun k hk h => by have := (HBL.out k h).1; omega)); clear hq5 hag5))
      refine bodyPost_ret (v := .tuple #[.slice p4 j c4, .int .i64 (lo : Nat)]) (by simp [results, Tryd.f29, go_sem]) rfl ?_
      exact ⟨_, by rw [hlo.out, HJE.out], HQ5.out, HB5.out⟩
end Go.Proofs.YtbioondlmgolkaaDoor.Hu
namespace Go.Proofs.YtbioondlmgolkaaDoor.Hu
open Go.RowKit

/-- the order lists every vertex, each once -/
structure OrdOK (n : Nat) (o : List Nat) : Prop where
  len : o.length = n
  nd : o.Nodup
  lt : ∀ i, i < n → nth o i < n
  all : ∀ v, v < n → ∃ i, i < n ∧ nth o i = v
theorem lf_mono {g : List Nat} {n x : Nat} : ∀ (d j : Nat), (lf g n (j + d)).testBit x = true → (lf g n j).testBit x = true
  | 0, j, h => h
  | d + 1, j, h => by
    rw [show j + (d + 1) = (j + d) + 1 by omega] at h
    unfold lf at h
    rw [testBit_ldiff, Bool.and_eq_true] at h
    exact lf_mono d j h.1
theorem pk_gone {g : List Nat} {n j : Nat} : (lf g n (j + 1)).testBit (pk g n j) = false := by
  unfold lf
  rw [testBit_ldiff, show (pw (bst g n (lf g n j))).testBit (pk g n j) = true from by unfold pw pk; rw [Nat.testBit_two_pow]; simp]
  simp
theorem pk_inj {g : List Nat} {n i j : Nat} (hij : i < j) (hj : j < n) : pk g n i ≠ pk g n j := fun e => by
  have h1 := (pk_facts (g := g) hj).2.1
  have h2 := lf_mono (g := g) (n := n) (x := pk g n j) (j - (i + 1)) (i + 1) (by rw [show i + 1 + (j - (i + 1)) = j by omega]; exact h1)
  rw [← e, pk_gone] at h2; cases h2
theorem nth_ord {g : List Nat} {n i : Nat} (hi : i < n) : nth (ordL g n) i = pk g n (n - 1 - i) := by
  unfold nth ordL
  rw [List.getElem?_reverse (by simpa using hi)]
  simp only [List.length_map, List.length_range]
  rw [List.getElem?_map, List.getElem?_range (by omega)]; rfl
theorem ordOK (g : List Nat) (n : Nat) : OrdOK n (ordL g n) := by
  have hlen : (ordL g n).length = n := by simp [ordL]
  have hnd : (ordL g n).Nodup := nodup_nth fun i j hij hj e => by
    rw [hlen] at hj
    rw [nth_ord (by omega), nth_ord hj] at e
    exact pk_inj (i := n - 1 - j) (j := n - 1 - i) (by omega) (by omega) e.symm
  have hlt : ∀ i, i < n → nth (ordL g n) i < n := fun i hi => by rw [nth_ord hi]; exact (pk_facts (by omega)).1
  refine ⟨hlen, hnd, hlt, fun v hv => Classical.byContradiction fun hc => ?_⟩
  have hnot : v ∉ ordL g n := fun h => by
    obtain ⟨i, hi, e⟩ := List.mem_iff_getElem.1 h
    exact hc ⟨i, by omega, by unfold nth; rw [List.getElem?_eq_getElem hi, e]; rfl⟩
  have := nodup_sub (v :: ordL g n) (List.range n) (List.nodup_cons.2 ⟨hnot, hnd⟩) fun x hx => by
    rcases List.mem_cons.1 hx with rfl | hx
    · exact List.mem_range.2 hv
    · obtain ⟨i, hi, e⟩ := List.mem_iff_getElem.1 hx
      have := hlt i (by omega)
      unfold nth at this; rw [List.getElem?_eq_getElem hi, e] at this
      exact List.mem_range.2 this
  rw [List.length_cons, hlen, List.length_range] at this
  omega
/-- colours from lists of bits: each vertex has one of its own, and no edge joins two of the same -/
def ColOK (g : List Nat) (n : Nat) (L : Nat → Nat) (c : Nat → Nat) : Prop := (∀ v, v < n → (L v).testBit (c v) = true) ∧ ∀ v w, adj g v w → c v ≠ c w
/-- the first vertices of the order are coloured -/
def ColPre (g : List Nat) (o : List Nat) (L : Nat → Nat) (m : Nat) (c : Nat → Nat) : Prop := ∀ i, i < m → (L (nth o i)).testBit (c (nth o i)) = true ∧ ∀ j, j < i → adj g (nth o i) (nth o j) → c (nth o i) ≠ c (nth o j)
/-- there are colours that go on from these -/
def ColExt (g : List Nat) (n : Nat) (o : List Nat) (L : Nat → Nat) (m : Nat) (c : Nat → Nat) : Prop := ∃ c', ColOK g n L c' ∧ ∀ i, i < m → c' (nth o i) = c (nth o i)
def setC (c : Nat → Nat) (v x : Nat) : Nat → Nat := fun y => if y = v then x else c y
theorem ColPre.all {g : List Nat} {n : Nat} {o : List Nat} {L c : Nat → Nat} (U : Und g n) (O : OrdOK n o) (h : ColPre g o L n c) : ColOK g n L c := by
  refine ⟨fun v hv => ?_, fun v w ha => ?_⟩
  · obtain ⟨i, hi, rfl⟩ := O.all v hv
    exact (h i hi).1
  · obtain ⟨i, hi, rfl⟩ := O.all v (U.lt _ _ ha).1
    obtain ⟨j, hj, rfl⟩ := O.all w (U.lt _ _ ha).2
    rcases Nat.lt_trichotomy i j with h1 | h1 | h1
    · exact fun e => (h j hj).2 i h1 (U.sym _ _ ha) e.symm
    · subst h1; exact absurd rfl (U.ne _ _ ha)
    · exact (h i hi).2 j h1 ha
theorem ColExt.congr {g : List Nat} {n : Nat} {o : List Nat} {L c c2 : Nat → Nat} {m : Nat} (h : ColExt g n o L m c) (e : ∀ i, i < m → c2 (nth o i) = c (nth o i)) : ColExt g n o L m c2 := by
  obtain ⟨c', h1, h2⟩ := h
  exact ⟨c', h1, fun i hi => (h2 i hi).trans (e i hi).symm⟩
theorem OrdOK.ne {n : Nat} {o : List Nat} (O : OrdOK n o) {i j : Nat} (hi : i < n) (hj : j < n) (hij : i ≠ j) : nth o i ≠ nth o j := fun e => hij (nth_nd O.nd (by rw [O.len]; exact hi) (by rw [O.len]; exact hj) e)
theorem ColPre.congr {g : List Nat} {o : List Nat} {L c c2 : Nat → Nat} {m : Nat} (h : ColPre g o L m c) (e : ∀ i, i < m → c2 (nth o i) = c (nth o i)) : ColPre g o L m c2 := fun i hi => by
  rw [e i hi]
  refine ⟨(h i hi).1, fun j hj ha => ?_⟩
  rw [e j (by omega)]; exact (h i hi).2 j hj ha
/-- what is left of a list behind k of the earlier vertices -/
def lftK (g : List Nat) (o : List Nat) (L c : Nat → Nat) (v : Nat) : Nat → Nat
  | 0 => L v
  | k + 1 => if (g[v]?.getD 0).testBit (nth o k) = true then ldiff (lftK g o L c v k) (2 ^ c (nth o k)) else lftK g o L c v k
theorem lftK_bit {g : List Nat} {o : List Nat} {L c : Nat → Nat} {v : Nat} (x : Nat) : ∀ k, (lftK g o L c v k).testBit x = true ↔ (L v).testBit x = true ∧ ∀ j, j < k → adj g v (nth o j) → c (nth o j) ≠ x
  | 0 => by unfold lftK; simp
  | k + 1 => by
    have ih := lftK_bit (g := g) (o := o) (L := L) (c := c) (v := v) x k
    unfold lftK
    split
    · rename_i ha
      rw [testBit_ldiff, Nat.testBit_two_pow, Bool.and_eq_true, ih]
      constructor
      · rintro ⟨⟨h1, h2⟩, h3⟩
        refine ⟨h1, fun j hj haj => ?_⟩
        by_cases e : j = k
        · subst e; simpa using h3
        · exact h2 j (by omega) haj
      · rintro ⟨h1, h2⟩
        exact ⟨⟨h1, fun j hj => h2 j (by omega)⟩, by simpa using h2 k (by omega) ha⟩
    · rename_i ha
      rw [ih]
      constructor
      · rintro ⟨h1, h2⟩
        refine ⟨h1, fun j hj haj => ?_⟩
        by_cases e : j = k
        · subst e; exact absurd haj ha
        · exact h2 j (by omega) haj
      · rintro ⟨h1, h2⟩
        exact ⟨h1, fun j hj => h2 j (by omega)⟩
theorem lftK_le (g : List Nat) (o : List Nat) (L c : Nat → Nat) (v : Nat) : ∀ k, lftK g o L c v k ≤ L v
  | 0 => Nat.le_refl _
  | k + 1 => by
    unfold lftK
    split
    · exact Nat.le_trans (ldiff_le _ _) (lftK_le g o L c v k)
    · exact lftK_le g o L c v k
section
variable {g : List Nat} {n : Nat} {o : List Nat} {L c : Nat → Nat} {m : Nat}
theorem ColPre.step (O : OrdOK n o) (hm : m < n) (h : ColPre g o L m c) {x : Nat} (hx : (lftK g o L c (nth o m) m).testBit x = true) : ColPre g o L (m + 1) (setC c (nth o m) x) := by
  have hx2 := (lftK_bit x m).1 hx
  have e1 : ∀ i, i < m → setC c (nth o m) x (nth o i) = c (nth o i) := fun i hi => by
    unfold setC; rw [if_neg (O.ne (by omega) hm (by omega))]
  have e2 : setC c (nth o m) x (nth o m) = x := by unfold setC; rw [if_pos rfl]
  intro i hi
  by_cases e : i = m
  · subst e
    rw [e2]
    refine ⟨hx2.1, fun j hj ha => ?_⟩
    rw [e1 j hj]
    exact fun e => hx2.2 j hj ha e.symm
  · rw [e1 i (by omega)]
    refine ⟨(h i (by omega)).1, fun j hj ha => ?_⟩
    rw [e1 j (by omega)]
    exact (h i (by omega)).2 j hj ha
/-- who goes on gives the next vertex one of the colours left -/
theorem ColExt.step (O : OrdOK n o) (hm : m < n) (h : ColExt g n o L m c) : ∃ x, (lftK g o L c (nth o m) m).testBit x = true ∧ ColExt g n o L (m + 1) (setC c (nth o m) x) := by
  obtain ⟨c', h1, h2⟩ := h
  refine ⟨c' (nth o m), (lftK_bit _ _).2 ⟨h1.1 _ (O.lt m hm), fun j hj ha => ?_⟩, c', h1, fun i hi => ?_⟩
  · rw [← h2 j hj]; exact fun e => h1.2 _ _ ha e.symm
  · unfold setC
    by_cases e : i = m
    · subst e; rw [if_pos rfl]
    · rw [if_neg (O.ne (by omega) hm e)]; exact h2 i (by omega)
end
theorem band64 (a b : Nat) (ha : a < 18446744073709551616) (hb : b < 18446744073709551616) : bits .and .u64 (a : Int) (b : Int) = ((a &&& b : Nat) : Int) := by
  show IntKind.u64.wrap ((BitVec.ofInt 64 (a : Int) &&& BitVec.ofInt 64 (b : Int)).toNat : Int) = _
  rw [BitVec.toNat_and, ofNat64 _ ha, ofNat64 _ hb, u64_same _ (Nat.lt_of_le_of_lt Nat.and_le_left ha)]
end Go.Proofs.YtbioondlmgolkaaDoor.Hu
namespace Go.Proofs.YtbioondlmgolkaaDoor.Hu
open Go.RowKit Go.Shelf

theorem make_30 (n : Nat) (hn : n ≤ 20) : ∃ vs : Array Value, vs.size = n ∧ (∀ j, j < n → vs[j]? = some (.int .i64 0)) ∧
    ∀ W, Sem.run Tryd.prog (Instr.makeSlice 30 (.int .i64 (n : Int)) (.int .i64 (n : Int))) W = .ok (.slice (some ⟨W.heap.size, 0, none⟩) n n) (W.alloc (.cells vs 3)) := by
  obtain ⟨i0, hi, hz0, hz1, hz2⟩ := info_parts info3
  refine ⟨madeCells #[.int .i64 0] n, size_madeCells _ _, fun j hj => ?_, fun W => ?_⟩
  · rw [← Array.getElem?_toList, toList_madeCells_one, List.getElem?_replicate, if_pos hj]
  · have := run_make (P := Tryd.prog) W 30 3 i0 _ Tryd.underlying30 hi hz0 .i64 .i64 (n : Int) (n : Int) (by omega) (Int.le_refl _) (by rw [hz2]; omega) (by omega)
    rw [hz1, show (Value.int .i64 0).cells = #[.int .i64 0] from rfl] at this
    simpa using this
/-- block B is a row of n numbers -/
def RowB (W : World) (B n : Nat) (f : Nat → Int) : Prop := ∃ vs, BoxN W B 3 vs ∧ vs.size = n ∧ ∀ j, j < n → vs[j]? = some (.int .i64 (f j))
theorem RowB.lt {W : World} {B n : Nat} {f : Nat → Int} (h : RowB W B n f) : B < W.heap.size := h.elim fun _ h => h.1.lt
theorem RowB.cell {W : World} {B n : Nat} {f : Nat → Int} (h : RowB W B n f) {x : Nat} (hx : x < n) : W.cell? ⟨B, x, none⟩ = some (.int .i64 (f x)) := by
  obtain ⟨vs, h1, h2, h3⟩ := h
  rw [h1.cell]; exact h3 x hx
theorem RowB.frozen {W : World} {B n : Nat} {f : Nat → Int} (h : RowB W B n f) (x : Nat) : W.frozen? ⟨B, x, none⟩ = false := by
  obtain ⟨vs, h1, _⟩ := h
  exact h1.frozen x
theorem RowB.block {W W' : World} {B n : Nat} {f : Nat → Int} (h : RowB W B n f) (hb : W'.heap[B]? = W.heap[B]?) : RowB W' B n f := by
  obtain ⟨vs, h1, h2⟩ := h
  exact ⟨vs, hb.trans h1, h2⟩
theorem RowB.below {W W' : World} {B n k : Nat} {f : Nat → Int} (h : RowB W B n f) (hB : Below k W W') (hk : B < k) : RowB W' B n f := h.block (hB.block B hk)
theorem RowB.ag {ex : Nat → Prop} {W W' : World} {B n : Nat} {f : Nat → Int} (h : RowB W B n f) (hA : Ag ex W W') (hk : ¬ ex B) : RowB W' B n f := h.block (hA.block B h.lt hk)
theorem RowB.set {W : World} {B n : Nat} {f : Nat → Int} (h : RowB W B n f) {x : Nat} (_hx : x < n) (v : Int) : RowB (W.setCell ⟨B, x, none⟩ (.int .i64 v)) B n (fun j => if j = x then v else f j) := by
  obtain ⟨vs, h1, h2, h3⟩ := h
  refine ⟨_, h1.set x (.int .i64 v), by simpa using h2, fun j hj => ?_⟩
  by_cases e : j = x
  · subst e; rw [Array.getElem?_setIfInBounds_self_of_lt (by omega)]; simp
  · rw [Array.getElem?_setIfInBounds_ne (Ne.symm e)]; simp only [if_neg e]; exact h3 j hj
theorem RowB.other {W : World} {B n : Nat} {f : Nat → Int} (h : RowB W B n f) {a : Addr} (hne : B ≠ a.block) (x : Value) : RowB (W.setCell a x) B n f := by
  obtain ⟨vs, h1, h2⟩ := h
  exact ⟨vs, h1.other hne x, h2⟩
theorem RowB.congr {W : World} {B n : Nat} {f f' : Nat → Int} (h : RowB W B n f) (e : ∀ x, x < n → f x = f' x) : RowB W B n f' := by
  obtain ⟨vs, h1, h2, h3⟩ := h
  exact ⟨vs, h1, h2, fun j hj => by rw [h3 j hj, e j hj]⟩
theorem Tab.ag {ex : Nat → Prop} {W W' : World} (h : Tab W) (hg : Ag ex W W') (h0 : ¬ ex 0) : Tab W' :=
  ⟨Nat.lt_of_lt_of_le h.1 hg.size, fun j hj => (World.cell?_of_block (hg.block 0 h.1 h0)).trans (h.2 j hj)⟩
end Go.Proofs.YtbioondlmgolkaaDoor.Hu
namespace Go.Proofs.YtbioondlmgolkaaDoor.Hu
open Go.RowKit Go.Shelf

/-- what lies in memory while colours are tried -/
structure CBase (W : World) (bl bL bG bO bF G qb qo qc lb lq lc ob n : Nat) (a : Option Addr) (cap len : Nat) (g o : List Nat) (L : Nat → Nat) : Prop where
  kl : Boxed W bl 30 (.slice (some ⟨qb, qo, none⟩) n qc)
  kL : Boxed W bL 54 (.slice (some ⟨lb, lq, none⟩) n lc)
  kG : Boxed W bG 51 (.pointer (some ⟨G, 0, none⟩))
  kO : Boxed W bO 30 (.slice (some ⟨ob, 0, none⟩) n n)
  kF : Boxed W bF 58 (.func (.func 30) #[] #[.pointer (some ⟨bl, 0, none⟩), .pointer (some ⟨bL, 0, none⟩), .pointer (some ⟨bG, 0, none⟩), .pointer (some ⟨bO, 0, none⟩), .pointer (some ⟨bF, 0, none⟩)])
  rl : qb < W.heap.size ∧ ∀ i, i < n → W.cell? ⟨qb, qo + i, none⟩ = some (.int .i64 (nth o i : Nat))
  rL : lb < W.heap.size ∧ ∀ v, v < n → W.cell? ⟨lb, lq + v, none⟩ = some (.int .u64 (L v : Nat))
  gr : GraphAt W G n a cap len g
  tab : Tab W
  hcap : n ≤ qc
  ne : bl ≠ ob ∧ bL ≠ ob ∧ bG ≠ ob ∧ bO ≠ ob ∧ bF ≠ ob ∧ qb ≠ ob ∧ lb ≠ ob ∧ G ≠ ob ∧ 0 ≠ ob
theorem CBase.ag {W W' : World} {bl bL bG bO bF G qb qo qc lb lq lc ob n : Nat} {a : Option Addr} {cap len : Nat} {g o : List Nat} {L : Nat → Nat} (h : CBase W bl bL bG bO bF G qb qo qc lb lq lc ob n a cap len g o L) (hg : Ag (fun k => k = ob) W W') : CBase W' bl bL bG bO bF G qb qo qc lb lq lc ob n a cap len g o L := by
  obtain ⟨n1, n2, n3, n4, n5, n6, n7, n8, n9⟩ := h.ne
  have cell : ∀ (k off : Nat) v, k < W.heap.size → k ≠ ob → W.cell? ⟨k, off, none⟩ = some v → W'.cell? ⟨k, off, none⟩ = some v := fun k off v hk hn hv => (World.cell?_of_block (a := ⟨k, off, none⟩) (hg.block k hk hn)).trans hv
  refine ⟨hg.boxed h.kl n1, hg.boxed h.kL n2, hg.boxed h.kG n3, hg.boxed h.kO n4, hg.boxed h.kF n5, ⟨Nat.lt_of_lt_of_le h.rl.1 hg.size, fun i hi => cell _ _ _ h.rl.1 n6 (h.rl.2 i hi)⟩, ⟨Nat.lt_of_lt_of_le h.rL.1 hg.size, fun i hi => cell _ _ _ h.rL.1 n7 (h.rL.2 i hi)⟩, ⟨Nat.lt_of_lt_of_le h.gr.lt hg.size, cell _ _ _ h.gr.lt n8 h.gr.n, cell _ _ _ h.gr.lt n8 h.gr.e, fun j hj => cell _ _ _ h.gr.lt n8 (h.gr.next j hj)⟩, h.tab.ag hg n9, h.hcap, h.ne⟩
/-- what a trial answers -/
def TryP (g o : List Nat) (L : Nat → Nat) (n ob m : Nat) (c : Nat → Nat) (W : World) (e : Ending) (w' : World) : Prop := ∃ (b : Bool) (c' : Nat → Nat), e = .returned (.bool b) ∧ Ag (fun k => k = ob) W w' ∧ RowB w' ob n (fun v => (c' v : Int)) ∧ (∀ v, c' v < 64) ∧ (∀ i, i < m → c' (nth o i) = c (nth o i)) ∧ (b = true → ColOK g n L c') ∧ (b = false → ¬ ColExt g n o L m c)
theorem TryP.mk {g o : List Nat} {L : Nat → Nat} {n ob m : Nat} {c : Nat → Nat} {W : World} {e : Ending} {w' : World} (b : Bool) (c' : Nat → Nat) (h1 : e = .returned (.bool b)) (h2 : Ag (fun k => k = ob) W w') (h3 : RowB w' ob n (fun v => (c' v : Int))) (h4 : ∀ v, c' v < 64) (h5 : ∀ i, i < m → c' (nth o i) = c (nth o i)) (h6 : b = true → ColOK g n L c') (h7 : b = false → ¬ ColExt g n o L m c) : TryP g o L n ob m c W e w' := ⟨b, c', h1, h2, h3, h4, h5, h6, h7⟩
set_option maxRecDepth 100000 in
set_option maxHeartbeats 8000000 in
theorem try_any {bl bL bG bO bF G qb qo qc lb lq lc ob n : Nat} {a : Option Addr} {cap len : Nat} {g o : List Nat} {L : Nat → Nat} (U : Und g n) (O : OrdOK n o) (hn : n ≤ 16) (hsm : ∀ i : Nat, Sm (g[i]?.getD 0)) (hL : ∀ v, L v < 18446744073709551616) : ∀ (m at' : Nat), at' + m = n → ∀ (W : World) (c : Nat → Nat), CBase W bl bL bG bO bF G qb qo qc lb lq lc ob n a cap len g o L → RowB W ob n (fun v => (c v : Int)) → ColPre g o L at' c → (∀ v, c v < 64) →
    Calls Tryd.prog 30 #[.int .i64 (at' : Int), .pointer (some ⟨bl, 0, none⟩), .pointer (some ⟨bL, 0, none⟩), .pointer (some ⟨bG, 0, none⟩), .pointer (some ⟨bO, 0, none⟩), .pointer (some ⟨bF, 0, none⟩)] W (TryP g o L n ob at' c W)
  | m, at', hat, W, c, hB, hR, hP, hc64 => by
    have HU := Lib.hid U
    have HO := Lib.hid O
    have HSM := Lib.hid hsm
    have HLB := Lib.hid hL
    have HB := Lib.hid hB
    have HR := Lib.hid hR
    have HP := Lib.hid hP
    have HC := Lib.hid hc64
    have c1 := hB.kl.cell
    by_cases hm : m = 0
    · have hae : at' = n := by omega
      have heq : ((at' : Int) == (n : Int)) = true := by rw [hae]; simp
      clear hB hR hP hc64 U O hsm hL
      go_enter Tryd.func30, Tryd.ntmps30
      go_wp2
      go_ret
      refine TryP.mk true c rfl (Ag.refl _ _) HR.out HC.out (fun _ _ => rfl) (fun _ => ?_) (fun h => by cases h)
      exact ColPre.all HU.out HO.out (by rw [← hae]; exact HP.out)
    · have IH : Hid (∀ (W : World) (c : Nat → Nat), CBase W bl bL bG bO bF G qb qo qc lb lq lc ob n a cap len g o L → RowB W ob n (fun v => (c v : Int)) → ColPre g o L (at' + 1) c → (∀ v, c v < 64) →
          Calls Tryd.prog 30 #[.int .i64 ((at' : Int) + 1), .pointer (some ⟨bl, 0, none⟩), .pointer (some ⟨bL, 0, none⟩), .pointer (some ⟨bG, 0, none⟩), .pointer (some ⟨bO, 0, none⟩), .pointer (some ⟨bF, 0, none⟩)] W (TryP g o L n ob (at' + 1) c W)) := fun W c h1 h2 h3 h4 => by
        have := try_any U O hn hsm hL (m - 1) (at' + 1) (by omega) W c h1 h2 h3 h4
        simpa using this
      have hlt : at' < n := by omega
      have heq : ((at' : Int) == (n : Int)) = false := by rw [beq_eq_false_iff_ne]; omega
      have ho := O.lt at' hlt
      obtain ⟨v, hv⟩ : ∃ v, Hid (v = nth o at') := ⟨_, rfl⟩
      have c2 := hB.rl.2 at' hlt
      rw [← hv.out] at c2 ho
      have c3 := hB.kL.cell
      have c4 := hB.rL.2 v ho
      have c5 := hB.kG.cell
      have hv16 : v < 16 := by omega
      have c6 := hB.gr.next v hv16
      obtain ⟨x, hx⟩ : ∃ x, Hid (x = g[v]?.getD 0) := ⟨_, rfl⟩
      rw [← hx.out] at c6
      have hxs : Sm x := by rw [hx.out]; exact hsm v
      have c7 := hB.kO.cell
      have hcap := hB.hcap
      have h0 : (0 : Int) ≤ (at' : Int) := by omega
      have h1 : (at' : Int) < (n : Int) := by omega
      have h2 : (at' : Int) ≤ (qc : Int) := by omega
      have h3 : (v : Int) < (n : Int) := by omega
      have h4 : (0 : Int) ≤ (v : Int) := by omega
      have h5 : (v : Int) < 16 := by omega
      obtain ⟨Lv, hLv⟩ : ∃ Lv, Hid (Lv = L v) := ⟨_, rfl⟩
      rw [← hLv.out] at c4
      clear hB hR hP hc64 U O hsm hL
      go_enter Tryd.func30, Tryd.ntmps30
      go_upto_region 6 with (fail)
      go_loopw [9, 28] (fun s9 s28 wr => ∃ k : Nat, k ≤ at' ∧ s28 = .int .i64 (k : Int) ∧ s9 = .int .u64 (lftK g o L c v k : Nat) ∧ Hid (wr = W)) (fun _ s28 _ => 40 - (intOf s28).toNat)
      case atStart => exact ⟨0, by omega, rfl, by rw [hLv.out]; rfl, rfl⟩
      case round =>
        obtain ⟨k, hk, rfl, rfl, hw⟩ := hrel
        rw [hw.out]
        by_cases hka : k < at'
        · have g1 : (k : Int) < (at' : Int) := by omega
          have g2 : (0 : Int) ≤ (k : Int) := by omega
          have hwn := HO.out.lt k (by omega)
          obtain ⟨u, hu⟩ : ∃ u, Hid (u = nth o k) := ⟨_, rfl⟩
          have d1 := HB.out.rl.2 k (by omega)
          rw [← hu.out] at d1 hwn
          have d2 := HR.out.cell hwn
          have hcu := HC.out u
          have g3 : (u : Int) < (n : Int) := by omega
          have g4 : (0 : Int) ≤ (u : Int) := by omega
          have hwu : IntKind.u64.wrap (u : Int) = (u : Int) := u64_same _ (by omega)
          have hlk : lftK g o L c v k < 18446744073709551616 := Nat.lt_of_le_of_lt (lftK_le g o L c v k) (HLB.out v)
          cases hbit : x.testBit u with
          | false =>
            have hno : Hid (lftK g o L c v (k + 1) = lftK g o L c v k) := by
              unfold Hid
              rw [lftK, if_neg]
              rw [← hu.out, ← hx.out, hbit]; decide
            generalize lftK g o L c v k = left at *
            go_wp2
            exact ⟨⟨k + 1, by omega, int_eq (by omega), by rw [hno.out], Lib.hid trivial⟩, by simp [intOf]; omega⟩
          | true =>
            have hyes : Hid (lftK g o L c v (k + 1) = ldiff (lftK g o L c v k) (2 ^ c u)) := by
              unfold Hid
              rw [lftK, if_pos (by rw [← hu.out, ← hx.out, hbit]), ← hu.out]
            have hba := bandNot64 (lftK g o L c v k) (c u) hlk hcu
            have hwc : IntKind.u64.wrap ((c u : Nat) : Int) = ((c u : Nat) : Int) := u64_same _ (by omega)
            generalize lftK g o L c v k = left at *
            go_wp2
            exact ⟨⟨k + 1, by omega, int_eq (by omega), by rw [hyes.out], Lib.hid trivial⟩, by simp [intOf]; omega⟩
        · have g1 : ¬ (k : Int) < (at' : Int) := by omega
          have hke : k = at' := by omega
          rw [hke]
          clear hke
          go_upto_region 11 with (fail)
          obtain ⟨lft, hlft⟩ : ∃ z, Hid (z = lftK g o L c v at') := ⟨_, rfl⟩
          rw [← hlft.out]
          clear c1 c2 c3 c4 c5 c6 c7
          go_loopw [9] (fun s9 wr => ∃ (left : Nat) (c3 : Nat → Nat), s9 = .int .u64 (left : Int) ∧ Hid ((∀ y, left.testBit y = true → lft.testBit y = true) ∧ (∀ y, lft.testBit y = true → left.testBit y = false → ¬ ColExt g n o L (at' + 1) (setC c v y)) ∧ (∀ y, c3 y < 64) ∧ (∀ i, i < at' → c3 (nth o i) = c (nth o i)) ∧ RowB wr ob n (fun y => (c3 y : Int)) ∧ left < 18446744073709551616) ∧ Hid (Ag (fun k => k = ob) W wr)) (fun s9 _ => (intOf s9).toNat)
          case atStart => exact ⟨lft, c, rfl, ⟨(fun y h => h), (fun y h1 h2 => by rw [h1] at h2; cases h2), HC.out, (fun _ _ => rfl), HR.out, by rw [hlft.out]; exact Nat.lt_of_le_of_lt (lftK_le g o L c v at') (HLB.out v)⟩, Ag.refl _ _⟩
          case round =>
            obtain ⟨left, c3, rfl, hst, hag⟩ := hrel
            by_cases hl0 : left = 0
            · have hb : (((left : Nat) : Int) != 0) = false := by rw [hl0]; rfl
              go_wp2
              go_ret
              refine TryP.mk false c3 rfl hag.out hst.out.2.2.2.2.1 hst.out.2.2.1 hst.out.2.2.2.1 (fun h => by cases h) (fun _ hE => ?_)
              obtain ⟨y, hy1, hy2⟩ := ColExt.step HO.out hlt hE
              rw [← hv.out] at hy1 hy2
              rw [← hlft.out] at hy1
              exact hst.out.2.1 y hy1 (by rw [hl0]; simp) hy2
            · have hb : (((left : Nat) : Int) != 0) = true := by rw [bne_iff_ne]; omega
              have hl64 := hst.out.2.2.2.2.2
              have hlo := (lo_spec hl0 hl64).elim fun _ h => h.2
              have hlb := lo_bit hl0 hl64
              have BW' := HB.out.ag hag.out
              obtain ⟨y, hy⟩ : ∃ y, Hid (y = lo left) := ⟨_, rfl⟩
              rw [← hy.out] at hlo hlb
              have HTZ : Hid (∀ d : BW wr.heap.size wr, Calls Tryd.prog 31 #[.int .u64 (left : Int)] d.w fun e w' => e = .returned (.int .i64 (y : Int)) ∧ ∃ d' : BW wr.heap.size wr, w' = d'.w) := fun d => by
                refine (tz64_any left hl64 hl0 d.w (BW'.tab.below d.b (Nat.le_refl _))).mono ?_
                rintro e w' ⟨h1, h2⟩
                exact ⟨by rw [h1, hy.out]; rfl, d, h2⟩
              have r0 : ∀ d : BW wr.heap.size wr, d.w.cell? ⟨bO, 0, none⟩ = some (.slice (some ⟨ob, 0, none⟩) n n) := fun d => d.cell BW'.kO.lt BW'.kO.cell
              have HBB := Lib.hid BW'
              have HLB2 := Lib.hid hlb
              clear BW' hlb
              go_wp2
              refine wp_region_bw_tail 5 (by kernel_rfl) (by kernel_rfl) ?_
              simp only [List.take_succ_cons, List.take_zero, List.drop_succ_cons, List.drop_zero]
              repeat (go_big_quiet_step ((first
                | rfl
                | (go_at_call 31; exact HTZ.out _))))
              refine wpQuiet_nil ?_
              rintro _ ⟨d, rfl⟩
              clear r0
              have hRD := hst.out.2.2.2.2.1.below d.b hst.out.2.2.2.2.1.lt
              have e1 := hRD.cell ho
              have e2 := hRD.frozen v
              have hagD : Ag (fun k => k = ob) wr (d.w.setCell ⟨ob, v, none⟩ (.int .i64 (y : Int))) := (Ag.of_below d.b).set _ _ (.inr rfl)
              have hCB := HBB.out.ag hagD
              have hR5 : RowB (d.w.setCell ⟨ob, v, none⟩ (.int .i64 (y : Int))) ob n (fun z => ((setC c3 v y) z : Int)) := (hRD.set ho (y : Int)).congr fun z _ => by
                unfold setC; by_cases e : z = v
                · simp [e]
                · simp [e]
              have hlft2 : lft.testBit y = true := hst.out.1 y HLB2.out.1
              have hpre : ColPre g o L (at' + 1) (setC c3 v y) := by
                have h := ColPre.step HO.out hlt HP.out (x := y) (by rw [← hv.out, ← hlft.out]; exact hlft2)
                rw [← hv.out] at h
                refine ColPre.congr h fun i hi => ?_
                unfold setC
                by_cases e : nth o i = v
                · rw [if_pos e, if_pos e]
                · rw [if_neg e, if_neg e]
                  have : i ≠ at' := fun h => e (by rw [h, hv.out])
                  exact hst.out.2.2.2.1 i (by omega)
              have hc5 : ∀ z, setC c3 v y z < 64 := fun z => by
                unfold setC; split
                · exact hlo
                · exact hst.out.2.2.1 z
              have IHC := Lib.hid (IH.out _ _ hCB hR5 hpre hc5)
              have cF := hCB.kF.cell
              have HAD := Lib.hid (hag.out.trans hagD)
              clear hRD hagD hCB hR5 hpre hc5
              go_upto_if 66 with (go_at_call 30; refine (IHC.out).mono ?_; rintro e w6 ⟨b6, c6, rfl, hag6, hR6, hc6, hsm6, ht6, hf6⟩; have HA6 := Lib.hid (HAD.out.trans hag6); have HR6 := Lib.hid hR6; have HC6 := Lib.hid hc6; have HS6 := Lib.hid hsm6; have HT6 := Lib.hid ht6; have HF6 := Lib.hid hf6; clear hag6 hR6 hc6 hsm6 ht6 hf6)
              have hsame : Hid (∀ i, i < at' → c6 (nth o i) = c (nth o i)) := fun i hi => by
                rw [HS6.out i (by omega)]
                unfold setC
                rw [if_neg (by rw [hv.out]; exact HO.out.ne (by omega) hlt (by omega))]
                exact hst.out.2.2.2.1 i hi
              cases b6 with
              | true =>
                go_wp2
                go_ret
                exact TryP.mk true c6 rfl HA6.out HR6.out HC6.out hsame.out (fun _ => by first | exact HT6.out rfl | exact HT6.out trivial) (fun h => by cases h)
              | false =>
                have hsub : left &&& (left - 1) = ldiff left (pw y) := by rw [hy.out]; exact sub_one_and hl0 hl64
                have hlt2 : ldiff left (pw y) < left := by rw [← hsub]; have : left &&& (left - 1) ≤ left - 1 := Nat.and_le_right; omega
                have hw1 : IntKind.u64.wrap ((left : Int) - 1) = ((left - 1 : Nat) : Int) := by rw [show ((left : Int) - 1) = ((left - 1 : Nat) : Int) by omega]; exact u64_same _ (by omega)
                have hand : bits BinOp.and IntKind.u64 (left : Int) (IntKind.u64.wrap ((left : Int) - 1)) = ((ldiff left (pw y) : Nat) : Int) := by rw [hw1, band64 _ _ hl64 (by omega), hsub]
                have hand2 : bits BinOp.and IntKind.u64 (left : Int) ((left : Int) - 1) = ((ldiff left (pw y) : Nat) : Int) := by rw [show ((left : Int) - 1) = ((left - 1 : Nat) : Int) by omega, band64 _ _ hl64 (by omega), hsub]
                clear hw1
                have hst2 : Hid ((∀ z, (ldiff left (pw y)).testBit z = true → lft.testBit z = true) ∧ (∀ z, lft.testBit z = true → (ldiff left (pw y)).testBit z = false → ¬ ColExt g n o L (at' + 1) (setC c v z)) ∧ (∀ z, c6 z < 64) ∧ (∀ i, i < at' → c6 (nth o i) = c (nth o i)) ∧ RowB w6 ob n (fun z => (c6 z : Int)) ∧ ldiff left (pw y) < 18446744073709551616) := by
                  refine ⟨fun z hz => ?_, fun z hz1 hz2 hE => ?_, HC6.out, hsame.out, HR6.out, by omega⟩
                  · rw [testBit_ldiff, Bool.and_eq_true] at hz; exact hst.out.1 z hz.1
                  · rw [testBit_ldiff, pw, Nat.testBit_two_pow] at hz2
                    by_cases e : y = z
                    · subst e
                      refine HF6.out rfl (hE.congr fun i hi => ?_)
                      unfold setC
                      by_cases e : nth o i = v
                      · rw [if_pos e, if_pos e]
                      · rw [if_neg e, if_neg e]
                        have : i ≠ at' := fun h => e (by rw [h, hv.out])
                        exact hst.out.2.2.2.1 i (by omega)
                    · refine hst.out.2.1 z hz1 ?_ hE
                      simpa [e] using hz2
                have HL2 := Lib.hid hlt2
                clear hlt2 hsub
                generalize ldiff left (pw y) = left2 at *
                have hl1 : 1 ≤ left := by omega
                go_wp2
                exact ⟨⟨left2, c6, rfl, hst2, HA6⟩, by have := HL2.out; simp [intOf]; omega⟩
  termination_by m => m
end Go.Proofs.YtbioondlmgolkaaDoor.Hu
