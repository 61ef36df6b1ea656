/- append onto a row of the call's own, the source another row, nil or not. The document's order and cores: walks. The document's cores; equal rows of numbers: walks. HueOrders: the walk of the law. -/
import Derived.Test.YtpknnjcbcndbbaaDoorA06
import Derived.Test.YtpknnjcbcndbbaaDoorA14
import Derived.Test.YtpknnjcbcndbbaaDoorA17
set_option linter.unusedVariables false
set_option linter.unusedSimpArgs false
namespace Go.Proofs.YtpknnjcbcndbbaaDoor
open Go.RowKit
variable {P : Program}

/-- a source of values, nil where there are none -/
def Src (w : World) (p : Option Addr) (m size : Nat) (ys : List Value) : Prop := ys.length = m * size ∧ (m ≠ 0 → ∃ ad, p = some ad ∧ ∀ j u, ys[j]? = some u → w.cell? (ad.add j) = some u)
theorem QRow.src {w : World} {base : Nat} {e : TypeId} {size : Nat} {p : Option Addr} {m c : Nat} {ys : List Value} (h : QRow w base e size (.slice p m c) m ys) : Src w p m size ys := by
  refine ⟨h.1, fun hm => ?_⟩
  obtain ⟨g, o, cap, e1, _, _, _, _, h2, _⟩ := h.at (by omega)
  cases e1
  refine ⟨_, rfl, fun j u hu => ?_⟩
  have hj := (List.getElem?_eq_some_iff.1 hu).1
  rw [h.1] at hj
  rw [Addr.add_lit, h2 j hj]; exact hu
theorem run_append_q_nil (w : World) (base : Nat) (t ty e : TypeId) (i : TypeInfo) (size : Nat) (ht : P.underlying t = some (.slice e)) (hi : P.info? e = some i)
    (v : Value) (n : Nat) (xs : List Value) (hown : QRow w base e size v n xs) (c : Nat) : (Builtin.append_ #[t, t] ty #[v, .slice none 0 c]).run P w = .ok v w := by
  rcases hown.2 with ⟨rfl, rfl⟩ | ⟨g, o, cap, cur, rfl, _, _, hnc, _⟩
  · simp [Builtin.append_, run_underlying ht, sizeOf, typeInfo, hi, Builtin.lenOf, Builtin.firstCells]
  · simp [Builtin.append_, run_underlying ht, sizeOf, typeInfo, hi, Builtin.lenOf, Builtin.firstCells, hnc, storeCells]
theorem run_append_qq (w : World) (base : Nat) (t ty e : TypeId) (i : TypeInfo) (z : Value) (size bytes : Nat) (ht : P.underlying t = some (.slice e)) (hi : P.info? e = some i) (hz : i.zero = some z)
    (hsize : i.size = size) (hby : i.bytes = bytes) (hzs : z.cells.size = size) (hsz : 0 < size)
    (v : Value) (n : Nat) (xs : List Value) (hown : QRow w base e size v n xs)
    (p : Option Addr) (m c : Nat) (ys : List Value) (hs : Src w p m size ys) (h1 : ∀ u ∈ ys, u.oneCell' = true)
    (h63 : n + m ≤ maxLen) (hbytes : (n + m) * bytes ≤ 140737488355328) (hbase : base ≤ w.heap.size) :
    ∃ v' w', (Builtin.append_ #[t, t] ty #[v, .slice p m c]).run P w = .ok v' w' ∧ QRow w' base e size v' (n + m) (xs ++ ys) ∧ w.grownBy w' v.ownBlock ∧ ∀ k, v'.ownBlock = some k → v.ownBlock = some k ∨ w.heap.size ≤ k := by
  by_cases hm : m = 0
  · subst hm
    have hn : ys = [] := List.eq_nil_of_length_eq_zero (by simpa using hs.1)
    subst hn
    cases p with
    | none => exact ⟨v, w, run_append_q_nil w base t ty e i size ht hi v n xs hown c, by simpa using hown, World.grownBy.refl w _, fun k hk => .inl hk⟩
    | some ad => exact run_append_q w base t ty e i z size bytes ht hi hz hsize hby hzs hsz v n xs hown ad 0 c [] (by simp) (fun j u hu => by simp at hu) h1 h63 hbytes hbase
  · obtain ⟨ad, rfl, hc⟩ := hs.2 hm
    exact run_append_q w base t ty e i z size bytes ht hi hz hsize hby hzs hsz v n xs hown ad m c ys hs.1 hc h1 h63 hbytes hbase
theorem wpList_append_qq (w : World) {ops : Array Oper} {rest : List Oper} {o : Oper} {a : Act} {Q : Exit → Act → World → Prop}
    (hgd : o.guard = none) (s x : Operand) (t : TypeId) (ho : o.op = Op.call { callee := Callee.builtin Builtin.append, args := #[s, x], argTypes := #[t, t] })
    (base : Nat) (e : TypeId) (i : TypeInfo) (z : Value) (size bytes : Nat) (h1 : P.underlying t = some (.slice e)) (h2 : P.info? e = some i) (h3 : i.zero = some z) (h4 : i.size = size) (h5 : i.bytes = bytes) (h6 : z.cells.size = size) (h7 : 0 < size)
    (v : Value) (k : Nat) (xs : List Value) (hs : a.eval s = v) (hown : QRow w base e size v k xs) (p : Option Addr) (m c : Nat) (ys : List Value) (hx : a.eval x = .slice p m c) (hn : Src w p m size ys)
    (h1c : ∀ u ∈ ys, u.oneCell' = true) (b1 : k + m ≤ maxLen) (b2 : (k + m) * bytes ≤ 140737488355328) (b3 : base ≤ w.heap.size)
    (hK : ∀ v' w', QRow w' base e size v' (k + m) (xs ++ ys) → w.grownBy w' v.ownBlock → (∀ k, v'.ownBlock = some k → v.ownBlock = some k ∨ w.heap.size ≤ k) → wpList P ops Q rest (a.put o.dst v') w') :
    wpList P ops Q (o :: rest) a w := by
  refine wpList_plain hgd fun K hK' => ?_
  obtain ⟨v', w', hr, r1, r2, r3⟩ := run_append_qq (P := P) w base t o.type e i z size bytes h1 h2 h3 h4 h5 h6 h7 v k xs hown p m c ys hn h1c b1 b2 b3
  unfold Oper.wp execOp
  simp only [ho, resolve, invoke, builtin, Sem.run_bind, Sem.run_pure, Result.andThen_ok, List.map_toArray, List.map_cons, List.map_nil, hs, hx, hr]
  exact hK' _ _ (hK v' w' r1 r2 r3)
end Go.Proofs.YtpknnjcbcndbbaaDoor
namespace Go.Proofs.YtpknnjcbcndbbaaDoor
open Go.RowKit Go.Shelf

def fewV (g : List Nat) (s : Nat) : Option Nat → Nat
  | none => 100
  | some b => wtn g b s
theorem fewV_le (g : List Nat) (s : Nat) : ∀ o, fewV g s o ≤ 100
  | none => Nat.le_refl _
  | some b => Nat.le_trans (size_le _) (by decide)
theorem bst_yes {g : List Nat} {s k : Nat} (h : s.testBit k = true) (hb : wtn g k s ≤ fewV g s (bstK g s k)) : bstK g s (k + 1) = some k := bstK_yes h fun b e => by rw [e] at hb; exact hb
theorem bst_no {g : List Nat} {s k : Nat} (h : ¬ (s.testBit k = true ∧ wtn g k s ≤ fewV g s (bstK g s k))) : bstK g s (k + 1) = bstK g s k := by
  cases hb : s.testBit k with
  | false => exact bstK_no (.inl hb)
  | true =>
    cases hc : bstK g s k with
    | none => exact absurd ⟨hb, by rw [hc]; exact Nat.le_trans (size_le _) (show 64 ≤ 100 by decide)⟩ h
    | some b => rw [← hc]; exact bstK_no (.inr ⟨b, hc, fun hle => h ⟨hb, by rw [hc]; exact hle⟩⟩)
theorem ord_next (g : List Nat) (n j : Nat) : ((List.range (j + 1)).map (pk g n)).reverse = pk g n j :: ((List.range j).map (pk g n)).reverse := by
  rw [List.range_succ, List.map_append, List.reverse_append]; rfl
set_option maxRecDepth 100000 in
set_option maxHeartbeats 4000000 in
theorem rorder_any (n : Nat) (a : Option Addr) (cap : Nat) (g : List Nat) (w : World) (hl : g.length = n) (hn : n ≤ 16) (hsm : ∀ i : Nat, Sm (g[i]?.getD 0)) (hg : Sets w a g) :
    Calls Tryd.prog 23 #[.slice a n cap] w fun e w' => ∃ v, e = .returned (.tuple #[v, .int .i64 (loo g n n : Nat)]) ∧ QRow w' w.heap.size 3 1 v n (iv (ordL g n)) ∧ Below w.heap.size w w' := by
  obtain ⟨i0, hi, hz0, hz1, hz2⟩ := info_parts info3
  obtain ⟨b, off, rfl, hb, hc⟩ := hg
  have HC := Lib.hid hc
  have HS := Lib.hid hsm
  have HALL := Lib.hid (fun W => all_any (some ⟨b, off, none⟩) n cap W (by omega))
  have HLN := Lib.hid hl
  clear hc hsm hl
  go_enter Tryd.func23, Tryd.ntmps23
  go_upto_region 4 with (go_at_call 58; refine (HALL.out w).mono ?_; rintro e w' ⟨rfl, hw'⟩; subst hw'; try dsimp only)
  go_loopw [4, 5, 6] (fun s4 s5 s6 wr => ∃ j : Nat, j ≤ n ∧ s4 = .int .i64 (lf g n j : Nat) ∧ s6 = .int .i64 (loo g n j : Nat) ∧ QRow wr w'.heap.size 3 1 s5 j (iv ((List.range j).map (pk g n)).reverse) ∧ Below w'.heap.size w' wr) (fun _ s5 _ _ => 40 - lenV s5)
  case atStart => exact ⟨0, by omega, rfl, rfl, QRow.nil _ _ _ _, Below.refl _ _⟩
  case round =>
    obtain ⟨j, hj, rfl, rfl, hq, hB⟩ := hrel
    obtain ⟨wo, hwo⟩ : ∃ wo : World, Hid (wo = wr) := ⟨_, rfl⟩
    rw [← hwo.out] at hq hB ⊢
    clear hwo
    obtain ⟨p5, c5, rfl⟩ := hq.isSlice
    by_cases hjn : j < n
    · have hpk := pk_facts (g := g) hjn
      have hsl := lf_sm (g := g) hn j
      have hne : lf g n j ≠ 0 := fun e => by have := (lf_zero (g := g) hj).1 e; omega
      have hpk1 := hpk.1
      have hloo := loo_lt g n j
      have HPK := Lib.hid hpk
      have HL1 : Hid (lf g n (j + 1) = ldiff (lf g n j) (pw (pk g n j))) := rfl
      have HL2 : Hid (loo g n (j + 1) = max (loo g n j) (wtn g (pk g n j) (lf g n j))) := rfl
      have hwl : wtn g (pk g n j) (lf g n j) ≤ 64 := size_le _
      have HSN := Lib.hid (ord_next g n j)
      clear hpk
      generalize lf g n j = left at *
      generalize hpe : pk g n j = bb at *
      generalize loo g n j = lo at *
      have hbn : (((left : Nat) : Int) != 0) = true := by rw [bne_iff_ne]; omega
      have HB := Lib.hid hB
      have HQ := Lib.hid hq
      clear hq hB
      go_upto_region 7 with (fail)
      go_loopw [7, 8, 9] (fun s7 s8 s9 wr2 => ∃ k : Nat, k ≤ n ∧ s9 = .int .i64 (k : Int) ∧ s7 = .int .i64 (bestV (bstK g left k)) ∧ s8 = .int .i64 (fewV g left (bstK g left k) : Nat) ∧ Hid (wr2 = wo)) (fun _ _ s9 _ => 40 - (intOf s9).toNat)
      case atStart => exact ⟨0, by omega, rfl, rfl, rfl, rfl⟩
      case round =>
        obtain ⟨k, hk, rfl, rfl, rfl, hw⟩ := hrel
        rw [hw.out]
        by_cases hkn : k < n
        · have h1 : (k : Int) < (n : Int) := by omega
          have h0 : (0 : Int) ≤ (k : Int) := by omega
          have hk20 : k < 20 := by omega
          have hck := (HB.out.cell (p := ⟨b, off + k, none⟩) hb).trans (HC.out k (by rw [HLN.out]; exact hkn))
          have hgk := HS.out k
          obtain ⟨x, hx⟩ : ∃ x, Hid (x = g[k]?.getD 0) := ⟨_, rfl⟩
          rw [← hx.out] at hck hgk
          have hxs : Sm (x &&& left) := sm_and_l left hgk
          have HSZ := Lib.hid (size_any (x &&& left) wo hxs)
          have hwk : wtn g k left = size (x &&& left) := by unfold wtn; rw [hx.out]
          have hfl := fewV_le g left (bstK g left k)
          have hsz := size_le (x &&& left)
          have HWK := Lib.hid hwk
          have hyes := Lib.hid (fun h1 h2 => bst_yes (g := g) (s := left) (k := k) h1 h2)
          have hno := Lib.hid (fun h => bst_no (g := g) (s := left) (k := k) h)
          have HF1 : Hid (fewV g left (some k) = size (x &&& left)) := hwk
          rw [hwk] at hyes hno
          clear hwk
          generalize hfw : fewV g left (bstK g left k) = fw at *
          have HFW := Lib.hid hfw
          clear hfw
          generalize size (x &&& left) = cnt at *
          cases hbit : left.testBit k with
          | false =>
            have HN := Lib.hid (hno.out (fun h => by rw [hbit] at h; cases h.1))
            go_wp2_with (go_at_call 59; refine Calls.mono HSZ.out ?_; rintro e wz ⟨rfl, hwz⟩; subst hwz; try dsimp only)
            exact ⟨⟨k + 1, by omega, int_eq (by omega), by rw [HN.out], by rw [HN.out, HFW.out], Lib.hid trivial⟩, by simp [intOf]; omega⟩
          | true =>
            by_cases hle : cnt ≤ fw
            · have HN := Lib.hid (hyes.out hbit hle)
              have h3 : (cnt : Int) ≤ (fw : Int) := by omega
              clear hle
              go_wp2_with (go_at_call 59; refine Calls.mono HSZ.out ?_; rintro e wz ⟨rfl, hwz⟩; subst hwz; try dsimp only)
              exact ⟨⟨k + 1, by omega, int_eq (by omega), by rw [HN.out]; rfl, by rw [HN.out, HF1.out], Lib.hid trivial⟩, by simp [intOf]; omega⟩
            · have HN := Lib.hid (hno.out (fun h => hle h.2))
              have h3 : ¬ (cnt : Int) ≤ (fw : Int) := by omega
              clear hle
              go_wp2_with (go_at_call 59; refine Calls.mono HSZ.out ?_; rintro e wz ⟨rfl, hwz⟩; subst hwz; try dsimp only)
              exact ⟨⟨k + 1, by omega, int_eq (by omega), by rw [HN.out], by rw [HN.out, HFW.out], Lib.hid trivial⟩, by simp [intOf]; omega⟩
        · have h1 : ¬ (k : Int) < (n : Int) := by omega
          have hke : k = n := by omega
          rw [hke, HPK.out.2.2.1]
          simp only [bestV, fewV]
          clear hke
          have hpb : wrap64 (2 ^ bb) = ((pw bb : Nat) : Int) := pw_cast _ (by omega)
          have hspb : Sm (pw bb) := sm_pw (by omega)
          have hb0 : (0 : Int) ≤ (bb : Int) := by omega
          have hmax : max ((lo : Nat) : Int) ((wtn g bb left : Nat) : Int) = ((max lo (wtn g bb left) : Nat) : Int) := by omega
          have HBL := Lib.hid (fun kk => HQ.out.lt kk)
          have hsz0 := HB.out.size
          go_upto_region 15 with (at_builtin; go_must (refine wpList_append_q _ rfl (.tmp 41) (.tmp 43) 25 rfl w'.heap.size 3 i0 (.int .i64 0) 1 8 Tryd.underlying25 hi hz0 hz1 hz2 rfl (by decide) _ 0 [] rfl (QRow.nil _ _ _ _) ⟨_, 0, none⟩ 1 1 [.int .i64 (bb : Int)] rfl rfl (cells_new1 _ _ _) (by simp [Value.oneCell']) (by unfold maxLen; omega) (by omega) (by simp; omega) ?_); intro v4 w4 hq4 hg4 ho4; obtain ⟨q1, q2, rfl⟩ := hq4.isSlice; have HQ4 := Lib.hid hq4; have HB4 : Hid (Below w'.heap.size w' w4) := Below.grown (HB.out.alloc HB.out.size _) hg4 (by simp; omega) (fun kk e => by cases e); have HQO : Hid (QRow w4 w'.heap.size 3 1 (.slice p5 j c5) j (iv (List.map (pk g n) (List.range j)).reverse)) := HQ.out.below (Below.grown ((Below.refl _ wo).alloc (Nat.le_refl _) (.cells #[.int .i64 (bb : Int)] 3)) hg4 (by simp) (fun kk e => by cases e)) (fun k hk => (HBL.out k hk).2); have HBq := Lib.hid (fun kk e => (hq4.lt kk e).1); clear hq4 hg4 ho4)
          have hsz4 := HB4.out.size
          have h1c : ∀ u ∈ iv ((List.range j).map (pk g n)).reverse, u.oneCell' = true := fun u hu => by
            unfold iv at hu
            obtain ⟨x, _, rfl⟩ := List.mem_map.1 hu
            rfl
          have H1C := Lib.hid h1c
          clear h1c
          go_wp2_with (at_builtin; go_must (refine wpList_append_qq _ rfl (.tmp 45) (.tmp 46) 25 rfl w'.heap.size 3 i0 (.int .i64 0) 1 8 Tryd.underlying25 hi hz0 hz1 hz2 rfl (by decide) _ 1 [.int .i64 (bb : Int)] rfl HQ4.out p5 j c5 (iv ((List.range j).map (pk g n)).reverse) rfl HQO.out.src H1C.out (by unfold maxLen; omega) (by omega) hsz4 ?_); intro v5 w5 hq5 hg5 ho5; obtain ⟨q3, q4, rfl⟩ := hq5.isSlice; have HQ5 := Lib.hid hq5; have HB5 : Hid (Below w'.heap.size w' w5) := Below.grown HB4.out hg5 hsz4 (fun kk e => HBq.out kk e); clear hq5 hg5 ho5)
          have HQ6 : Hid (QRow w5 w'.heap.size 3 1 (.slice q3 (1 + j) q4) (j + 1) (iv ((List.range (j + 1)).map (pk g n)).reverse)) := by
            unfold Hid
            rw [HSN.out]
            have := HQ5.out
            rw [Nat.add_comm 1 j] at this ⊢
            exact this
          exact ⟨⟨j + 1, by omega, int_eq (by rw [HL1.out]), int_eq (by rw [HL2.out]), HQ6.out, HB5.out⟩, by simp [lenV]; omega⟩
    · have hje : j = n := by omega
      have hz := (lf_zero (g := g) hj).2 hje
      rw [hz]
      have HQ := Lib.hid hq
      have HB := Lib.hid hB
      rw [hje] at HQ ⊢
      clear hz hq hB hje
      go_wp2
      refine bodyPost_ret (v := .tuple #[.slice p5 n c5, .int .i64 (loo g n n : Nat)]) (by simp [results, Tryd.f23, go_sem]) rfl ?_
      exact ⟨_, rfl, HQ.out, HB.out⟩
end Go.Proofs.YtpknnjcbcndbbaaDoor
namespace Go.Proofs.YtpknnjcbcndbbaaDoor
open Go.RowKit Go.Shelf

theorem pasK_lt {g : List Nat} {k s v : Nat} (h : (pasK g k s v).testBit v = true) (hb : wtn g v (pasK g k s v) < k) : pasK g k s (v + 1) ≠ s := by
  rw [pasK_yes h hb]
  have h1 := pasK_le g k s v
  intro e
  have h2 : (ldiff (pasK g k s v) (pw v)).testBit v = false := by
    rw [testBit_ldiff, h, pw, Nat.testBit_two_pow]; simp
  have h3 : ldiff (pasK g k s v) (pw v) ≤ pasK g k s v := ldiff_le _ _
  have h4 : pasK g k s v = s := by omega
  rw [h4] at e h
  rw [h4, e, h] at h2; cases h2
def boolN : Value → Nat
  | .bool true => 1
  | _ => 0
set_option maxRecDepth 100000 in
set_option maxHeartbeats 4000000 in
theorem rcore_any (n k : Nat) (a : Option Addr) (cap : Nat) (g : List Nat) (w : World) (hl : g.length = n) (hn : n ≤ 16) (hk16 : k ≤ 16) (hsm : ∀ i : Nat, Sm (g[i]?.getD 0)) (hg : Sets w a g) :
    Calls Tryd.prog 26 #[.slice a n cap, .int .i64 (k : Int)] w fun e w' => (∃ s : Nat, e = .returned (.int .i64 (s : Int)) ∧ CoreIs g n k s) ∧ w' = w := by
  obtain ⟨b, off, rfl, hb, hc⟩ := hg
  have HC := Lib.hid hc
  have HS := Lib.hid hsm
  have HALL := Lib.hid (fun W => all_any (some ⟨b, off, none⟩) n cap W (by omega))
  have HLN := Lib.hid hl
  clear hc hsm hl
  go_enter Tryd.func26, Tryd.ntmps26
  go_upto_region 3 with (go_at_call 58; refine (HALL.out w).mono ?_; rintro e w' ⟨rfl, hw'⟩; subst hw'; try dsimp only)
  go_loopw [5, 6] (fun s5 s6 wr => ∃ (j : Nat) (again : Bool), s5 = .int .i64 (cor g n k j : Nat) ∧ s6 = .bool again ∧ Hid (again = true ∨ pasK g k (cor g n k j) n = cor g n k j) ∧ Hid (wr = w')) (fun s5 s6 _ => 2 * (intOf s5).toNat + boolN s6)
  case atStart => exact ⟨0, true, rfl, rfl, .inl rfl, rfl⟩
  case round =>
    obtain ⟨j, again, rfl, rfl, hst, hw⟩ := hrel
    rw [hw.out]
    have hcs := cor_sm (g := g) (k := k) hn j
    cases again with
    | false =>
      have hci : Hid (CoreIs g n k (cor g n k j)) := ⟨j, rfl, hst.out.elim (fun h => by cases h) id⟩
      generalize cor g n k j = s at *
      go_wp2
      go_ret
      exact ⟨⟨s, rfl, hci.out⟩, rfl⟩
    | true =>
      have hnext : Hid (cor g n k (j + 1) = pasK g k (cor g n k j) n) := rfl
      have HLE := Lib.hid (pasK_le g k (cor g n k j) n)
      generalize hse : cor g n k j = s at *
      clear hse hst
      go_upto_region 6 with (fail)
      go_loopw [5, 6, 7] (fun s5 s6 s7 wr2 => ∃ v : Nat, v ≤ n ∧ s7 = .int .i64 (v : Int) ∧ s5 = .int .i64 (pasK g k s v : Nat) ∧ s6 = .bool (decide (pasK g k s v ≠ s)) ∧ Hid (wr2 = w')) (fun _ _ s7 _ => 40 - (intOf s7).toNat)
      case atStart => exact ⟨0, by omega, rfl, rfl, by simp [pasK], rfl⟩
      case round =>
        obtain ⟨v, hv, rfl, rfl, rfl, hw2⟩ := hrel
        rw [hw2.out]
        by_cases hvn : v < n
        · have h1 : (v : Int) < (n : Int) := by omega
          have h0 : (0 : Int) ≤ (v : Int) := by omega
          have hv20 : v < 20 := by omega
          have hps := pasK_sm (g := g) (k := k) hcs v
          have hck := HC.out v (by rw [HLN.out]; exact hvn)
          have hgk := HS.out v
          obtain ⟨x, hx⟩ : ∃ x, Hid (x = g[v]?.getD 0) := ⟨_, rfl⟩
          rw [← hx.out] at hck hgk
          have hxs : Sm (x &&& pasK g k s v) := sm_and_l _ hgk
          have HSZ := Lib.hid (size_any (x &&& pasK g k s v) w' hxs)
          have hwk : wtn g v (pasK g k s v) = size (x &&& pasK g k s v) := by unfold wtn; rw [hx.out]
          have hyes := Lib.hid (fun h1 h2 => pasK_yes (g := g) (k := k) (s := s) (v := v) h1 h2)
          have hlt := Lib.hid (fun h1 h2 => pasK_lt (g := g) (k := k) (s := s) (v := v) h1 h2)
          have hno := Lib.hid (fun h => pasK_no (g := g) (k := k) (s := s) (v := v) h)
          rw [hwk] at hyes hlt hno
          clear hwk
          have hpv : wrap64 (2 ^ v) = ((pw v : Nat) : Int) := pw_cast _ (by omega)
          have hspv : Sm (pw v) := sm_pw (by omega)
          cases hbit : (pasK g k s v).testBit v with
          | false =>
            have HN := Lib.hid (hno.out (fun h => by rw [hbit] at h; cases h.1))
            generalize pasK g k s v = t at *
            generalize hdd : decide (t ≠ s) = dd at *
            have HDD := Lib.hid hdd
            clear hdd
            go_wp2
            exact ⟨⟨v + 1, by omega, int_eq (by omega), by rw [HN.out], by rw [HN.out, HDD.out], Lib.hid trivial⟩, by simp [intOf]; omega⟩
          | true =>
            by_cases hle : size (x &&& pasK g k s v) < k
            · have HN := Lib.hid (hyes.out hbit hle)
              have HNE := Lib.hid (hlt.out hbit hle)
              have h3 : ((size (x &&& pasK g k s v) : Nat) : Int) < (k : Int) := by omega
              clear hle
              generalize pasK g k s v = t at *
              go_wp2_with (go_at_call 59; refine Calls.mono HSZ.out ?_; rintro e wz ⟨rfl, hwz⟩; subst hwz; try dsimp only)
              exact ⟨⟨v + 1, by omega, int_eq (by omega), by rw [HN.out], by rw [decide_eq_true HNE.out], Lib.hid trivial⟩, by simp [intOf]; omega⟩
            · have HN := Lib.hid (hno.out (fun h => hle h.2))
              have h3 : ¬ ((size (x &&& pasK g k s v) : Nat) : Int) < (k : Int) := by omega
              clear hle
              generalize pasK g k s v = t at *
              generalize hdd : decide (t ≠ s) = dd at *
              have HDD := Lib.hid hdd
              clear hdd
              go_wp2_with (go_at_call 59; refine Calls.mono HSZ.out ?_; rintro e wz ⟨rfl, hwz⟩; subst hwz; try dsimp only)
              exact ⟨⟨v + 1, by omega, int_eq (by omega), by rw [HN.out], by rw [HN.out, HDD.out], Lib.hid trivial⟩, by simp [intOf]; omega⟩
        · have h1 : ¬ (v : Int) < (n : Int) := by omega
          have hve : v = n := by omega
          rw [hve, ← hnext.out]
          have hle2 : cor g n k (j + 1) ≤ s := by rw [hnext.out]; exact HLE.out
          have HST : Hid (decide (cor g n k (j + 1) ≠ s) = true ∨ pasK g k (cor g n k (j + 1)) n = cor g n k (j + 1)) := by
            by_cases e : cor g n k (j + 1) = s
            · right; rw [e, ← hnext.out, e]
            · left; simpa using e
          clear hve
          generalize hte : cor g n k (j + 1) = t at *
          have HTE := Lib.hid hte
          clear hte
          by_cases e : t = s
          · have hd : decide (t ≠ s) = false := by simp [e]
            rw [hd] at HST ⊢
            go_wp2
            exact ⟨⟨j + 1, false, by rw [HTE.out], rfl, by rw [HTE.out]; exact HST, Lib.hid trivial⟩, by simp [intOf, boolN]; omega⟩
          · have hd : decide (t ≠ s) = true := by simp [e]
            rw [hd] at HST ⊢
            go_wp2
            exact ⟨⟨j + 1, true, by rw [HTE.out], rfl, by rw [HTE.out]; exact HST, Lib.hid trivial⟩, by simp [intOf, boolN]; omega⟩
theorem QRow.isrc {w : World} {base : Nat} {p : Option Addr} {m c : Nat} {l : List Nat} (h : QRow w base 3 1 (.slice p m c) m (iv l)) : m ≠ 0 → ∃ b o, p = some ⟨b, o, none⟩ ∧ b < w.heap.size ∧ ∀ j, j < m → w.cell? ⟨b, o + j, none⟩ = some (.int .i64 (nth l j : Nat)) := fun hm => by
  obtain ⟨b, o, cap, e, _, hb, _, _, hc, _⟩ := h.at (by omega)
  cases e
  have hl : l.length = m := by have := h.1; unfold iv at this; rw [List.length_map] at this; omega
  refine ⟨b, o, rfl, hb, fun j hj => ?_⟩
  rw [hc j (by omega)]
  unfold iv nth
  rw [List.getElem?_map, List.getElem?_eq_getElem (by omega)]; rfl
set_option maxRecDepth 100000 in
theorem ints_same (p1 p2 : Option Addr) (m c1 c2 : Nat) (f : Nat → Nat) (w : World) (hm : m ≤ 1099511627776) (h1 : m ≠ 0 → ∃ b o, p1 = some ⟨b, o, none⟩ ∧ b < w.heap.size ∧ ∀ j, j < m → w.cell? ⟨b, o + j, none⟩ = some (.int .i64 (f j : Nat))) (h2 : m ≠ 0 → ∃ b o, p2 = some ⟨b, o, none⟩ ∧ b < w.heap.size ∧ ∀ j, j < m → w.cell? ⟨b, o + j, none⟩ = some (.int .i64 (f j : Nat))) :
    Calls Tryd.prog 24 #[.slice p1 m c1, .slice p2 m c2] w fun e w' => e = .returned (.bool true) ∧ Below w.heap.size w w' := by
  have H1 := Lib.hid h1
  have H2 := Lib.hid h2
  clear h1 h2
  go_enter Tryd.func24, Tryd.ntmps24
  go_upto_region 4 with (fail)
  go_loopw [5] (fun s5 wr => ∃ j : Nat, j ≤ m ∧ s5 = .int .i64 (j : Int) ∧ Hid (Below w.heap.size w wr)) (fun s5 _ => m - (intOf s5).toNat)
  case atStart => exact ⟨0, by omega, rfl, Below.refl _ _⟩
  case round =>
    obtain ⟨j, hj, rfl, hB⟩ := hrel
    by_cases hjm : j < m
    · obtain ⟨b1, o1, rfl, hb1, hc1⟩ := H1.out (by omega)
      obtain ⟨b2, o2, rfl, hb2, hc2⟩ := H2.out (by omega)
      have k1 := (hB.out.cell (p := ⟨b1, o1 + j, none⟩) hb1).trans (hc1 j hjm)
      have k2 := (hB.out.cell (p := ⟨b2, o2 + j, none⟩) hb2).trans (hc2 j hjm)
      have g1 : (j : Int) < (m : Int) := by omega
      have g0 : (0 : Int) ≤ (j : Int) := by omega
      clear hc1 hc2
      go_wp2
      go_region
      go_wp2
      exact ⟨⟨j + 1, by omega, int_eq (by omega), hB.out.trans (below_dr (Below.refl _ _) 1 |>.mono hB.out.size)⟩, by simp [intOf]; omega⟩
    · have g1 : ¬ (j : Int) < (m : Int) := by omega
      go_wp2
      go_ret
      exact ⟨rfl, hB.out⟩
set_option maxRecDepth 100000 in
set_option maxHeartbeats 1000000 in
theorem Core_arg (n : Nat) (a : Option Addr) (cap : Nat) (k : Int) (ps : List (Int × Int)) (w : World) (hG : Good n ps a w) (hk : k < 0 ∨ 16 < k) :
    Calls Tryd.prog 25 #[.int .i64 (n : Int), .slice a ps.length cap, .int .i64 k] w fun e w' => e = .returned (.tuple #[.int .i64 0, .int .i64 1]) ∧ Below w.heap.size w w' := by
  have HO := Lib.hid (gopen_ok n a cap ps w hG.hl hG.hg hG.n1 hG.n2 hG.ok)
  clear hG
  by_cases h0 : k < 0
  · go_enter Tryd.func25, Tryd.ntmps25
    go_wp2_with (first
      | (go_at_call 52; refine HO.out.mono ?_; rintro e w1 ⟨B, rfl, hBl, hg1, hb1⟩; have HB1 := Lib.hid hb1; clear hBl hg1 hb1))
    refine bodyPost_ret (v := .tuple #[.int .i64 0, .int .i64 1]) (by simp [results, Tryd.f25, go_sem]) rfl ?_
    exact ⟨rfl, HB1.out⟩
  · have h1 : 16 < k := by omega
    go_enter Tryd.func25, Tryd.ntmps25
    go_wp2_with (first
      | (go_at_call 52; refine HO.out.mono ?_; rintro e w1 ⟨B, rfl, hBl, hg1, hb1⟩; have HB1 := Lib.hid hb1; clear hBl hg1 hb1))
    refine bodyPost_ret (v := .tuple #[.int .i64 0, .int .i64 1]) (by simp [results, Tryd.f25, go_sem]) rfl ?_
    exact ⟨rfl, HB1.out⟩
end Go.Proofs.YtpknnjcbcndbbaaDoor
namespace Go.Proofs.YtpknnjcbcndbbaaDoor
open Go.RowKit Go.Shelf

theorem Sets.below {n : Nat} {w W : World} {a : Option Addr} {zs : List Nat} (h : Sets w a zs) (hB : Below n w W) (hn : w.heap.size ≤ n) : Sets W a zs := by
  obtain ⟨b, off, e, hb, hc⟩ := h
  exact ⟨b, off, e, Nat.lt_of_lt_of_le hb hB.size, fun j hj => (hB.cell (p := ⟨b, off + j, none⟩) (Nat.lt_of_lt_of_le hb hn)).trans (hc j hj)⟩
set_option maxRecDepth 100000 in
set_option maxHeartbeats 4000000 in
theorem law4 (n : Int) (a : Option Addr) (cap : Nat) (ps : List (Int × Int)) (k : Int) (w : World) (h : PairsIn w a cap ps) (hT : Tab w) :
    Calls Tryd.prog 4 #[.int .i64 n, .slice a ps.length cap, .int .i64 k] w fun e w' => e = .returned (.bool true) ∧ Below w.heap.size w w' := by
  have HTM := Lib.hid (tame_any n a cap ps 16 w h (by decide) (by decide))
  have HT := Lib.hid hT
  clear h hT
  go_enter Tryd.func4, Tryd.ntmps4
  go_upto_region 2 with (go_at_call 14; refine (HTM.out).mono ?_; rintro e w1 ⟨m, qs, a1, c1, rfl, hm, hG1, hB1⟩; have HG1 := Lib.hid hG1; have HB1 := Lib.hid hB1; clear hG1 hB1)
  have hm1 := HG1.out.n1
  go_upto_region 3 with (go_at_call 21; refine (of_any m a1 c1 qs w1 HG1.out).mono ?_; rintro e w2 ⟨b2, rfl, hb2, hS2, hB2⟩; have HS2 := Lib.hid hS2; have HG2 := Lib.hid (HG1.out.below hB2); have HB2 := Lib.hid (HB1.out.trans (hB2.mono HB1.out.size)); clear hS2 hB2)
  have HSM := Lib.hid (ofE_sm HG1.out.n2 HG1.out.ok)
  have HLN := Lib.hid (ofE_length m qs)
  have HOR := Lib.hid (Order_ok m a1 c1 qs w2 HG2.out)
  have HRO : Hid (∀ W, Below w2.heap.size w2 W → Calls Tryd.prog 23 #[.slice (some ⟨b2, 0, none⟩) m m] W fun e w' => ∃ v, e = .returned (.tuple #[v, .int .i64 (loo (ofE m qs) m m : Nat)]) ∧ QRow w' W.heap.size 3 1 v m (iv (ordL (ofE m qs) m)) ∧ Below W.heap.size W w') := fun W hW => rorder_any m _ m _ W HLN.out hm HSM.out (HS2.out.below hW (Nat.le_refl _))
  have HCO : Hid (∀ (k : Nat) W, k ≤ 16 → Below w2.heap.size w2 W → Calls Tryd.prog 25 #[.int .i64 (m : Int), .slice a1 qs.length c1, .int .i64 (k : Int)] W fun e w' => (∃ s, e = .returned (.tuple #[.int .i64 (s : Nat), .int .i64 0]) ∧ CoreIs (ofE m qs) m k s) ∧ Below W.heap.size W w') := fun k W hk hW => Core_ok m k a1 c1 qs W (HG2.out.below hW) hk
  have HCA : Hid (∀ (k : Int) W, (k < 0 ∨ 16 < k) → Below w2.heap.size w2 W → Calls Tryd.prog 25 #[.int .i64 (m : Int), .slice a1 qs.length c1, .int .i64 k] W fun e w' => e = .returned (.tuple #[.int .i64 0, .int .i64 1]) ∧ Below W.heap.size W w') := fun k W hk hW => Core_arg m a1 c1 k qs W (HG2.out.below hW) hk
  have HRC : Hid (∀ (k : Nat) W, k ≤ 16 → Below w2.heap.size w2 W → Calls Tryd.prog 26 #[.slice (some ⟨b2, 0, none⟩) m m, .int .i64 (k : Int)] W fun e w' => (∃ s : Nat, e = .returned (.int .i64 (s : Int)) ∧ CoreIs (ofE m qs) m k s) ∧ w' = W) := fun k W hk hW => rcore_any m k _ m _ W HLN.out hm hk HSM.out (HS2.out.below hW (Nat.le_refl _))
  obtain ⟨g, hg⟩ : ∃ g, Hid (g = ofE m qs) := ⟨_, rfl⟩
  rw [← hg.out] at HOR HRO HCO HRC
  clear HSM
  generalize loo g m m = lo at *
  generalize hoe : ordL g m = ol at *
  clear hoe
  go_upto_region 4 with (go_at_call 22; refine (HOR.out).mono ?_; rintro e w3 ⟨v3, rfl, hq3, hB3⟩; obtain ⟨p3, c3, rfl⟩ := hq3.isSlice; have HQ3 := Lib.hid hq3; have HB3 := Lib.hid hB3; clear hq3 hB3)
  have HB13 := Lib.hid (HB2.out.trans (HB3.out.mono HB2.out.size))
  go_upto_region 5 with (go_at_call 23; refine (HRO.out w3 HB3.out).mono ?_; rintro e w4 ⟨v4, rfl, hq4, hB4⟩; obtain ⟨p4, c4, rfl⟩ := hq4.isSlice; have HQ4 := Lib.hid hq4; have HB4 := Lib.hid hB4; clear hq4 hB4)
  have HB14 := Lib.hid (HB13.out.trans (HB4.out.mono HB13.out.size))
  have HB24 := Lib.hid (HB3.out.trans (HB4.out.mono HB3.out.size))
  have HI := Lib.hid (ints_same p3 p4 m c3 c4 (nth ol) w4 (by omega) (HQ3.out.below HB4.out (fun k hk => (HQ3.out.lt k hk).2)).isrc HQ4.out.isrc)
  have hlo : (((lo : Nat) : Int) != (lo : Int)) = false := by simp
  go_upto_if 50 with (go_at_call 24; refine (HI.out).mono ?_; rintro e w5 ⟨rfl, hB5⟩; have HB5 := Lib.hid hB5; clear hB5)
  have HB25 := Lib.hid (HB24.out.trans (HB5.out.mono HB24.out.size))
  have HB15 := Lib.hid (HB14.out.trans (HB5.out.mono HB14.out.size))
  clear hlo
  go_upto_region 8 with (fail)
  go_loopw [2, 14] (fun s2 s14 wr => ∃ (i : Nat) (kk : Int), i ≤ 2 ∧ s14 = .int .i64 (i : Int) ∧ s2 = .int .i64 kk ∧ Hid (Below w5.heap.size w5 wr)) (fun _ s14 _ => 3 - (intOf s14).toNat)
  case atStart => exact ⟨0, k, by omega, rfl, rfl, Below.refl _ _⟩
  case round =>
    obtain ⟨i, kk, hi, rfl, rfl, hB⟩ := hrel
    have hB2r := HB25.out.trans (hB.out.mono HB25.out.size)
    have hB1r := HB15.out.trans (hB.out.mono HB15.out.size)
    by_cases hi2 : i < 2
    · by_cases hk : kk < 0 ∨ 16 < kk
      · have HC := Lib.hid (HCA.out kk wr hk hB2r)
        by_cases h0 : kk < 0
        · clear hk
          go_wp2_with (go_at_call 25; refine (HC.out).mono ?_; rintro e w6 ⟨rfl, hB6⟩; have HB6 := Lib.hid (hB.out.trans (hB6.mono hB.out.size)); clear hB6)
          exact ⟨⟨i + 1, _, by omega, int_eq (by omega), rfl, HB6⟩, by simp [intOf]; omega⟩
        · have h1 : 16 < kk := by omega
          clear hk
          go_wp2_with (go_at_call 25; refine (HC.out).mono ?_; rintro e w6 ⟨rfl, hB6⟩; have HB6 := Lib.hid (hB.out.trans (hB6.mono hB.out.size)); clear hB6)
          exact ⟨⟨i + 1, _, by omega, int_eq (by omega), rfl, HB6⟩, by simp [intOf]; omega⟩
      · obtain ⟨kn, rfl⟩ : ∃ kn : Nat, kk = (kn : Int) := ⟨kk.toNat, by omega⟩
        have hkn : kn ≤ 16 := by omega
        have h0 : decide ((kn : Int) < 0) = false := decide_eq_false (by omega)
        have h1 : decide (16 < (kn : Int)) = false := decide_eq_false (by omega)
        have HC := Lib.hid (HCO.out kn wr hkn hB2r)
        clear hk
        have HR : Hid (∀ W, Below wr.heap.size wr W → Calls Tryd.prog 26 #[.slice (some ⟨b2, 0, none⟩) m m, .int .i64 (kn : Int)] W fun e w' => (∃ s : Nat, e = .returned (.int .i64 (s : Int)) ∧ CoreIs g m kn s) ∧ w' = W) := fun W hW => HRC.out kn W hkn (hB2r.trans (hW.mono hB2r.size))
        have HU := Lib.hid (und_ofE HG1.out.ok)
        rw [← hg.out] at HU
        have HBR := Lib.hid hB2r
        clear hB2r
        go_upto_region 14 with (go_at_call 25; refine (HC.out).mono ?_; rintro e w6 ⟨⟨s6, rfl, hs6⟩, hB6⟩; have HB6 := Lib.hid (hB.out.trans (hB6.mono hB.out.size)); have HS6 := Lib.hid hs6; have HL6 := Lib.hid hB6; clear hB6 hs6)
        have HR6 := Lib.hid (HR.out w6 HL6.out)
        have hse : (((s6 : Nat) : Int) != (s6 : Int)) = false := by simp
        go_wp2_with (go_at_call 26; refine (HR6.out).mono ?_; rintro e w7 ⟨⟨s7, rfl, hs7⟩, hw7⟩; obtain rfl : s6 = s7 := CoreIs.unique HS6.out hs7; clear hs7; subst hw7; try dsimp only)
        exact ⟨⟨i + 1, _, by omega, int_eq (by omega), rfl, HB6⟩, by simp [intOf]; omega⟩
    · have hi3 : ¬ (i : Int) < 2 := by omega
      have HAW := Lib.hid (awake_any wr (HT.out.below hB1r (Nat.le_refl _)))
      have HB1R := Lib.hid hB1r
      go_wp2_with (go_at_call 16; refine (HAW.out).mono ?_; rintro e w6 ⟨rfl, hB6⟩; have HB6 := Lib.hid (HB1R.out.trans (hB6.mono HB1R.out.size)); clear hB6)
      go_ret
      exact ⟨rfl, HB6.out⟩
end Go.Proofs.YtpknnjcbcndbbaaDoor
