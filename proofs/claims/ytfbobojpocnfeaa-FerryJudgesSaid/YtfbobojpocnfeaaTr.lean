/- The reference's Trips: a walk. -/
import Derived.Test.YtfbobojpocnfeaaRb
import Derived.Test.YtfbobojpocnfeaaRp
namespace Go.Proofs.Ytfbobojpocnfeaa
open Go.RowKit Go.Shelf

theorem make_ints25 (n : Nat) (hn : n ≤ 4096) : ∃ vs : Array Value, vs.size = n ∧ (∀ j, j < n → vs[j]? = some (.int .i64 0)) ∧
    ∀ W, Sem.run Try.prog (Instr.makeSlice 25 (.int .i64 (n : Int)) (.int .i64 (n : Int))) W = .ok (.slice (some ⟨W.heap.size, 0, none⟩) n n) (W.alloc (.cells vs 3)) := by
  obtain ⟨i0, hi, hz0, hz1, hz2⟩ := info_parts info3
  refine ⟨madeCells #[.int .i64 0] n, size_madeCells _ _, fun j hj => ?_, fun W => ?_⟩
  · rw [← Array.getElem?_toList, toList_madeCells_one, List.getElem?_replicate, if_pos hj]
  · have := run_make (P := Try.prog) W 25 3 i0 _ Try.underlying25 hi hz0 .i64 .i64 (n : Int) (n : Int) (by omega) (Int.le_refl _) (by rw [hz2]; omega) (by omega)
    rw [hz1, show (Value.int .i64 0).cells = #[.int .i64 0] from rfl] at this
    simpa using this
/-- what the array says of the states that have been met -/
structure FarOk (f : Nat) (vs : Array Value) (L : List St) (D : List Nat) : Prop where
  size : vs.size = 2 * (f + 1)
  met : ∀ (j : Nat) (s : St), L[j]? = some s → vs[code f s]? = some (.int .i64 ((D[j]?.getD 0 + 1 : Nat) : Int))
  new : ∀ c, c < 2 * (f + 1) → (∀ s ∈ L, code f s ≠ c) → vs[c]? = some (.int .i64 0)
theorem FarOk.at {f : Nat} {vs : Array Value} {L : List St} {D : List Nat} (h : FarOk f vs L D) (hb : ∀ s ∈ L, s.1 ≤ f) {t : St} (ht : t.1 ≤ f) : ∃ d : Nat, vs[code f t]? = some (.int .i64 (d : Int)) ∧ (d = 0 ↔ t ∉ L) ∧ d ≤ D.foldl max 0 + 1 := by
  by_cases hm : t ∈ L
  · obtain ⟨j, hj⟩ := List.getElem?_of_mem hm
    refine ⟨_, h.met j t hj, by simp [hm], ?_⟩
    have : ∀ (l : List Nat) (b : Nat), b ≤ l.foldl max b ∧ ∀ x ∈ l, x ≤ l.foldl max b := by
      intro l
      induction l with
      | nil => intro b; exact ⟨Nat.le_refl _, fun x hx => by cases hx⟩
      | cons y l ih =>
        intro b
        obtain ⟨h1, h2⟩ := ih (max b y)
        refine ⟨Nat.le_trans (Nat.le_max_left _ _) h1, fun x hx => ?_⟩
        rcases List.mem_cons.1 hx with rfl | hx
        · exact Nat.le_trans (Nat.le_max_right _ _) h1
        · exact h2 x hx
    cases hd : D[j]? with
    | none => simp
    | some d =>
      have := (this D 0).2 d (List.mem_of_getElem? hd)
      simp; exact this
  · exact ⟨0, h.new _ (code_lt ht) (fun s hs e => hm (by rw [← code_inj (hb s hs) ht e]; exact hs)), by simp [hm], by omega⟩
theorem FarOk.set {f : Nat} {vs : Array Value} {L : List St} {D : List Nat} (h : FarOk f vs L D) (hlen : D.length = L.length) (hb : ∀ s ∈ L, s.1 ≤ f) {t : St} (ht : t.1 ≤ f) (hm : t ∉ L) (d : Nat) :
    FarOk f (vs.setIfInBounds (code f t) (.int .i64 ((d + 1 : Nat) : Int))) (L ++ [t]) (D ++ [d]) := by
  have hlt : code f t < vs.size := by rw [h.size]; exact code_lt ht
  refine ⟨by simp [h.size], fun j s hj => ?_, fun c hc hn => ?_⟩
  · rcases get_app hj with ⟨h1, h2⟩ | ⟨rfl, rfl⟩
    · have hne : code f t ≠ code f s := fun e => hm (by rw [code_inj ht (hb s (List.mem_of_getElem? h2)) e]; exact List.mem_of_getElem? h2)
      rw [Array.getElem?_setIfInBounds_ne hne, List.getElem?_append_left (by omega)]
      exact h.met j s h2
    · rw [Array.getElem?_setIfInBounds_self_of_lt hlt, ← hlen]; simp
  · have hne : code f t ≠ c := hn t (by simp)
    rw [Array.getElem?_setIfInBounds_ne hne]
    exact h.new c hc (fun s hs => hn s (List.mem_append_left _ hs))
theorem within_bank_t {g : List Nat} {l p : Nat} (hp : p ≤ full g.length) : Within p (ldiff (full g.length) l) ↔ p &&& l = 0 := by
  constructor
  · intro h
    refine and_zero_iff.2 fun j hj => ?_
    cases e : p.testBit j with
    | false => rfl
    | true =>
      have := within_iff.1 h j e
      rw [testBit_ldiff, hj] at this
      simp at this
  · intro h
    refine within_iff.2 fun j hj => ?_
    rw [testBit_ldiff, within_iff.1 (within_full.2 hp) j hj]
    cases e : l.testBit j with
    | false => rfl
    | true => have := and_zero_iff.1 h j e; rw [hj] at this; cases this
theorem legal_left {g : List Nat} {seats l p : Nat} : Legal g seats (l, false) p ↔ Within p l ∧ size p ≤ seats ∧ quietB g (ldiff l p) = true ∧ quietB g (ldiff (ldiff (full g.length) l) p) = true := by
  unfold Legal
  simp only [bank, Bool.false_eq_true, if_false]
  constructor
  · rintro ⟨h1, h2, h3, h4⟩
    refine ⟨h1, h2, h3, ?_⟩
    rw [ldiff_disj fun i hi => by rw [testBit_ldiff, within_iff.1 h1 i hi]; simp]
    exact h4
  · rintro ⟨h1, h2, h3, h4⟩
    refine ⟨h1, h2, h3, ?_⟩
    rw [ldiff_disj fun i hi => by rw [testBit_ldiff, within_iff.1 h1 i hi]; simp] at h4
    exact h4
theorem legal_right {g : List Nat} {seats l p : Nat} (hl : Within l (full g.length)) (hp : p ≤ full g.length) : Legal g seats (l, true) p ↔ p &&& l = 0 ∧ size p ≤ seats ∧ quietB g (ldiff l p) = true ∧ quietB g (ldiff (ldiff (full g.length) l) p) = true := by
  unfold Legal
  simp only [bank, if_true]
  rw [within_bank_t hp, ldiff_full hl]
  constructor
  · rintro ⟨h1, h2, h3, h4⟩
    exact ⟨h1, h2, by rw [left_odd ((within_bank_t hp).2 h1)]; exact h4, h3⟩
  · rintro ⟨h1, h2, h3, h4⟩
    rw [left_odd ((within_bank_t hp).2 h1)] at h3
    exact ⟨h1, h2, h4, h3⟩
theorem tr_rules (f a : Nat) (b : Bool) (ha : a ≤ f) (hf : f < 1024) : ∃ F1 c : Nat, c = code f (a, b) ∧ c < 2 * (f + 1) ∧ F1 ≠ 0 ∧ (0 : Int) < (F1 : Int) ∧ IntKind.i64.wrap ((f : Int) + 1) = (F1 : Int) ∧ wrap64 ((f : Int) + 1) = (F1 : Int) ∧ ((c : Nat) : Int).tmod (F1 : Int) = (a : Int) ∧ decide ((f : Int) < (c : Int)) = b ∧
    decide (f < c) = b ∧ F1 = f + 1 := by
  refine ⟨f + 1, code f (a, b), rfl, code_lt ha, by omega, by omega, ?_, ?_, ?_, ?_, ?_, rfl⟩
  · rw [IntWalk.i64_in _ (by omega)]; omega
  · rw [IntWalk.wrap64_in _ (by omega)]; omega
  · rw [Int.tmod_eq_emod_of_nonneg (by omega)]
    unfold code
    cases b
    · simp only [Bool.false_eq_true, if_false, Nat.add_zero]
      exact Int.emod_eq_of_lt (by omega) (by omega)
    · simp only [if_true]
      rw [show ((a + (f + 1) : Nat) : Int) = (a : Int) + ((f + 1 : Nat) : Int) by omega, Int.add_emod_right]
      exact Int.emod_eq_of_lt (by omega) (by omega)
  · unfold code
    cases b
    · simp; omega
    · simp; omega
  · unfold code
    cases b
    · simp; omega
    · simp; omega
/-- the walk's relation at the head of the outer loop -/
def TrO (w W : World) (g : List Nat) (seats f M : Nat) (v : Value) (i : Nat) : Prop :=
  ∃ (L : List St) (D : List Nat) (vs : Array Value), RInv g seats L D i ∧ BoxN W M 3 vs ∧ FarOk f vs L D ∧ QRow W w.heap.size 3 1 v L.length (L.map fun s => .int .i64 (code f s : Nat)) ∧ v.ownBlock ≠ some M ∧ Below w.heap.size w W
/-- the relation at the head of the inner loop -/
def TrI (w W : World) (g : List Nat) (seats f M : Nat) (v : Value) (i x : Nat) (s : St) : Prop :=
  ∃ (L : List St) (D : List Nat) (vs : Array Value), RMid g seats L D i x s ∧ BoxN W M 3 vs ∧ FarOk f vs L D ∧ QRow W w.heap.size 3 1 v L.length (L.map fun s => .int .i64 (code f s : Nat)) ∧ v.ownBlock ≠ some M ∧ Below w.heap.size w W
theorem cells_newS (W : World) (a : Addr) (v : Value) (t : TypeId) (u : Value) : ∀ (j : Nat) (x : Value), [u][j]? = some x → ((W.setCell a v).alloc (.cells #[u] t)).cell? ((⟨W.heap.size, 0, none⟩ : Addr).add j) = some x := fun j x h => by
  have := cells_new1 (W.setCell a v) t u j x h
  rwa [World.size_setCell] at this
set_option maxRecDepth 100000 in
set_option maxHeartbeats 2000000 in
theorem trips_any (a : Option Addr) (cap : Nat) (g : List Nat) (seats : Nat) (w : World) (hl : g.length ≤ 10) (hsm : ∀ i : Nat, Sm (g[i]?.getD 0)) (hg : Sets w a g) :
    Calls Try.prog 15 #[.slice a g.length cap, .int .i64 (seats : Int)] w fun e w' => ∃ r : Int, e = .returned (.int .i64 r) ∧ TripsR g seats r ∧ Below w.heap.size w w' := by
  have hfs : Sm (full g.length) := sm_full (by omega)
  have hf1 : full g.length < 1024 := Nat.lt_of_lt_of_le (full_lt_pw _) (show 2 ^ g.length ≤ 2 ^ 10 from Nat.pow_le_pow_right (by decide) hl)
  have KA : Hid (∀ W, Calls Try.prog 23 #[.slice a g.length cap] W fun e w' => e = .returned (.int .i64 (full g.length)) ∧ w' = W) := fun W => all_any a g.length cap W (by omega)
  have KQ : Hid (∀ s W, Sm s → Below w.heap.size w W → Calls Try.prog 27 #[.slice a g.length cap, .int .i64 (s : Int)] W fun e w' => e = .returned (.bool (quietB g s)) ∧ w' = W) := fun s W hs hB => quiet_any a cap g s W (by omega) hs hsm (hg.below hB)
  have KC : Hid (∀ (s : Nat) W, Sm s → Calls Try.prog 25 #[.int .i64 (s : Int)] W fun e w' => e = .returned (.int .i64 (size s)) ∧ w' = W) := fun s W hs => size_any s W hs
  obtain ⟨f, hf⟩ : ∃ f, Hid (f = full g.length) := ⟨_, rfl⟩
  rw [← hf.out] at hfs KA hf1
  obtain ⟨n, hn⟩ : ∃ n, Hid (n = g.length) := ⟨_, rfl⟩
  rw [← hn.out] at KQ KA ⊢
  obtain ⟨N2, hN2⟩ : ∃ N2, Hid (N2 = 2 * (f + 1)) := ⟨_, rfl⟩
  obtain ⟨v0, hv0, hv1, hmk⟩ := make_ints25 N2 (by rw [hN2.out]; omega)
  have HV0 := Lib.hid hv0
  have HV1 := Lib.hid hv1
  have hN3 : f < N2 := by rw [hN2.out]; omega
  have hN4 : N2 ≤ 2048 := by rw [hN2.out]; omega
  clear hv0 hv1 hg hsm
  obtain ⟨i0, hi, hz0, hz1, hz2⟩ := info_parts info3
  have hl0 : v0[f]? = some (.int .i64 0) := HV1.out f hN3
  go_enter Try.func15, Try.ntmps15
  go_upto_region 2 with (go_at_call 23; refine (KA.out _).mono ?_; rintro e w1 ⟨rfl, hw⟩; subst hw; try dsimp only)
  have emk : (2 : Int) * ((f : Int) + 1) = (N2 : Int) := by rw [hN2.out]; omega
  go_upto_region 3 with (fail)
  clear emk hmk
  have hbx0 : BoxN (w1.alloc (.cells v0 3)) w1.heap.size 3 v0 := BoxN.new rfl
  have hc0 := hbx0.cell f
  rw [hl0] at hc0
  have hc1 := hbx0.frozen f
  have hfN : ((f : Nat) : Int) < (N2 : Int) := by omega
  have hf0 : (0 : Int) ≤ ((f : Nat) : Int) := by omega
  clear hl0
  go_wp2
  have hbM : BoxN ((w1.alloc (.cells (v0.setIfInBounds f (.int .i64 1)) 3)).alloc (.cells #[.int .i64 (f : Int)] 3)) w1.heap.size 3 (v0.setIfInBounds f (.int .i64 1)) := (BoxN.new rfl).alloc _
  have hq0 : QRow ((w1.alloc (.cells (v0.setIfInBounds f (.int .i64 1)) 3)).alloc (.cells #[.int .i64 (f : Int)] 3)) w1.heap.size 3 1 (.slice (some ⟨w1.heap.size + 1, 0, none⟩) 1 1) ([start g] : List St).length (([start g] : List St).map fun s => .int .i64 (code f s : Nat)) := by
    refine ⟨rfl, .inr ⟨w1.heap.size + 1, 0, 1, #[.int .i64 (f : Int)], rfl, by omega, BoxN.new (by simp), Nat.le_refl _, by decide, by simp, fun j hj => ?_⟩⟩
    have : j = 0 := by simp at hj; omega
    subst this
    simp [code, start, hf.out]
  have hBw : Below w1.heap.size w1 ((w1.alloc (.cells (v0.setIfInBounds f (.int .i64 1)) 3)).alloc (.cells #[.int .i64 (f : Int)] 3)) := (((Below.refl _ w1).alloc (Nat.le_refl _) _).alloc (by simp) _)
  have hfar : FarOk f (v0.setIfInBounds f (.int .i64 1)) [start g] [0] := by
    have h0 : FarOk f v0 [] [] := ⟨by rw [HV0.out, hN2.out], fun j s h => by simp at h, fun c hc _ => HV1.out c (by rw [hN2.out]; exact hc)⟩
    have := h0.set rfl (fun s hs => by cases hs) (t := start g) (by unfold start; rw [hf.out]; exact Nat.le_refl _) (by simp) 0
    have e : code f (start g) = f := by simp [code, start, hf.out]
    rw [e] at this
    exact this
  clear hbx0 hc0 hc1
  generalize ((w1.alloc (.cells (v0.setIfInBounds f (.int .i64 1)) 3)).alloc (.cells #[.int .i64 (f : Int)] 3)) = U at *
  have HO : Hid (TrO w1 U g seats f w1.heap.size (.slice (some ⟨w1.heap.size + 1, 0, none⟩) 1 1) 0) := ⟨_, _, _, RInv.start g seats, hbM, hfar, hq0, by simp [Value.ownBlock], hBw⟩
  clear hbM hq0 hfar hBw
  go_loopw [7, 8, 9, 10, 11, 12] (fun s7 s8 _ _ _ _ wr => ∃ i : Nat, i ≤ N2 ∧ s8 = .int .i64 i ∧ TrO w1 wr g seats f w1.heap.size s7 i) (fun _ s8 _ _ _ _ _ => 4096 - (intOf s8).toNat)
  case atStart => exact ⟨0, Nat.zero_le _, rfl, HO.out⟩
  case round =>
    clear HO
    obtain ⟨i, hiN, rfl, L, D, vs, hinv, hbM, hfar, hq, hne, hB⟩ := hrel
    have hLb := hinv.bound
    rw [← hf.out] at hLb
    have HINV := Lib.hid hinv
    have HFAR := Lib.hid hfar
    have HQ := Lib.hid hq
    have HNE := Lib.hid hne
    have HBM := Lib.hid hbM
    have hsz := hB.size
    generalize hLL : L.length = len at *
    have HLL := Lib.hid hLL
    by_cases hil : i < len
    · obtain ⟨lb, lo, lcap, rfl, q1, q2, q3, q4, q5, q6⟩ := hq.at (by omega)
      obtain ⟨⟨sa, sb⟩, hLi⟩ : ∃ s : St, L[i]? = some s := ⟨_, List.getElem?_eq_getElem (by rw [hLL]; exact hil)⟩
      have hsaF : sa ≤ f := by rw [hf.out]; exact (HINV.out.inb _ (List.mem_of_getElem? hLi)).le
      have hci := q5 i (by omega)
      rw [List.getElem?_map, hLi] at hci
      have hii : ((i : Nat) : Int) < (len : Int) := by omega
      have hi0 : (0 : Int) ≤ ((i : Nat) : Int) := by omega
      obtain ⟨F1, c, hc1, hc2, hF1, hF2, eS, eS', em, ed, ed', -⟩ := tr_rules f sa sb hsaF hf1
      have hci' : wr.cell? ⟨lb, lo + i, none⟩ = some (.int .i64 ((c : Nat) : Int)) := by rw [hci, hc1]; rfl
      have HC1 := Lib.hid hc1
      have HLI := Lib.hid hLi
      clear hci hc1 hLi hinv hfar hq hne hbM hLL q5 q6 q1 q2 q3 q4
      go_wp2
      go_quiet (fail)
      clear eS eS' em ed ed'
      obtain ⟨d, hd⟩ : ∃ d, Hid (d = D[i]?.getD 0) := ⟨_, rfl⟩
      have hfc : wr.cell? ⟨w1.heap.size, c, none⟩ = some (.int .i64 ((d + 1 : Nat) : Int)) := by
        rw [HBM.out.cell, HC1.out, HFAR.out.met i _ HLI.out, hd.out]
      have hdl : d ≤ i := by rw [hd.out]; exact HINV.out.dle i (by rw [HLL.out]; exact hil)
      have hcN : ((c : Nat) : Int) < (N2 : Int) := by rw [hN2.out]; omega
      have hc0 : (0 : Int) ≤ ((c : Nat) : Int) := by omega
      by_cases hgo : sa = 0 ∧ sb = true
      · obtain ⟨ha0, hb0⟩ := hgo
        subst ha0
        subst hb0
        go_wp2
        go_ret
        refine ⟨(d : Int), rfl, ?_, below_dr hB nq⟩
        rw [hd.out]
        exact HINV.out.found HLI.out
      · have hng : ((sa, sb) : St) ≠ goal := fun e => hgo ⟨congrArg Prod.fst e, congrArg Prod.snd e⟩
        have hTI : Hid (TrI w1 (wr.drewN nq) g seats f w1.heap.size (.slice (some ⟨lb, lo, none⟩) len lcap) i 0 (sa, sb)) := ⟨L, D, vs, RMid.start HINV.out HLI.out hng, HBM.out, HFAR.out, by rw [HLL.out]; exact HQ.out.drewN nq, HNE.out, below_dr hB nq⟩
        have hsas : Sm sa := Nat.lt_of_le_of_lt hsaF hfs
        obtain ⟨bz, hbz⟩ : ∃ bz, (((sa : Nat) : Int) == 0) = bz := ⟨_, rfl⟩
        have hbz' : Hid (sb = true → bz = false) := fun hb => by
          rw [← hbz, beq_eq_false_iff_ne]
          intro h
          exact hgo ⟨by omega, hb⟩
        clear hgo hfc hng
        generalize wr.drewN nq = X at *
        cases sb
        · cases bz
          all_goals
            go_wp2
            go_loopw [7, 11, 12] (fun s7 s11 _ wz => ∃ x : Nat, x ≤ f + 1 ∧ s11 = .int .i64 x ∧ TrI w1 wz g seats f w1.heap.size s7 i x (sa, false)) (fun _ s11 _ _ => f + 1 - (intOf s11).toNat)
            case atStart => exact ⟨0, by omega, rfl, hTI.out⟩
            case round =>
              clear hTI HINV HFAR HQ HNE HBM HLI hd hB hsz
              obtain ⟨x, hxf1, rfl, L', D', vs', hm, hbM, hfar, hq, hne, hB⟩ := hrel
              have HM := Lib.hid hm
              have HFAR := Lib.hid hfar
              have HQ := Lib.hid hq
              have HNE := Lib.hid hne
              have HBM := Lib.hid hbM
              have HB := Lib.hid hB
              clear hm hfar hne hB
              by_cases hxf : x ≤ f
              · have hxs : Sm x := Nat.lt_of_le_of_lt hxf hfs
                have hxfi : ((x : Nat) : Int) ≤ (f : Int) := by omega
                obtain ⟨zx, hzx⟩ : ∃ z, Hid (z = size x) := ⟨_, rfl⟩
                have KCx := Lib.hid (KC.out x · hxs)
                rw [← hzx.out] at KCx
                by_cases hc1 : seats < zx
                · have hc1i : ((seats : Nat) : Int) < (zx : Int) := by omega
                  go_wp2_with (go_at_call 25; refine (KCx.out _).mono ?_; rintro e w3 ⟨rfl, hw⟩; subst hw; try dsimp only)
                  exact ⟨⟨x + 1, by omega, by go_num, L', D', vs', HM.out.skip (fun hL => by have := hL.2.1; rw [Int.toNat_natCast, ← hzx.out] at this; omega), HBM.out, HFAR.out, HQ.out, HNE.out, HB.out⟩, by simp [intOf]; omega⟩
                · have hc1i : ¬ ((seats : Nat) : Int) < (zx : Int) := by omega
                  by_cases hw : Within x sa
                  · have hz : (((ldiff x sa : Nat) : Int) != 0) = false := by rw [ldiff_zero.2 hw]; rfl
                    have HW := Lib.hid hw
                    clear hw
                    obtain ⟨q1, hq1⟩ : ∃ q, Hid (q = quietB g (ldiff sa x)) := ⟨_, rfl⟩
                    obtain ⟨q2, hq2⟩ : ∃ q, Hid (q = quietB g (ldiff (ldiff f sa) x)) := ⟨_, rfl⟩
                    have d1 : Sm (ldiff sa x) := sm_ldiff _ hsas
                    have d2 : Sm (ldiff f sa) := sm_ldiff _ hfs
                    have KQ1 := Lib.hid (KQ.out (ldiff sa x) _ d1 HB.out)
                    have KQ2 := Lib.hid (KQ.out (ldiff (ldiff f sa) x) _ (sm_ldiff _ d2) HB.out)
                    rw [← hq1.out] at KQ1
                    rw [← hq2.out] at KQ2
                    cases q1
                    · go_wp2_with (first
                        | (go_at_call 25; refine (KCx.out _).mono ?_; rintro e w3 ⟨rfl, hw⟩; subst hw; try dsimp only)
                        | (go_at_call 27; with_reducible refine (KQ1.out).mono ?_; rintro e w3 ⟨rfl, hw⟩; subst hw; try dsimp only))
                      exact ⟨⟨x + 1, by omega, by go_num, L', D', vs', HM.out.skip (fun hL => by have := (legal_left.1 hL).2.2.1; rw [← hq1.out] at this; cases this), HBM.out, HFAR.out, HQ.out, HNE.out, HB.out⟩, by simp [intOf]; omega⟩
                    · cases q2
                      · go_wp2_with (first
                          | (go_at_call 25; refine (KCx.out _).mono ?_; rintro e w3 ⟨rfl, hw⟩; subst hw; try dsimp only)
                          | (go_at_call 27; with_reducible refine (KQ1.out).mono ?_; rintro e w3 ⟨rfl, hw⟩; subst hw; try dsimp only)
                          | (go_at_call 27; with_reducible refine (KQ2.out).mono ?_; rintro e w3 ⟨rfl, hw⟩; subst hw; try dsimp only))
                        exact ⟨⟨x + 1, by omega, by go_num, L', D', vs', HM.out.skip (fun hL => by have := (legal_left.1 hL).2.2.2; rw [← hf.out, ← hq2.out] at this; cases this), HBM.out, HFAR.out, HQ.out, HNE.out, HB.out⟩, by simp [intOf]; omega⟩
                      · have hLg : Legal g ((seats : Int)).toNat (sa, false) x := legal_left.2 ⟨HW.out, by rw [Int.toNat_natCast, ← hzx.out]; omega, hq1.out.symm, by rw [← hf.out]; exact hq2.out.symm⟩
                        have hnx : next (sa, false) x = (ldiff sa x, true) := by unfold next; rw [xor_out HW.out]; rfl
                        have HLG := Lib.hid hLg
                        have HNX := Lib.hid hnx
                        have htf : ldiff sa x ≤ f := Nat.le_trans (ldiff_le _ _) hsaF
                        have hbnd : ∀ s ∈ L', s.1 ≤ f := fun s hs => by rw [hf.out]; exact (HM.out.inv.inb s hs).le
                        obtain ⟨dd, hdd1, hdd2, _⟩ := HFAR.out.at hbnd (t := (ldiff sa x, true)) htf
                        have HBND := Lib.hid hbnd
                        have HDD2 := Lib.hid hdd2
                        have HDD1 := Lib.hid hdd1
                        clear hLg hnx hbnd hdd2 hdd1
                        obtain ⟨c2, hc2⟩ : ∃ c2 : Nat, Hid (c2 = code f (ldiff sa x, true)) := ⟨_, rfl⟩
                        have hc2N : c2 < 2 * (f + 1) := by rw [hc2.out]; exact code_lt htf
                        have heq : ((ldiff sa x : Nat) : Int) + (f : Int) + 1 = (c2 : Int) := by rw [hc2.out]; unfold code; simp; omega
                        have hc2i : ((c2 : Nat) : Int) < (N2 : Int) := by rw [hN2.out]; omega
                        have hc20 : (0 : Int) ≤ ((c2 : Nat) : Int) := by omega
                        have hfc2 : wr.cell? ⟨w1.heap.size, c2, none⟩ = some (.int .i64 (dd : Int)) := by rw [HBM.out.cell, hc2.out]; exact HDD1.out
                        have hfz2 := HBM.out.frozen c2
                        by_cases hd0 : dd = 0
                        · obtain ⟨lb', lo', lcap', rfl, q1', q2', q3', q4', q5', q6'⟩ := HQ.out.at (by have := HM.out.lt; omega)
                          have hLi' := HM.out.at'
                          have hci2 : wr.cell? ⟨lb', lo' + i, none⟩ = some (.int .i64 ((c : Nat) : Int)) := by rw [q5' i (by have := HM.out.lt; omega), List.getElem?_map, hLi', HC1.out]; rfl
                          obtain ⟨d2, hd2⟩ : ∃ d2, Hid (d2 = D'[i]?.getD 0) := ⟨_, rfl⟩
                          have hfc' : wr.cell? ⟨w1.heap.size, c, none⟩ = some (.int .i64 ((d2 + 1 : Nat) : Int)) := by rw [HBM.out.cell, HC1.out, HFAR.out.met i _ hLi', hd2.out]
                          have hfz' := HBM.out.frozen c
                          have hd2l : d2 ≤ i := by rw [hd2.out]; exact HM.out.inv.dle i HM.out.lt
                          have hLb' := HM.out.inv.bound
                          rw [← hf.out] at hLb'
                          have hil' : ((i : Nat) : Int) < (L'.length : Int) := by have := HM.out.lt; omega
                          have hnb : w1.heap.size ≠ lb' := by have := HNE.out; simp [Value.ownBlock] at this; omega
                          have HNB := Lib.hid hnb
                          have Hd0 := Lib.hid hd0
                          subst hd0
                          have hszw := HB.out.size
                          have hszL := q2'
                          have HQ1 := Lib.hid (((HQ.out.other (a := ⟨w1.heap.size, c2, none⟩) (fun k hk => by simp [Value.ownBlock] at hk; have := HNB.out; rw [← hk]; exact fun e => this e.symm) (.int .i64 ((d2 : Int) + 1 + 1))).alloc (.cells #[.int .i64 (c2 : Int)] 3)))
                          clear hLi' hnb q5' q6' q3' q4'
                          go_wp2_with (first
                            | (go_at_call 25; refine (KCx.out _).mono ?_; rintro e w3 ⟨rfl, hw⟩; subst hw; try dsimp only)
                            | (go_at_call 27; with_reducible refine (KQ1.out).mono ?_; rintro e w3 ⟨rfl, hw⟩; subst hw; try dsimp only)
                            | (go_at_call 27; with_reducible refine (KQ2.out).mono ?_; rintro e w3 ⟨rfl, hw⟩; subst hw; try dsimp only)
                            | (at_builtin; go_must (refine wpList_append_q _ rfl (.tmp 126) (.tmp 128) 25 rfl w1.heap.size 3 i0 (.int .i64 0) 1 8 Try.underlying25 hi hz0 hz1 hz2 rfl (by decide) _ L'.length (L'.map fun s => .int .i64 (code f s : Nat)) rfl HQ1.out ⟨w3.heap.size, 0, none⟩ 1 1 [.int .i64 (c2 : Int)] rfl rfl (cells_newS _ _ _ _ _) (by simp [Value.oneCell']) (by unfold maxLen; omega) (by omega) (by simp; omega) ?_); intro v4 w4 hq4 hg4 ho4))
                          have hM4 : Below w1.heap.size w1 w4 := Below.grown ((HB.out.setCell (p := ⟨w1.heap.size, c2, none⟩) (Nat.le_refl _) _).alloc (by simp; omega) _) hg4 (by simp; omega) (fun k e => by have e' : some lb' = some k := e; cases e'; exact q1')
                          have hbx4 : BoxN w4 w1.heap.size 3 (vs'.setIfInBounds c2 (.int .i64 ((d2 : Int) + 1 + 1))) := ((HBM.out.set c2 _).alloc _).kept hg4 (by show some w1.heap.size ≠ some lb'; intro e; cases e; exact HNB.out rfl)
                          refine ⟨⟨x + 1, by omega, by go_num, L' ++ [(ldiff sa x, true)], D' ++ [d2 + 1], _, ?_, hbx4, ?_, ?_, ?_, hM4⟩, by simp [intOf]; omega⟩
                          · have hr := HM.out.new HLG.out (by rw [HNX.out]; exact HDD2.out.1 rfl)
                            rw [HNX.out, ← hd2.out] at hr
                            exact hr
                          · have hr := HFAR.out.set HM.out.inv.len HBND.out htf (HDD2.out.1 rfl) (d2 + 1)
                            rw [← hc2.out] at hr
                            exact hr
                          · have hr := hq4
                            rw [List.length_append, List.map_append]
                            simp only [List.map_cons, List.map_nil, ← hc2.out]
                            exact hr
                          · intro e
                            rcases ho4 _ e with h | h
                            · have h' : some lb' = some w1.heap.size := h
                              cases h'; exact HNB.out rfl
                            · simp at h; omega
                        · have hd1 : (((dd : Nat) : Int) == 0) = false := by rw [beq_eq_false_iff_ne]; omega
                          have HD0 := Lib.hid hd0
                          clear hd0
                          go_wp2_with (first
                              | (go_at_call 25; refine (KCx.out _).mono ?_; rintro e w3 ⟨rfl, hw⟩; subst hw; try dsimp only)
                              | (go_at_call 27; with_reducible refine (KQ1.out).mono ?_; rintro e w3 ⟨rfl, hw⟩; subst hw; try dsimp only)
                              | (go_at_call 27; with_reducible refine (KQ2.out).mono ?_; rintro e w3 ⟨rfl, hw⟩; subst hw; try dsimp only))
                          exact ⟨⟨x + 1, by omega, by go_num, L', D', vs', HM.out.old (by rw [HNX.out]; exact Classical.byContradiction fun h => HD0.out (HDD2.out.2 h)), HBM.out, HFAR.out, HQ.out, HNE.out, HB.out⟩, by simp [intOf]; omega⟩
                  · have hz : (((ldiff x sa : Nat) : Int) != 0) = true := by rw [bne_iff_ne]; intro h; exact hw (ldiff_zero.1 (by omega))
                    have HW := Lib.hid hw
                    clear hw
                    go_wp2_with (go_at_call 25; refine (KCx.out _).mono ?_; rintro e w3 ⟨rfl, hw⟩; subst hw; try dsimp only)
                    exact ⟨⟨x + 1, by omega, by go_num, L', D', vs', HM.out.skip (fun hL => HW.out (legal_left.1 hL).1), HBM.out, HFAR.out, HQ.out, HNE.out, HB.out⟩, by simp [intOf]; omega⟩
              · have hxe : Hid (x = f + 1) := by unfold Hid; omega
                have hiN2 : i + 1 ≤ N2 := by rw [hN2.out]; omega
                go_wp2
                refine ⟨⟨i + 1, hiN2, by go_num, L', D', vs', ?_, HBM.out, HFAR.out, HQ.out, HNE.out, HB.out⟩, by simp [intOf]; omega⟩
                have hmm := HM.out
                rw [hxe.out, hf.out] at hmm
                exact hmm.finish
        · obtain rfl : bz = false := hbz'.out rfl
          have HSA : Hid (Within sa (full g.length)) := by unfold Hid; exact within_full.2 (by rw [← hf.out]; exact hsaF)
          go_wp2
          go_loopw [7, 11, 12] (fun s7 s11 _ wz => ∃ x : Nat, x ≤ f + 1 ∧ s11 = .int .i64 x ∧ TrI w1 wz g seats f w1.heap.size s7 i x (sa, true)) (fun _ s11 _ _ => f + 1 - (intOf s11).toNat)
          case atStart => exact ⟨0, by omega, rfl, hTI.out⟩
          case round =>
            clear hTI HINV HFAR HQ HNE HBM HLI hd hB hsz
            obtain ⟨x, hxf1, rfl, L', D', vs', hm, hbM, hfar, hq, hne, hB⟩ := hrel
            have HM := Lib.hid hm
            have HFAR := Lib.hid hfar
            have HQ := Lib.hid hq
            have HNE := Lib.hid hne
            have HBM := Lib.hid hbM
            have HB := Lib.hid hB
            clear hm hfar hne hB
            by_cases hxf : x ≤ f
            · have hxs : Sm x := Nat.lt_of_le_of_lt hxf hfs
              have hxfi : ((x : Nat) : Int) ≤ (f : Int) := by omega
              obtain ⟨zx, hzx⟩ : ∃ z, Hid (z = size x) := ⟨_, rfl⟩
              have KCx := Lib.hid (KC.out x · hxs)
              rw [← hzx.out] at KCx
              by_cases hc1 : seats < zx
              · have hc1i : ((seats : Nat) : Int) < (zx : Int) := by omega
                go_wp2_with (go_at_call 25; refine (KCx.out _).mono ?_; rintro e w3 ⟨rfl, hw⟩; subst hw; try dsimp only)
                exact ⟨⟨x + 1, by omega, by go_num, L', D', vs', HM.out.skip (fun hL => by have := hL.2.1; rw [Int.toNat_natCast, ← hzx.out] at this; omega), HBM.out, HFAR.out, HQ.out, HNE.out, HB.out⟩, by simp [intOf]; omega⟩
              · have hc1i : ¬ ((seats : Nat) : Int) < (zx : Int) := by omega
                by_cases hw : x &&& sa = 0
                · have hz : (((x &&& sa : Nat) : Int) != 0) = false := by rw [hw]; rfl
                  have HW := Lib.hid hw
                  clear hw
                  obtain ⟨q1, hq1⟩ : ∃ q, Hid (q = quietB g (ldiff sa x)) := ⟨_, rfl⟩
                  obtain ⟨q2, hq2⟩ : ∃ q, Hid (q = quietB g (ldiff (ldiff f sa) x)) := ⟨_, rfl⟩
                  have d1 : Sm (ldiff sa x) := sm_ldiff _ hsas
                  have d2 : Sm (ldiff f sa) := sm_ldiff _ hfs
                  have KQ1 := Lib.hid (KQ.out (ldiff sa x) _ d1 HB.out)
                  have KQ2 := Lib.hid (KQ.out (ldiff (ldiff f sa) x) _ (sm_ldiff _ d2) HB.out)
                  rw [← hq1.out] at KQ1
                  rw [← hq2.out] at KQ2
                  cases q1
                  · go_wp2_with (first
                      | (go_at_call 25; refine (KCx.out _).mono ?_; rintro e w3 ⟨rfl, hw⟩; subst hw; try dsimp only)
                      | (go_at_call 27; with_reducible refine (KQ1.out).mono ?_; rintro e w3 ⟨rfl, hw⟩; subst hw; try dsimp only))
                    exact ⟨⟨x + 1, by omega, by go_num, L', D', vs', HM.out.skip (fun hL => by have := ((legal_right HSA.out (show x ≤ full g.length by rw [← hf.out]; omega)).1 hL).2.2.1; rw [← hq1.out] at this; cases this), HBM.out, HFAR.out, HQ.out, HNE.out, HB.out⟩, by simp [intOf]; omega⟩
                  · cases q2
                    · go_wp2_with (first
                        | (go_at_call 25; refine (KCx.out _).mono ?_; rintro e w3 ⟨rfl, hw⟩; subst hw; try dsimp only)
                        | (go_at_call 27; with_reducible refine (KQ1.out).mono ?_; rintro e w3 ⟨rfl, hw⟩; subst hw; try dsimp only)
                        | (go_at_call 27; with_reducible refine (KQ2.out).mono ?_; rintro e w3 ⟨rfl, hw⟩; subst hw; try dsimp only))
                      exact ⟨⟨x + 1, by omega, by go_num, L', D', vs', HM.out.skip (fun hL => by have := ((legal_right HSA.out (show x ≤ full g.length by rw [← hf.out]; omega)).1 hL).2.2.2; rw [← hf.out, ← hq2.out] at this; cases this), HBM.out, HFAR.out, HQ.out, HNE.out, HB.out⟩, by simp [intOf]; omega⟩
                    · have hLg : Legal g ((seats : Int)).toNat (sa, true) x := (legal_right HSA.out (show x ≤ full g.length by rw [← hf.out]; omega)).2 ⟨HW.out, by rw [Int.toNat_natCast, ← hzx.out]; omega, hq1.out.symm, by rw [← hf.out]; exact hq2.out.symm⟩
                      have hnx : next (sa, true) x = (sa ||| x, false) := by unfold next; rw [xor_in ((within_bank_t (show x ≤ full g.length by rw [← hf.out]; omega)).2 HW.out)]; rfl
                      have HLG := Lib.hid hLg
                      have HNX := Lib.hid hnx
                      have htf : sa ||| x ≤ f := by rw [hf.out]; exact (within_full.1 (within_iff.2 fun j hj => by
                        rw [Nat.testBit_or, Bool.or_eq_true] at hj
                        rcases hj with h | h
                        · exact within_iff.1 HSA.out j h
                        · exact within_iff.1 (within_full.2 (show x ≤ full g.length by rw [← hf.out]; omega)) j h))
                      have hbnd : ∀ s ∈ L', s.1 ≤ f := fun s hs => by rw [hf.out]; exact (HM.out.inv.inb s hs).le
                      obtain ⟨dd, hdd1, hdd2, _⟩ := HFAR.out.at hbnd (t := (sa ||| x, false)) htf
                      have HBND := Lib.hid hbnd
                      have HDD2 := Lib.hid hdd2
                      have HDD1 := Lib.hid hdd1
                      clear hLg hnx hbnd hdd2 hdd1
                      have hc2 : Hid (sa ||| x = code f (sa ||| x, false)) := rfl
                      have hc2N : (sa ||| x) < 2 * (f + 1) := by rw [hc2.out]; exact code_lt htf
                      have hc2i : ((sa ||| x : Nat) : Int) < (N2 : Int) := by rw [hN2.out]; omega
                      have hc20 : (0 : Int) ≤ ((sa ||| x : Nat) : Int) := by omega
                      have hfc2 : wr.cell? ⟨w1.heap.size, (sa ||| x), none⟩ = some (.int .i64 (dd : Int)) := by rw [HBM.out.cell, hc2.out]; exact HDD1.out
                      have hfz2 := HBM.out.frozen (sa ||| x)
                      by_cases hd0 : dd = 0
                      · obtain ⟨lb', lo', lcap', rfl, q1', q2', q3', q4', q5', q6'⟩ := HQ.out.at (by have := HM.out.lt; omega)
                        have hLi' := HM.out.at'
                        have hci2 : wr.cell? ⟨lb', lo' + i, none⟩ = some (.int .i64 ((c : Nat) : Int)) := by rw [q5' i (by have := HM.out.lt; omega), List.getElem?_map, hLi', HC1.out]; rfl
                        obtain ⟨d2, hd2⟩ : ∃ d2, Hid (d2 = D'[i]?.getD 0) := ⟨_, rfl⟩
                        have hfc' : wr.cell? ⟨w1.heap.size, c, none⟩ = some (.int .i64 ((d2 + 1 : Nat) : Int)) := by rw [HBM.out.cell, HC1.out, HFAR.out.met i _ hLi', hd2.out]
                        have hfz' := HBM.out.frozen c
                        have hd2l : d2 ≤ i := by rw [hd2.out]; exact HM.out.inv.dle i HM.out.lt
                        have hLb' := HM.out.inv.bound
                        rw [← hf.out] at hLb'
                        have hil' : ((i : Nat) : Int) < (L'.length : Int) := by have := HM.out.lt; omega
                        have hnb : w1.heap.size ≠ lb' := by have := HNE.out; simp [Value.ownBlock] at this; omega
                        have HNB := Lib.hid hnb
                        have Hd0 := Lib.hid hd0
                        subst hd0
                        have hszw := HB.out.size
                        have hszL := q2'
                        have HQ1 := Lib.hid (((HQ.out.other (a := ⟨w1.heap.size, (sa ||| x), none⟩) (fun k hk => by simp [Value.ownBlock] at hk; have := HNB.out; rw [← hk]; exact fun e => this e.symm) (.int .i64 ((d2 : Int) + 1 + 1))).alloc (.cells #[.int .i64 ((sa ||| x : Nat) : Int)] 3)))
                        clear hLi' hnb q5' q6' q3' q4'
                        go_wp2_with (first
                          | (go_at_call 25; refine (KCx.out _).mono ?_; rintro e w3 ⟨rfl, hw⟩; subst hw; try dsimp only)
                          | (go_at_call 27; with_reducible refine (KQ1.out).mono ?_; rintro e w3 ⟨rfl, hw⟩; subst hw; try dsimp only)
                          | (go_at_call 27; with_reducible refine (KQ2.out).mono ?_; rintro e w3 ⟨rfl, hw⟩; subst hw; try dsimp only)
                          | (at_builtin; go_must (refine wpList_append_q _ rfl (.tmp 126) (.tmp 128) 25 rfl w1.heap.size 3 i0 (.int .i64 0) 1 8 Try.underlying25 hi hz0 hz1 hz2 rfl (by decide) _ L'.length (L'.map fun s => .int .i64 (code f s : Nat)) rfl HQ1.out ⟨w3.heap.size, 0, none⟩ 1 1 [.int .i64 ((sa ||| x : Nat) : Int)] rfl rfl (cells_newS _ _ _ _ _) (by simp [Value.oneCell']) (by unfold maxLen; omega) (by omega) (by simp; omega) ?_); intro v4 w4 hq4 hg4 ho4))
                        have hM4 : Below w1.heap.size w1 w4 := Below.grown ((HB.out.setCell (p := ⟨w1.heap.size, (sa ||| x), none⟩) (Nat.le_refl _) _).alloc (by simp; omega) _) hg4 (by simp; omega) (fun k e => by have e' : some lb' = some k := e; cases e'; exact q1')
                        have hbx4 : BoxN w4 w1.heap.size 3 (vs'.setIfInBounds (sa ||| x) (.int .i64 ((d2 : Int) + 1 + 1))) := ((HBM.out.set (sa ||| x) _).alloc _).kept hg4 (by show some w1.heap.size ≠ some lb'; intro e; cases e; exact HNB.out rfl)
                        refine ⟨⟨x + 1, by omega, by go_num, L' ++ [(sa ||| x, false)], D' ++ [d2 + 1], _, ?_, hbx4, ?_, ?_, ?_, hM4⟩, by simp [intOf]; omega⟩
                        · have hr := HM.out.new HLG.out (by rw [HNX.out]; exact HDD2.out.1 rfl)
                          rw [HNX.out, ← hd2.out] at hr
                          exact hr
                        · have hr := HFAR.out.set HM.out.inv.len HBND.out htf (HDD2.out.1 rfl) (d2 + 1)
                          rw [← hc2.out] at hr
                          exact hr
                        · have hr := hq4
                          rw [List.length_append, List.map_append]
                          simp only [List.map_cons, List.map_nil, ← hc2.out]
                          exact hr
                        · intro e
                          rcases ho4 _ e with h | h
                          · have h' : some lb' = some w1.heap.size := h
                            cases h'; exact HNB.out rfl
                          · simp at h; omega
                      · have hd1 : (((dd : Nat) : Int) == 0) = false := by rw [beq_eq_false_iff_ne]; omega
                        have HD0 := Lib.hid hd0
                        clear hd0
                        go_wp2_with (first
                            | (go_at_call 25; refine (KCx.out _).mono ?_; rintro e w3 ⟨rfl, hw⟩; subst hw; try dsimp only)
                            | (go_at_call 27; with_reducible refine (KQ1.out).mono ?_; rintro e w3 ⟨rfl, hw⟩; subst hw; try dsimp only)
                            | (go_at_call 27; with_reducible refine (KQ2.out).mono ?_; rintro e w3 ⟨rfl, hw⟩; subst hw; try dsimp only))
                        exact ⟨⟨x + 1, by omega, by go_num, L', D', vs', HM.out.old (by rw [HNX.out]; exact Classical.byContradiction fun h => HD0.out (HDD2.out.2 h)), HBM.out, HFAR.out, HQ.out, HNE.out, HB.out⟩, by simp [intOf]; omega⟩
                · have hz : (((x &&& sa : Nat) : Int) != 0) = true := by rw [bne_iff_ne]; intro h; exact hw (by omega)
                  have HW := Lib.hid hw
                  clear hw
                  go_wp2_with (go_at_call 25; refine (KCx.out _).mono ?_; rintro e w3 ⟨rfl, hw⟩; subst hw; try dsimp only)
                  exact ⟨⟨x + 1, by omega, by go_num, L', D', vs', HM.out.skip (fun hL => HW.out ((legal_right HSA.out (show x ≤ full g.length by rw [← hf.out]; omega)).1 hL).1), HBM.out, HFAR.out, HQ.out, HNE.out, HB.out⟩, by simp [intOf]; omega⟩
            · have hxe : Hid (x = f + 1) := by unfold Hid; omega
              have hiN2 : i + 1 ≤ N2 := by rw [hN2.out]; omega
              go_wp2
              refine ⟨⟨i + 1, hiN2, by go_num, L', D', vs', ?_, HBM.out, HFAR.out, HQ.out, HNE.out, HB.out⟩, by simp [intOf]; omega⟩
              have hmm := HM.out
              rw [hxe.out, hf.out] at hmm
              exact hmm.finish
    · have hile : Hid (i = len) := by unfold Hid; have := HINV.out.le; rw [HLL.out] at this; omega
      have hii : ¬ ((i : Nat) : Int) < (len : Int) := by omega
      have hl0 : 0 < len := by rw [← HLL.out]; exact (List.getElem?_eq_some_iff.1 HINV.out.first).1
      obtain ⟨lb, lo, lcap, rfl, _, _, _, _, _, _⟩ := hq.at hl0
      clear hinv hfar hq hne hbM hLL
      go_wp2
      go_ret
      refine ⟨-1, rfl, ?_, hB⟩
      have hh := HINV.out
      rw [hile.out, ← HLL.out] at hh
      exact hh.none
end Go.Proofs.Ytfbobojpocnfeaa
