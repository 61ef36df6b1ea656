/- The program's IsPlan. -/
import Derived.Test.YtfbobojpocnfeaaEx
namespace Go.Proofs.Ytfbobojpocnfeaa
open Go.RowKit Go.Shelf

theorem bandNot_big (a b : Nat) (ha : a < 9223372036854775808) (hb : Sm b) : bits .andNot .i64 (a : Int) (b : Int) = ((ldiff a b : Nat) : Int) := by
  have h2 := ofInt_small b hb
  have h1 : (BitVec.ofInt 64 (a : Int)).toNat = a := by rw [BitVec.ofInt_natCast, BitVec.toNat_ofNat, Nat.mod_eq_of_lt (by omega)]
  have hx : (BitVec.ofInt 64 (a : Int) &&& ~~~BitVec.ofInt 64 (b : Int)).toNat = ldiff a b := by
    apply Nat.eq_of_testBit_eq
    intro i
    rw [testBit_ldiff, BitVec.toNat_and, Nat.testBit_and, h1]
    by_cases hi : i < 64
    · congr 1
      rw [← BitVec.getLsbD, BitVec.getLsbD_not, BitVec.getLsbD, h2]; simp [hi]
    · have e64 : (2 : Nat) ^ 64 ≤ 2 ^ i := Nat.pow_le_pow_right (by decide) (by omega)
      have e65 : (2 : Nat) ^ 64 = 18446744073709551616 := by decide
      have ha' : a.testBit i = false := Nat.testBit_lt_two_pow (by omega)
      simp [ha']
  show IntKind.i64.wrap (((BitVec.ofInt 64 (a : Int) &&& ~~~BitVec.ofInt 64 (b : Int)).toNat : Nat) : Int) = _
  rw [hx]
  have := ldiff_le a b
  rw [IntKind.wrap_i64]; omega
/-- a row of integers that came in -/
def Ints (w : World) (a : Option Addr) (xs : List Int) : Prop :=
  xs ≠ [] → ∃ b off, a = some ⟨b, off, none⟩ ∧ b < w.heap.size ∧ ∀ j, j < xs.length → w.cell? ⟨b, off + j, none⟩ = some (.int .i64 (xs[j]?.getD 0))
theorem Ints.below {n : Nat} {w W : World} {a : Option Addr} {xs : List Int} (h : Ints w a xs) (hb : Below n w W) (hn : w.heap.size ≤ n) : Ints W a xs := fun hne => by
  obtain ⟨b, off, e, hlt, hc⟩ := h hne
  exact ⟨b, off, e, Nat.lt_of_lt_of_le hlt hb.size, fun j hj => (hb.cell (p := ⟨b, off + j, none⟩) (Nat.lt_of_lt_of_le hlt hn)).trans (hc j hj)⟩
/-- one trip of a plan that is judged -/
def tripB (g : List Nat) (seats : Int) (s : St) (x : Int) : Bool :=
  decide (0 ≤ x) && (ldiff x.toNat (bank g s) == 0) && decide (((size x.toNat : Nat) : Int) ≤ seats) && quietB g (ldiff s.1 x.toNat) && quietB g (ldiff (ldiff (full g.length) s.1) x.toNat)
def judgeB (g : List Nat) (seats : Int) : St → List Int → Bool
  | s, [] => s.1 == 0
  | s, x :: xs => tripB g seats s x && judgeB g seats (next s x.toNat) xs
theorem ldiff_zero {a b : Nat} : ldiff a b = 0 ↔ Within a b := by
  constructor
  · intro h
    refine within_iff.2 fun i hi => ?_
    have := testBit_ldiff a b i
    rw [h, hi, Nat.zero_testBit] at this
    simpa using this.symm
  · intro h
    apply Nat.eq_of_testBit_eq
    intro i
    rw [testBit_ldiff, Nat.zero_testBit]
    cases ha : a.testBit i
    · rfl
    · rw [within_iff.1 h i ha]; rfl
set_option maxRecDepth 100000 in
set_option maxHeartbeats 1000000 in
theorem isPlan_ok (n : Nat) (ps : List (Int × Int)) (a : Option Addr) (cap : Nat) (w : World) (h : Good n ps a w) (seats : Int) (hs : 0 ≤ seats) (pa : Option Addr) (xs : List Int) (pc : Nat) (hx : Ints w pa xs) (hlx : xs.length ≤ 1099511627776) (hodd : xs.length % 2 = 1) (hrg : ∀ x ∈ xs, x < 9223372036854775808) :
    Calls Try.prog 18 #[.int .i64 n, .slice a ps.length cap, .int .i64 seats, .slice pa xs.length pc] w fun e w' => e = .returned (.bool (judgeB (ofE n ps) seats (start (ofE n ps)) xs)) ∧ Below w.heap.size w w' := by
  have HO := Lib.hid (h.open cap)
  have hl : (ofE n ps).length = n := ofE_length n ps
  have hsm := ofE_sm h.n2 h.ok
  have hn2 := h.n2
  clear h
  generalize ofE n ps = g at *
  have hne : xs ≠ [] := by rintro rfl; simp at hodd
  obtain ⟨pb, po, rfl, hpb, hpc⟩ := hx hne
  have hfs : Sm (full n) := sm_full (by omega)
  generalize hlen : xs.length = len at *
  have HR := Lib.hid hrg
  have HC := Lib.hid hpc
  clear hrg hpc hx hne
  have hod2 : Hid (len % 2 = 1) := hodd
  have hti : ((len : Nat) : Int).tmod 2 = 1 := by rw [Int.tmod_eq_emod_of_nonneg (by omega)]; omega
  go_enter Try.func18, Try.ntmps18
  go_wp2_with (first
    | (go_at_call 33; refine (HO.out).mono ?_; rintro e w1 ⟨B, rfl, hBB, hcr, hB1⟩; have hcn := hcr.n; rw [hl] at hcn)
    | (go_at_call 37; refine (call_any B n w1 (by omega) hcn).mono ?_; rintro e w2 ⟨rfl, rfl⟩))
  go_loop [11, 37] (fun s11 s37 => ∃ (k : Nat) (s : St), k ≤ len ∧ s37 = .int .i64 k ∧ s11 = .int .i64 s.1 ∧ s.2 = decide (k % 2 = 1) ∧ Within s.1 (full n) ∧ Hid (judgeB g seats (start g) xs = judgeB g seats s (xs.drop k))) (fun _ s37 => 2199023255552 - (intOf s37).toNat)
  case atStart => exact ⟨0, start g, Nat.zero_le _, rfl, by rw [← hl]; rfl, rfl, by rw [← hl]; exact within_refl _, by simp [Hid]⟩
  case round =>
    obtain ⟨k, ⟨sa, sb⟩, hk, rfl, rfl, hsb, hsw, hj⟩ := hrel
    simp only at hsb hsw
    have hsas : Sm sa := Nat.lt_of_le_of_lt hsw.le hfs
    by_cases hkl : k < len
    · have hcell := (hB1.cell (p := ⟨pb, po + k, none⟩) hpb).trans (HC.out k hkl)
      have hget : xs[k]? = some (xs[k]?.getD 0) := by rw [List.getElem?_eq_getElem (by omega)]; rfl
      have hmem := HR.out _ (List.mem_of_getElem? hget)
      have hdrop : xs.drop k = (xs[k]?.getD 0) :: xs.drop (k + 1) := by
        rw [List.drop_eq_getElem_cons (by omega), List.getElem?_eq_getElem (by omega)]; rfl
      have hj' := hj.out
      rw [hdrop] at hj'
      clear hdrop hget hj
      generalize xs[k]?.getD 0 = x at *
      have hkt : ((k : Nat) : Int).tmod 2 = ((k % 2 : Nat) : Int) := by rw [Int.tmod_eq_emod_of_nonneg (by omega)]; omega
      have hj2 : judgeB g seats (start g) xs = (tripB g seats (sa, sb) x && judgeB g seats (next (sa, sb) x.toNat) (xs.drop (k + 1))) := hj'
      have HJ := Lib.hid hj2
      clear hj' hj2
      cases sb
      · have hk2 : ((k : Nat) : Int).tmod 2 = 0 := by
          have : ¬ k % 2 = 1 := fun e => by rw [e] at hsb; simp at hsb
          rw [hkt]; omega
        clear hkt hsb
        by_cases hx0 : x < 0
        · go_wp2_with (first | (go_at_call 37; refine (call_any B n _ (by omega) hcn).mono ?_; rintro e w2 ⟨rfl, rfl⟩))
          go_ret
          refine ⟨ret_bool ?_, hB1⟩
          rw [HJ.out, show tripB g seats (sa, false) x = false from by unfold tripB; rw [decide_eq_false (by omega)]; rfl]
          rfl
        · obtain ⟨xn, rfl⟩ := Int.eq_ofNat_of_zero_le (show 0 ≤ x by omega)
          rw [Int.toNat_natCast] at HJ
          have hxb : xn < 9223372036854775808 := by omega
          have hbs : Sm (sa) := hsas
          have hbn := bandNot_big xn (sa) hxb hbs
          by_cases hxw : ldiff xn (sa) = 0
          · have hxs : Sm xn := Nat.lt_of_le_of_lt (ldiff_zero.1 hxw).le hbs
            have hbn0 := hbn
            rw [hxw] at hbn0
            have HXW := Lib.hid hxw
            clear hbn hxw hxb hmem
            obtain ⟨z, hz⟩ : ∃ z, Hid (z = size xn) := ⟨_, rfl⟩
            have hcnt : ∀ W, Calls Try.prog 34 #[.int .i64 (xn : Int)] W fun e w' => e = .returned (.int .i64 (z : Int)) ∧ w' = W := fun W => by rw [hz.out]; exact count_any xn W hxs.lt
            obtain ⟨q1, hq1⟩ : ∃ q, Hid (q = quietB g (ldiff sa xn)) := ⟨_, rfl⟩
            obtain ⟨q2, hq2⟩ : ∃ q, Hid (q = quietB g (ldiff (ldiff (full n) sa) xn)) := ⟨_, rfl⟩
            have c1 : Hid (∀ W, Crowd W B g → Calls Try.prog 38 #[.pointer (some ⟨B, 0, none⟩), .int .i64 ((ldiff sa xn : Nat) : Int)] W fun e w' => e = .returned (.bool q1) ∧ w' = W) := fun W hW => by rw [hq1.out]; exact cquiet_any B g _ W (by omega) (sm_ldiff _ hsas) hsm hW
            have c2 : Hid (∀ W, Crowd W B g → Calls Try.prog 38 #[.pointer (some ⟨B, 0, none⟩), .int .i64 ((ldiff (ldiff (full n) sa) xn : Nat) : Int)] W fun e w' => e = .returned (.bool q2) ∧ w' = W) := fun W hW => by rw [hq2.out]; exact cquiet_any B g _ W (by omega) (sm_ldiff _ (sm_ldiff _ hfs)) hsm hW
            by_cases hzs : seats < (z : Int)
            · have hd : decide (seats < (z : Int)) = true := decide_eq_true hzs
              have HZ := Lib.hid hzs
              clear hzs hs
              go_wp2_with (first
                | (go_at_call 37; refine (call_any B n _ (by omega) hcn).mono ?_; rintro e w2 ⟨rfl, rfl⟩)
                | (go_at_call 34; refine (hcnt _).mono ?_; rintro e w2 ⟨rfl, rfl⟩)
                | (go_at_call 38; with_reducible refine (c1.out _ hcr).mono ?_; rintro e w2 ⟨rfl, rfl⟩)
                | (go_at_call 38; with_reducible refine (c2.out _ hcr).mono ?_; rintro e w2 ⟨rfl, rfl⟩))
              go_ret
              refine ⟨ret_bool ?_, hB1⟩
              have hzl := HZ.out
              rw [hz.out] at hzl
              rw [HJ.out, show tripB g seats (sa, false) (xn : Int) = false from by unfold tripB; rw [show decide (((size (xn : Int).toNat : Nat) : Int) ≤ seats) = false from decide_eq_false (by rw [Int.toNat_natCast]; omega)]; simp]
              rfl
            · have hd : decide (seats < (z : Int)) = false := decide_eq_false hzs
              have HZ := Lib.hid hzs
              clear hzs hs
              cases q1 <;> cases q2
              all_goals go_wp2_with (first
                | (go_at_call 37; refine (call_any B n _ (by omega) hcn).mono ?_; rintro e w2 ⟨rfl, rfl⟩)
                | (go_at_call 34; refine (hcnt _).mono ?_; rintro e w2 ⟨rfl, rfl⟩)
                | (go_at_call 38; with_reducible refine (c1.out _ hcr).mono ?_; rintro e w2 ⟨rfl, rfl⟩)
                | (go_at_call 38; with_reducible refine (c2.out _ hcr).mono ?_; rintro e w2 ⟨rfl, rfl⟩))
              · go_ret
                refine ⟨ret_bool ?_, hB1⟩
                rw [HJ.out, show tripB g seats (sa, false) (xn : Int) = false from by unfold tripB; rw [Int.toNat_natCast, ← hq1.out]; simp]
                rfl
              · go_ret
                refine ⟨ret_bool ?_, hB1⟩
                rw [HJ.out, show tripB g seats (sa, false) (xn : Int) = false from by unfold tripB; rw [Int.toNat_natCast, ← hq1.out]; simp]
                rfl
              · go_ret
                refine ⟨ret_bool ?_, hB1⟩
                rw [HJ.out, show tripB g seats (sa, false) (xn : Int) = false from by unfold tripB; rw [Int.toNat_natCast, hl, ← hq2.out]; simp]
                rfl
              · have hzl := HZ.out
                rw [hz.out] at hzl
                have hxw2 := ldiff_zero.1 HXW.out
                have htr : tripB g seats (sa, false) (xn : Int) = true := by
                  unfold tripB
                  rw [Int.toNat_natCast, hl, ← hq1.out, ← hq2.out, decide_eq_true hzl, show bank g (sa, false) = sa from rfl, HXW.out]
                  simp
                refine ⟨⟨k + 1, next (sa, false) xn, by omega, by go_num, rfl, ?_, xor_within hsw (hxw2.trans hsw), by unfold Hid; rw [HJ.out, htr, Bool.true_and]⟩, by simp [intOf]; omega⟩
                have hk3 := hk2
                rw [Int.tmod_eq_emod_of_nonneg (by omega)] at hk3
                show true = decide ((k + 1) % 2 = 1)
                rw [decide_eq_true (by omega)]
          · go_wp2_with (first | (go_at_call 37; refine (call_any B n _ (by omega) hcn).mono ?_; rintro e w2 ⟨rfl, rfl⟩))
            go_ret
            refine ⟨ret_bool ?_, hB1⟩
            rw [HJ.out, show tripB g seats (sa, false) (xn : Int) = false from by unfold tripB; simp [bank, hl, hxw]]
            rfl
      · have hk2 : ((k : Nat) : Int).tmod 2 = 1 := by
          have : k % 2 = 1 := by simpa using hsb.symm
          rw [hkt]; omega
        clear hkt hsb
        by_cases hx0 : x < 0
        · go_wp2_with (first | (go_at_call 37; refine (call_any B n _ (by omega) hcn).mono ?_; rintro e w2 ⟨rfl, rfl⟩))
          go_ret
          refine ⟨ret_bool ?_, hB1⟩
          rw [HJ.out, show tripB g seats (sa, true) x = false from by unfold tripB; rw [decide_eq_false (by omega)]; rfl]
          rfl
        · obtain ⟨xn, rfl⟩ := Int.eq_ofNat_of_zero_le (show 0 ≤ x by omega)
          rw [Int.toNat_natCast] at HJ
          have hxb : xn < 9223372036854775808 := by omega
          have hbs : Sm (ldiff (full n) sa) := sm_ldiff _ hfs
          have hbn := bandNot_big xn (ldiff (full n) sa) hxb hbs
          by_cases hxw : ldiff xn (ldiff (full n) sa) = 0
          · have hxs : Sm xn := Nat.lt_of_le_of_lt (ldiff_zero.1 hxw).le hbs
            have hbn0 := hbn
            rw [hxw] at hbn0
            have HXW := Lib.hid hxw
            clear hbn hxw hxb hmem
            obtain ⟨z, hz⟩ : ∃ z, Hid (z = size xn) := ⟨_, rfl⟩
            have hcnt : ∀ W, Calls Try.prog 34 #[.int .i64 (xn : Int)] W fun e w' => e = .returned (.int .i64 (z : Int)) ∧ w' = W := fun W => by rw [hz.out]; exact count_any xn W hxs.lt
            obtain ⟨q1, hq1⟩ : ∃ q, Hid (q = quietB g (ldiff sa xn)) := ⟨_, rfl⟩
            obtain ⟨q2, hq2⟩ : ∃ q, Hid (q = quietB g (ldiff (ldiff (full n) sa) xn)) := ⟨_, rfl⟩
            have c1 : Hid (∀ W, Crowd W B g → Calls Try.prog 38 #[.pointer (some ⟨B, 0, none⟩), .int .i64 ((ldiff sa xn : Nat) : Int)] W fun e w' => e = .returned (.bool q1) ∧ w' = W) := fun W hW => by rw [hq1.out]; exact cquiet_any B g _ W (by omega) (sm_ldiff _ hsas) hsm hW
            have c2 : Hid (∀ W, Crowd W B g → Calls Try.prog 38 #[.pointer (some ⟨B, 0, none⟩), .int .i64 ((ldiff (ldiff (full n) sa) xn : Nat) : Int)] W fun e w' => e = .returned (.bool q2) ∧ w' = W) := fun W hW => by rw [hq2.out]; exact cquiet_any B g _ W (by omega) (sm_ldiff _ (sm_ldiff _ hfs)) hsm hW
            by_cases hzs : seats < (z : Int)
            · have hd : decide (seats < (z : Int)) = true := decide_eq_true hzs
              have HZ := Lib.hid hzs
              clear hzs hs
              go_wp2_with (first
                | (go_at_call 37; refine (call_any B n _ (by omega) hcn).mono ?_; rintro e w2 ⟨rfl, rfl⟩)
                | (go_at_call 34; refine (hcnt _).mono ?_; rintro e w2 ⟨rfl, rfl⟩)
                | (go_at_call 38; with_reducible refine (c1.out _ hcr).mono ?_; rintro e w2 ⟨rfl, rfl⟩)
                | (go_at_call 38; with_reducible refine (c2.out _ hcr).mono ?_; rintro e w2 ⟨rfl, rfl⟩))
              go_ret
              refine ⟨ret_bool ?_, hB1⟩
              have hzl := HZ.out
              rw [hz.out] at hzl
              rw [HJ.out, show tripB g seats (sa, true) (xn : Int) = false from by unfold tripB; rw [show decide (((size (xn : Int).toNat : Nat) : Int) ≤ seats) = false from decide_eq_false (by rw [Int.toNat_natCast]; omega)]; simp]
              rfl
            · have hd : decide (seats < (z : Int)) = false := decide_eq_false hzs
              have HZ := Lib.hid hzs
              clear hzs hs
              cases q1 <;> cases q2
              all_goals go_wp2_with (first
                | (go_at_call 37; refine (call_any B n _ (by omega) hcn).mono ?_; rintro e w2 ⟨rfl, rfl⟩)
                | (go_at_call 34; refine (hcnt _).mono ?_; rintro e w2 ⟨rfl, rfl⟩)
                | (go_at_call 38; with_reducible refine (c1.out _ hcr).mono ?_; rintro e w2 ⟨rfl, rfl⟩)
                | (go_at_call 38; with_reducible refine (c2.out _ hcr).mono ?_; rintro e w2 ⟨rfl, rfl⟩))
              · go_ret
                refine ⟨ret_bool ?_, hB1⟩
                rw [HJ.out, show tripB g seats (sa, true) (xn : Int) = false from by unfold tripB; rw [Int.toNat_natCast, ← hq1.out]; simp]
                rfl
              · go_ret
                refine ⟨ret_bool ?_, hB1⟩
                rw [HJ.out, show tripB g seats (sa, true) (xn : Int) = false from by unfold tripB; rw [Int.toNat_natCast, ← hq1.out]; simp]
                rfl
              · go_ret
                refine ⟨ret_bool ?_, hB1⟩
                rw [HJ.out, show tripB g seats (sa, true) (xn : Int) = false from by unfold tripB; rw [Int.toNat_natCast, hl, ← hq2.out]; simp]
                rfl
              · have hzl := HZ.out
                rw [hz.out] at hzl
                have hxw2 := ldiff_zero.1 HXW.out
                have htr : tripB g seats (sa, true) (xn : Int) = true := by
                  unfold tripB
                  rw [Int.toNat_natCast, hl, ← hq1.out, ← hq2.out, decide_eq_true hzl, show bank g (sa, true) = ldiff (full n) sa from by unfold bank; rw [hl]; rfl, HXW.out]
                  simp
                refine ⟨⟨k + 1, next (sa, true) xn, by omega, by go_num, rfl, ?_, xor_within hsw (hxw2.trans (ldiff_within _ _)), by unfold Hid; rw [HJ.out, htr, Bool.true_and]⟩, by simp [intOf]; omega⟩
                have hk3 := hk2
                rw [Int.tmod_eq_emod_of_nonneg (by omega)] at hk3
                show false = decide ((k + 1) % 2 = 1)
                rw [decide_eq_false (by omega)]
          · go_wp2_with (first | (go_at_call 37; refine (call_any B n _ (by omega) hcn).mono ?_; rintro e w2 ⟨rfl, rfl⟩))
            go_ret
            refine ⟨ret_bool ?_, hB1⟩
            rw [HJ.out, show tripB g seats (sa, true) (xn : Int) = false from by unfold tripB; simp [bank, hl, hxw]]
            rfl
    · have : k = len := by omega
      subst this
      go_wp2
      go_ret
      refine ⟨ret_bool ?_, hB1⟩
      rw [hj.out, List.drop_eq_nil_of_le (by omega)]
      rw [show judgeB g seats (sa, sb) [] = (sa == 0) from rfl]
      by_cases e : sa = 0
      · subst e; rfl
      · have e2 : ((sa : Nat) : Int) ≠ 0 := by omega
        rw [beq_false_of_ne e2, beq_false_of_ne e]
theorem isPlan_no (n : Int) (ps : List (Int × Int)) (a : Option Addr) (cap : Nat) (w : World) (hl : ps.length ≤ 1099511627776) (hg : Pairs w a ps) (hne : openCode n ps ≠ 0) (seats : Int) (pa : Option Addr) (len pc : Nat) :
    Calls Try.prog 18 #[.int .i64 n, .slice a ps.length cap, .int .i64 seats, .slice pa len pc] w fun e w' => e = .returned (.bool false) ∧ Below w.heap.size w w' := by
  have HO := Lib.hid (open_err n a cap ps w hl hg hne)
  generalize openCode n ps = c at *
  have hb : (c != 0) = true := by simpa using hne
  clear hne
  go_enter Try.func18, Try.ntmps18
  go_wp2_with (first
    | (go_at_call 33; refine (HO.out).mono ?_; rintro e w1 ⟨rfl, hB1⟩))
  go_ret
  exact ⟨rfl, hB1⟩
theorem isPlan_out (n : Nat) (ps : List (Int × Int)) (a : Option Addr) (cap : Nat) (w : World) (h : Good n ps a w) (seats : Int) (pa : Option Addr) (len pc : Nat) (hlen : len ≤ 1099511627776) (hs : seats < 0 ∨ len % 2 = 0) :
    Calls Try.prog 18 #[.int .i64 n, .slice a ps.length cap, .int .i64 seats, .slice pa len pc] w fun e w' => e = .returned (.bool false) ∧ Below w.heap.size w w' := by
  have HO := Lib.hid (h.open cap)
  clear h
  generalize ofE n ps = g at *
  by_cases h0 : seats < 0
  · clear hs
    go_enter Try.func18, Try.ntmps18
    go_wp2_with (first
      | (go_at_call 33; refine (HO.out).mono ?_; rintro e w1 ⟨B, rfl, hBB, hcr, hB1⟩))
    go_ret
    exact ⟨rfl, hB1⟩
  · have hti : ((len : Nat) : Int).tmod 2 = 0 := by rw [Int.tmod_eq_emod_of_nonneg (by omega)]; omega
    clear hs
    go_enter Try.func18, Try.ntmps18
    go_wp2_with (first
      | (go_at_call 33; refine (HO.out).mono ?_; rintro e w1 ⟨B, rfl, hBB, hcr, hB1⟩))
    go_ret
    exact ⟨rfl, hB1⟩
end Go.Proofs.Ytfbobojpocnfeaa
