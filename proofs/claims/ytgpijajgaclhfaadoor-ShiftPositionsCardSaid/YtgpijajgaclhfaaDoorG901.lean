/- Positions that represent an order: the document's and the program's tests: walks. Judges: plain, and the two judges side by side. An array of four integers as it comes in, opened. A law's walk: ShiftJudges. -/
import Derived.Test.YtgpijajgaclhfaaDoorG801
import Derived.OpenShut
set_option linter.unusedVariables false
set_option linter.unusedSimpArgs false
namespace Go.Proofs.YtgpijajgaclhfaaDoor
open Go.RowKit Go.Shelf

/-- y is more than x and k together -/
def far (x y k : Int) : Bool := decide (x < y) && decide (IntKind.u64.wrap k < IntKind.u64.wrap (IntKind.u64.wrap y - IntKind.u64.wrap x))
set_option maxRecDepth 100000 in
theorem farther_any (x y k : Int) (w : World) :
    Calls Tryd.prog 67 #[.int .i64 x, .int .i64 y, .int .i64 k] w fun e w' => e = .returned (.bool (far x y k)) ∧ w' = w := by
  have hf : Hid (far x y k = (decide (x < y) && decide (IntKind.u64.wrap k < IntKind.u64.wrap (IntKind.u64.wrap y - IntKind.u64.wrap x)))) := rfl
  go_enter Tryd.func67, Tryd.ntmps67
  by_cases h : x < y
  · have q1 : decide (x < y) = true := by simpa using h
    rw [q1, Bool.true_and] at hf
    generalize hz : IntKind.u64.wrap (IntKind.u64.wrap y - IntKind.u64.wrap x) = z at *
    go_wp2
    go_ret
    exact ⟨ret_bool hf.out.symm, rfl⟩
  · have q1 : decide (x < y) = false := by simpa using h
    rw [q1, Bool.false_and] at hf
    go_wp2
    go_ret
    exact ⟨ret_bool hf.out.symm, rfl⟩
/-- what the two tests say -/
structure RepA (m n : Nat) (r : Nat → Nat → Bool) (f : Nat → Int) (k : Int) : Prop where
  len : m = n
  pos : 0 ≤ k
  rel : ∀ x y, x < n → y < n → r x y = far (f x) (f y) k
structure RepB (n : Nat) (ln : Nat → Nat) (r : Nat → Nat → Bool) (m : Nat) (f : Nat → Int) (k : Int) : Prop where
  tab : TabOK n ln r
  rep : RepA m n r f k
set_option maxRecDepth 100000 in
set_option maxHeartbeats 4000000 in
theorem rRep_any (la p : Option Addr) (n lc m c : Nat) (r : Nat → Nat → Bool) (f : Nat → Int) (k : Int) (w : World) (hn : n ≤ 1000) (hT : TblI w la n (fun _ => n) r) (hS : SrcI w p m f) :
    Calls Tryd.prog 43 #[.slice la n lc, .slice p m c, .int .i64 k] w fun e w' => BoolP (RepA m n r f k) e ∧ ∃ z, w' = w.drewN z := by
  by_cases hmn : m = n
  · subst hmn
    by_cases hk : 0 ≤ k
    · have q1 : ((m : Int) != (m : Int)) = false := by simp
      have q2 : decide (k < 0) = false := by simp; omega
      have q3 : ¬ k < 0 := by omega
      have HK := Lib.hid hk
      have HT := Lib.hid hT
      have HS := Lib.hid hS
      clear hT hS hk
      go_enter Tryd.func43, Tryd.ntmps43
      go_upto_region 4 with (fail)
      go_loopw [7] (fun s7 wr => ∃ x : Nat, x ≤ m ∧ s7 = .int .i64 (x : Int) ∧ Hid (∀ x' y, x' < x → y < m → r x' y = far (f x') (f y) k) ∧ ∃ z, Hid (wr = w.drewN z)) (fun s7 _ => m - (intOf s7).toNat)
      case atStart => exact ⟨0, by omega, rfl, (fun x y h => by omega), 0, rfl⟩
      case round =>
        obtain ⟨x, hx, rfl, hp, z, hw⟩ := hrel
        rw [hw.out]
        clear hw
        by_cases hxm : x < m
        · have g1 : (x : Int) < (m : Int) := by omega
          have g2 : (0 : Int) ≤ (x : Int) := by omega
          obtain ⟨b, o, pp, o2, c2, rfl, hb, hpp, k1, hc1⟩ := HT.out.at hxm
          obtain ⟨b3, o3, rfl, hb3, hc3⟩ := HS.out (by omega)
          have k3 := hc3 x hxm
          have HC1 := Lib.hid hc1
          have HC3 := Lib.hid hc3
          clear hc1 hc3
          obtain ⟨fx, hfx⟩ : ∃ fx, Hid (fx = f x) := ⟨_, rfl⟩
          rw [← hfx.out] at k3
          go_upto_region 7 with (fail)
          go_loopw [8] (fun s8 wr => ∃ y : Nat, y ≤ m ∧ s8 = .int .i64 (y : Int) ∧ Hid (∀ y', y' < y → r x y' = far (f x) (f y') k) ∧ ∃ z, Hid (wr = w.drewN z)) (fun s8 _ => m - (intOf s8).toNat)
          case atStart => exact ⟨0, by omega, rfl, (fun y h => by omega), z, rfl⟩
          case round =>
            obtain ⟨y, hy, rfl, hq, z2, hw⟩ := hrel
            by_cases hym : y < m
            · have g3 : (y : Int) < (m : Int) := by omega
              have g4 : (0 : Int) ≤ (y : Int) := by omega
              have k2 : wr.cell? ⟨pp, o2 + y, none⟩ = some (.bool (r x y)) := by rw [hw.out]; exact HC1.out y hym
              have k4 : wr.cell? ⟨b3, o3 + y, none⟩ = some (.int .i64 (f y)) := by rw [hw.out]; exact HC3.out y hym
              have k1' : wr.cell? ⟨b, o + x, none⟩ = some (.slice (some ⟨pp, o2, none⟩) m c2) := by rw [hw.out]; exact k1
              have k3' : wr.cell? ⟨b3, o3 + x, none⟩ = some (.int .i64 fx) := by rw [hw.out]; exact k3
              obtain ⟨fy, hfy⟩ : ∃ fy, Hid (fy = f y) := ⟨_, rfl⟩
              rw [← hfy.out] at k4
              have HN : Hid (r x y = far fx fy k → ∀ y', y' < y + 1 → r x y' = far (f x) (f y') k) := fun h y' hy' => by
                by_cases e : y' = y
                · subst e; rw [← hfx.out, ← hfy.out]; exact h
                · exact hq.out y' (by omega)
              have HX : Hid (¬ r x y = far fx fy k → ¬ RepA m m r f k) := fun h h2 => h (by rw [hfx.out, hfy.out]; exact h2.rel x y hxm hym)
              have HFA : Hid (∀ q, Calls Tryd.prog 67 #[.int .i64 fx, .int .i64 fy, .int .i64 k] (wr.drewN q) fun e w' => e = .returned (.bool (far fx fy k)) ∧ w' = wr.drewN q) := fun q => farther_any fx fy k _
              generalize r x y = u1 at *
              generalize far fx fy k = u2 at *
              by_cases e : u1 = u2
              · have HNN := Lib.hid (HN.out e)
                have q6 : (!u1 == u2) = false := by rw [e]; cases u2 <;> rfl
                clear HN HX
                go_wp2
                go_quiet ((go_at_call 67; exact Calls.quiet_of_same (HFA.out _)))
                go_wp2
                exact ⟨⟨y + 1, by omega, int_eq (by omega), HNN, _, (by unfold Hid; rw [hw.out, World.drewN_drewN])⟩, by simp [intOf]; omega⟩
              · have HXX := Lib.hid (HX.out e)
                have q6 : (!u1 == u2) = true := by cases u1 <;> cases u2 <;> simp_all
                clear HN HX e
                go_wp2
                go_quiet ((go_at_call 67; exact Calls.quiet_of_same (HFA.out _)))
                go_wp2
                go_ret
                exact ⟨BoolP.no HXX.out, _, by rw [hw.out, World.drewN_drewN]⟩
            · have g3 : ¬ (y : Int) < (m : Int) := by omega
              rw [hw.out]
              clear hw
              obtain rfl : m = y := by omega
              have HNN : Hid (∀ x' y, x' < x + 1 → y < m → r x' y = far (f x') (f y) k) := fun x' y hx' hy' => by
                by_cases e : x' = x
                · subst e; exact hq.out y hy'
                · exact hp.out x' y (by omega) hy'
              go_wp2
              exact ⟨⟨x + 1, by omega, int_eq (by omega), HNN, _, rfl⟩, by simp [intOf]; omega⟩
        · have g1 : ¬ (x : Int) < (m : Int) := by omega
          obtain rfl : m = x := by omega
          have HY : Hid (RepA m m r f k) := ⟨rfl, HK.out, fun x y hx hy => hp.out x y hx hy⟩
          go_wp2
          go_ret
          exact ⟨BoolP.yes HY.out, z, rfl⟩
    · have q1 : ((m : Int) != (m : Int)) = false := by simp
      have q3 : k < 0 := by omega
      have HNO : Hid (¬ RepA m m r f k) := fun h => hk h.pos
      clear hT hS
      go_enter Tryd.func43, Tryd.ntmps43
      go_wp2
      go_ret
      exact ⟨BoolP.no HNO.out, 0, rfl⟩
  · have q1 : ((m : Int) != (n : Int)) = true := by rw [bne_iff_ne]; omega
    have HNO : Hid (¬ RepA m n r f k) := fun h => hmn h.len
    clear hT hS hmn
    go_enter Tryd.func43, Tryd.ntmps43
    go_wp2
    go_ret
    exact ⟨BoolP.no HNO.out, 0, rfl⟩
set_option maxRecDepth 100000 in
set_option maxHeartbeats 4000000 in
theorem pRep_any (la p : Option Addr) (n lc m c : Nat) (ln : Nat → Nat) (r : Nat → Nat → Bool) (f : Nat → Int) (k : Int) (w : World) (hn : n ≤ 1099511627776) (hT : TblI w la n ln r) (hS : SrcI w p m f) :
    Calls Tryd.prog 42 #[.slice la n lc, .slice p m c, .int .i64 k] w fun e w' => BoolP (RepB n ln r m f k) e ∧ Below w.heap.size w w' := by
  have HC := Lib.hid (open_any la n lc ln r w hn hT)
  have HS := Lib.hid hS
  clear hT hS
  go_enter Tryd.func42, Tryd.ntmps42
  go_upto_region 2 with (go_at_call 55; refine HC.out.mono ?_; rintro e w1 ⟨ha, hB1⟩; have HB1 := Lib.hid hB1; have HS1 := Lib.hid (HS.out.below hB1 (Nat.le_refl _)); clear hB1; rcases ha with ⟨rfl, hno⟩ | ⟨B, rfl, hok, hBB, hO⟩)
  · have HNO : Hid (¬ RepB n ln r m f k) := fun h => hno h.tab
    clear hno
    go_wp2
    go_ret
    exact ⟨BoolP.no HNO.out, HB1.out⟩
  · have HOK := Lib.hid hok
    have HO := Lib.hid hO
    have hn12 := hok.n12
    have c0 := hO.cn
    clear hok hO HC
    by_cases hmn : m = n
    · subst hmn
      have q1 : ((m : Int) != (m : Int)) = false := by simp
      by_cases hk : 0 ≤ k
      · have q2 : decide (k < 0) = false := by simp; omega
        have q3 : ¬ k < 0 := by omega
        have HK := Lib.hid hk
        clear hk
        go_upto_region 5 with (fail)
        clear c0
        go_loopw [38] (fun s38 wr => ∃ x : Nat, x ≤ m ∧ s38 = .int .i64 (x : Int) ∧ Hid (∀ x' y, x' < x → y < m → r x' y = far (f x') (f y) k) ∧ ∃ z, Hid (wr = w1.drewN z)) (fun s38 _ => m - (intOf s38).toNat)
        case atStart => exact ⟨0, by omega, rfl, (fun x y h => by omega), 0, rfl⟩
        case round =>
          obtain ⟨x, hx, rfl, hp, z, hw⟩ := hrel
          rw [hw.out]
          clear hw
          by_cases hxm : x < m
          · have g1 : (x : Int) < (m : Int) := by omega
            have g2 : (0 : Int) ≤ (x : Int) := by omega
            obtain ⟨b3, o3, rfl, hb3, hc3⟩ := HS1.out (by omega)
            have k3 := hc3 x hxm
            have HC3 := Lib.hid hc3
            clear hc3
            have c0 := HO.out.cn
            obtain ⟨fx, hfx⟩ : ∃ fx, Hid (fx = f x) := ⟨_, rfl⟩
            rw [← hfx.out] at k3
            go_upto_region 8 with (fail)
            clear c0
            go_loopw [45] (fun s45 wr => ∃ y : Nat, y ≤ m ∧ s45 = .int .i64 (y : Int) ∧ Hid (∀ y', y' < y → r x y' = far (f x) (f y') k) ∧ ∃ z, Hid (wr = w1.drewN z)) (fun s45 _ => m - (intOf s45).toNat)
            case atStart => exact ⟨0, by omega, rfl, (fun y h => by omega), z, rfl⟩
            case round =>
              obtain ⟨y, hy, rfl, hq, z2, hw⟩ := hrel
              rw [hw.out]
              clear hw
              by_cases hym : y < m
              · have g3 : (y : Int) < (m : Int) := by omega
                have g4 : (0 : Int) ≤ (y : Int) := by omega
                have k4 := HC3.out y hym
                obtain ⟨fy, hfy⟩ : ∃ fy, Hid (fy = f y) := ⟨_, rfl⟩
                rw [← hfy.out] at k4
                have HN : Hid (r x y = far fx fy k → ∀ y', y' < y + 1 → r x y' = far (f x) (f y') k) := fun h y' hy' => by
                  by_cases e : y' = y
                  · subst e; rw [← hfx.out, ← hfy.out]; exact h
                  · exact hq.out y' (by omega)
                have HX : Hid (¬ r x y = far fx fy k → ¬ RepB m ln r m f k) := fun h h2 => h (by rw [hfx.out, hfy.out]; exact h2.rep.rel x y hxm hym)
                have HHA : Hid (∀ q, Calls Tryd.prog 66 #[.pointer (some ⟨B, 0, none⟩), .int .i64 (x : Int), .int .i64 (y : Int)] (w1.drewN q) fun e w' => e = .returned (.bool (r x y)) ∧ w' = w1.drewN q) := fun q => has_any B m x y r _ hn12 hxm hym (HO.out.dr q)
                have hf : Hid (far fx fy k = (decide (fx < fy) && decide (IntKind.u64.wrap k < IntKind.u64.wrap (IntKind.u64.wrap fy - IntKind.u64.wrap fx)))) := rfl
                generalize r x y = u1 at *
                generalize far fx fy k = u2 at *
                have FIN : Hid (∀ t : Bool, u2 = t → ((t = u1 → (∀ y', y' < y + 1 → r x y' = far (f x) (f y') k)) ∧ (t ≠ u1 → ¬ RepB m ln r m f k))) := fun t ht => by
                  subst ht
                  exact ⟨fun e => HN.out e.symm, fun e => HX.out fun e2 => e e2.symm⟩
                clear HN HX
                generalize hz : IntKind.u64.wrap (IntKind.u64.wrap fy - IntKind.u64.wrap fx) = zz at *
                generalize hkz : IntKind.u64.wrap k = kz at *
                obtain ⟨t, ht⟩ : ∃ t : Bool, Hid (t = (decide (fx < fy) && decide (kz < zz))) := ⟨_, rfl⟩
                have FIN2 := Lib.hid (FIN.out t (hf.out.trans ht.out.symm))
                clear FIN hf
                by_cases h1 : fx < fy
                · have q4 : decide (fx < fy) = true := by simpa using h1
                  by_cases h2 : kz < zz
                  · have q5 : decide (kz < zz) = true := by simpa using h2
                    have HT1 : Hid (t = true) := by rw [ht.out, q4, q5]; rfl
                    cases u1
                    · have HXX := Lib.hid (FIN2.out.2 (by rw [HT1.out]; decide))
                      clear FIN2 ht
                      go_wp2
                      go_quiet (fail)
                      go_wp2_with (go_at_call 66; refine (HHA.out _).mono ?_; rintro e w6 ⟨rfl, hw6⟩; subst hw6)
                      go_ret
                      exact ⟨BoolP.no HXX.out, below_dr HB1.out _⟩
                    · have HNN := Lib.hid (FIN2.out.1 HT1.out)
                      clear FIN2 ht
                      go_wp2
                      go_quiet (fail)
                      go_wp2_with (go_at_call 66; refine (HHA.out _).mono ?_; rintro e w6 ⟨rfl, hw6⟩; subst hw6)
                      exact ⟨⟨y + 1, by omega, int_eq (by omega), HNN, _, rfl⟩, by simp [intOf]; omega⟩
                  · have q5 : decide (kz < zz) = false := by simpa using h2
                    have HT1 : Hid (t = false) := by rw [ht.out, q4, q5]; rfl
                    cases u1
                    · have HNN := Lib.hid (FIN2.out.1 HT1.out)
                      clear FIN2 ht
                      go_wp2
                      go_quiet (fail)
                      go_wp2_with (go_at_call 66; refine (HHA.out _).mono ?_; rintro e w6 ⟨rfl, hw6⟩; subst hw6)
                      exact ⟨⟨y + 1, by omega, int_eq (by omega), HNN, _, rfl⟩, by simp [intOf]; omega⟩
                    · have HXX := Lib.hid (FIN2.out.2 (by rw [HT1.out]; decide))
                      clear FIN2 ht
                      go_wp2
                      go_quiet (fail)
                      go_wp2_with (go_at_call 66; refine (HHA.out _).mono ?_; rintro e w6 ⟨rfl, hw6⟩; subst hw6)
                      go_ret
                      exact ⟨BoolP.no HXX.out, below_dr HB1.out _⟩
                · have q4 : decide (fx < fy) = false := by simpa using h1
                  have HT1 : Hid (t = false) := by rw [ht.out, q4]; rfl
                  cases u1
                  · have HNN := Lib.hid (FIN2.out.1 HT1.out)
                    clear FIN2 ht
                    go_wp2
                    go_quiet (fail)
                    go_wp2_with (go_at_call 66; refine (HHA.out _).mono ?_; rintro e w6 ⟨rfl, hw6⟩; subst hw6)
                    exact ⟨⟨y + 1, by omega, int_eq (by omega), HNN, _, rfl⟩, by simp [intOf]; omega⟩
                  · have HXX := Lib.hid (FIN2.out.2 (by rw [HT1.out]; decide))
                    clear FIN2 ht
                    go_wp2
                    go_quiet (fail)
                    go_wp2_with (go_at_call 66; refine (HHA.out _).mono ?_; rintro e w6 ⟨rfl, hw6⟩; subst hw6)
                    go_ret
                    exact ⟨BoolP.no HXX.out, below_dr HB1.out _⟩
              · have g3 : ¬ (y : Int) < (m : Int) := by omega
                obtain rfl : m = y := by omega
                have HNN : Hid (∀ x' y, x' < x + 1 → y < m → r x' y = far (f x') (f y) k) := fun x' y hx' hy' => by
                  by_cases e : x' = x
                  · subst e; exact hq.out y hy'
                  · exact hp.out x' y (by omega) hy'
                go_wp2
                exact ⟨⟨x + 1, by omega, int_eq (by omega), HNN, _, rfl⟩, by simp [intOf]; omega⟩
          · have g1 : ¬ (x : Int) < (m : Int) := by omega
            obtain rfl : m = x := by omega
            have HY : Hid (RepB m ln r m f k) := ⟨HOK.out, rfl, HK.out, fun x y hx hy => hp.out x y hx hy⟩
            go_wp2
            go_ret
            exact ⟨BoolP.yes HY.out, below_dr HB1.out _⟩
      · have q3 : k < 0 := by omega
        have HNO : Hid (¬ RepB m ln r m f k) := fun h => hk h.rep.pos
        go_wp2
        go_ret
        exact ⟨BoolP.no HNO.out, HB1.out⟩
    · have q1 : ((m : Int) != (n : Int)) = true := by rw [bne_iff_ne]; omega
      have HNO : Hid (¬ RepB n ln r m f k) := fun h => hmn h.rep.len
      clear hmn
      go_wp2
      go_ret
      exact ⟨BoolP.no HNO.out, HB1.out⟩
end Go.Proofs.YtgpijajgaclhfaaDoor
namespace Go.Proofs.YtgpijajgaclhfaaDoor
open Go.RowKit Go.Shelf

theorem far_nat {x y k : Nat} (hx : x < 4611686018427387904) (hy : y < 4611686018427387904) (hk : k < 4611686018427387904) : far (x : Int) (y : Int) (k : Int) = decide (x + k < y) := by
  unfold far
  rw [u64_same k (by omega), u64_same x (by omega), u64_same y (by omega)]
  by_cases h : x < y
  · have h1 : ((y : Int) - (x : Int)) = ((y - x : Nat) : Int) := by omega
    rw [h1, u64_same _ (by omega)]
    have h2 : decide ((x : Int) < (y : Int)) = true := by simpa using h
    rw [h2, Bool.true_and]
    by_cases h3 : x + k < y
    · rw [decide_eq_true h3, decide_eq_true_iff]; omega
    · rw [decide_eq_false h3, decide_eq_false_iff_not]; omega
  · have h2 : decide ((x : Int) < (y : Int)) = false := by simpa using h
    rw [h2, Bool.false_and, decide_eq_false (by omega)]
/-- the order that positions make -/
def posR (f : Nat → Nat) (k : Nat) (i j : Nat) : Bool := decide (f i + k < f j)
theorem posR_tab {m : Nat} (f : Nat → Nat) (k : Nat) (h1 : 1 ≤ m) (h12 : m ≤ 12) : TabOK m (fun _ => m) (posR f k) :=
  ⟨h1, h12, fun _ _ => rfl, ⟨fun x _ => by unfold posR; simp, fun x y z _ _ _ h1 h2 => by unfold posR at *; simp at *; omega⟩⟩
theorem posR_rep {m k : Nat} {f : Nat → Nat} (hf : ∀ j, j < m → f j < 30) (hk : k < 30) : RepA m m (posR f k) (fun j => (f j : Int)) (k : Int) :=
  ⟨rfl, by omega, fun x y hx hy => by rw [far_nat (by have := hf x hx; omega) (by have := hf y hy; omega) (by omega)]; rfl⟩
theorem judge22 (p : Option Addr) (k c : Nat) (R : Nat → Nat → Bool) (x0 x1 x2 x3 : Int) (hk : TabOK k (fun _ => k) R) : ∃ t : Bool, ∀ W, TblI W p k (fun _ => k) R →
    (Calls Tryd.prog 29 #[.slice p k c, .agg #[.int .i64 x0, .int .i64 x1, .int .i64 x2, .int .i64 x3]] W fun e w' => e = .returned (.bool t) ∧ Below W.heap.size W w') ∧
    (Calls Tryd.prog 28 #[.slice p k c, .agg #[.int .i64 x0, .int .i64 x1, .int .i64 x2, .int .i64 x3]] W fun e w' => e = .returned (.bool t) ∧ Below W.heap.size W w') := by
  obtain ⟨t, ht⟩ := boolOf (In4 k x0 x1 x2 x3 ∧ TwoTwo k R x0.toNat x1.toNat x2.toNat x3.toNat)
  refine ⟨t, fun W hW => ⟨(IsTwoTwo_any p k c _ R x0 x1 x2 x3 W (by have := hk.n12; omega) hW).mono fun e w' h => ⟨h.1.dec (b := t) (ht.trans ⟨fun h => ⟨hk, h⟩, fun h => h.2⟩), h.2⟩, (rTT_any p k c R x0 x1 x2 x3 W (by have := hk.n12; omega) hW).mono fun e w' h => ⟨h.1.dec (b := t) ht, h.2⟩⟩⟩
theorem judge31 (p : Option Addr) (k c : Nat) (R : Nat → Nat → Bool) (x0 x1 x2 x3 : Int) (hk : TabOK k (fun _ => k) R) : ∃ t : Bool, ∀ W, TblI W p k (fun _ => k) R →
    (Calls Tryd.prog 40 #[.slice p k c, .agg #[.int .i64 x0, .int .i64 x1, .int .i64 x2, .int .i64 x3]] W fun e w' => e = .returned (.bool t) ∧ Below W.heap.size W w') ∧
    (Calls Tryd.prog 41 #[.slice p k c, .agg #[.int .i64 x0, .int .i64 x1, .int .i64 x2, .int .i64 x3]] W fun e w' => e = .returned (.bool t) ∧ Below W.heap.size W w') := by
  obtain ⟨t, ht⟩ := boolOf (In4 k x0 x1 x2 x3 ∧ ThreeOne k R x0.toNat x1.toNat x2.toNat x3.toNat)
  refine ⟨t, fun W hW => ⟨(IsThreeOne_any p k c _ R x0 x1 x2 x3 W (by have := hk.n12; omega) hW).mono fun e w' h => ⟨h.1.dec (b := t) (ht.trans ⟨fun h => ⟨hk, h⟩, fun h => h.2⟩), h.2⟩, (rTO_any p k c R x0 x1 x2 x3 W (by have := hk.n12; omega) hW).mono fun e w' h => ⟨h.1.dec (b := t) ht, h.2⟩⟩⟩
theorem judgeR (p q : Option Addr) (k c m d : Nat) (R : Nat → Nat → Bool) (f : Nat → Int) (z : Int) (hk : TabOK k (fun _ => k) R) : ∃ t : Bool, (t = true ↔ RepA m k R f z) ∧ ∀ W, TblI W p k (fun _ => k) R → SrcI W q m f →
    (Calls Tryd.prog 42 #[.slice p k c, .slice q m d, .int .i64 z] W fun e w' => e = .returned (.bool t) ∧ Below W.heap.size W w') ∧
    (Calls Tryd.prog 43 #[.slice p k c, .slice q m d, .int .i64 z] W fun e w' => e = .returned (.bool t) ∧ Below W.heap.size W w') := by
  obtain ⟨t, ht⟩ := boolOf (RepA m k R f z)
  refine ⟨t, ht, fun W hW hS => ⟨(pRep_any p q k c m d _ R f z W (by have := hk.n12; omega) hW hS).mono fun e w' h => ⟨h.1.dec (b := t) (ht.trans ⟨fun h => ⟨hk, h⟩, fun h => h.rep⟩), h.2⟩, (rRep_any p q k c m d R f z W (by have := hk.n12; omega) hW hS).mono fun e w' h => ⟨h.1.dec (b := t) ht, ?_⟩⟩⟩
  obtain ⟨z, rfl⟩ := h.2
  exact below_dr (Below.refl _ _) z
/-- a table of an order lies where there is no row of numbers -/
theorem TblI.keep {w W : World} {p : Option Addr} {k bx : Nat} {R : Nat → Nat → Bool} {x0 x1 x2 x3 : Int} (h : TblI w p k (fun _ => k) R) (hb : BoxN w bx 45 #[.int .i64 x0, .int .i64 x1, .int .i64 x2, .int .i64 x3]) (hs : w.heap.size ≤ W.heap.size) (hK : ∀ b, b < w.heap.size → b ≠ bx → W.heap[b]? = w.heap[b]?) : TblI W p k (fun _ => k) R := fun h0 => by
  obtain ⟨b, o, e, h1, h2⟩ := h h0
  have hsl : ∀ {i : Nat} {v : Value}, w.cell? ⟨bx, i, none⟩ = some v → ∃ z, v = .int .i64 z := fun {i v} hv => by
    rw [hb.cell] at hv
    have hi : i < 4 := by
      have := (Array.getElem?_eq_some_iff.1 hv).1
      simpa using this
    rcases (show i = 0 ∨ i = 1 ∨ i = 2 ∨ i = 3 by omega) with rfl | rfl | rfl | rfl
    · exact ⟨x0, (Option.some.inj hv).symm⟩
    · exact ⟨x1, (Option.some.inj hv).symm⟩
    · exact ⟨x2, (Option.some.inj hv).symm⟩
    · exact ⟨x3, (Option.some.inj hv).symm⟩
  have hbb : b ≠ bx := fun e2 => by
    obtain ⟨q, c, h3, _⟩ := h2 0 (by omega)
    rw [e2] at h3
    obtain ⟨z, hz⟩ := hsl h3
    cases hz
  refine ⟨b, o, e, by omega, fun i hi => ?_⟩
  obtain ⟨q, c, h3, h4⟩ := h2 i hi
  refine ⟨q, c, (World.cell?_of_block (hK b h1 hbb)).trans h3, fun h5 => ?_⟩
  obtain ⟨b2, o2, e2, h6, h7⟩ := h4 h5
  have hb2 : b2 ≠ bx := fun e3 => by
    have := h7 0 (by show 0 < k; omega)
    rw [e3] at this
    obtain ⟨z, hz⟩ := hsl this
    cases hz
  exact ⟨b2, o2, e2, by omega, fun j hj => (World.cell?_of_block (hK b2 h6 hb2)).trans (h7 j hj)⟩
theorem QRow.shorter {W : World} {base : Nat} {p : Option Addr} {m c k : Nat} {f : Nat → Int} (h : QRow W base 3 1 (.slice p m c) m (ivI f m)) (hk : k ≤ m) : QRow W base 3 1 (.slice p k c) k (ivI f k) := by
  rcases h.2 with ⟨e, h0⟩ | ⟨g, o, cap, cur, e, h1, h2, h3, h4, h5, h6⟩
  · cases e
    obtain rfl : k = 0 := by omega
    exact QRow.nil _ _ _ _
  · cases e
    refine ⟨by rw [ivI_len]; omega, .inr ⟨g, o, c, cur, rfl, h1, h2, by omega, h4, h5, fun j hj => ?_⟩⟩
    rw [h6 j (by omega), ivI_get _ _ _ (by omega), ivI_get _ _ _ (by omega)]
theorem ivI_congr {f g : Nat → Int} {m : Nat} (h : ∀ j, j < m → f j = g j) : ivI f m = ivI g m := by
  unfold ivI
  exact List.map_congr_left fun j hj => by rw [h j (List.mem_range.1 hj)]
theorem ivI_snoc (f : Nat → Int) (m : Nat) (z : Int) : ivI f m ++ [.int .i64 z] = ivI (fun j => if j = m then z else f j) (m + 1) := by
  unfold ivI
  rw [List.range_succ, List.map_append]
  congr 1
  · exact List.map_congr_left fun j hj => by
      show _ = Value.int .i64 (if j = m then z else f j)
      rw [if_neg (by have := List.mem_range.1 hj; omega)]
  · simp
end Go.Proofs.YtgpijajgaclhfaaDoor
namespace Go.Proofs.YtgpijajgaclhfaaDoor
open Go.ChangeShapes Go.WideShapes Go.ChangeAt Go.RowKit

theorem cells45 : Tryd.prog.cellsOf 45 = 4 := by kernel_rfl
set_option maxRecDepth 100000 in
theorem open_four {H : Type} {enc : TypeId × Value → H} {W : World} {v : Value} {d : DataW H} {p : List MemPlace} {r : Reach} {base : Nat} (hv : Value.okWide Tryd.prog W r base 45 v)
    (h : ∃ fuel, DataW.trod enc Tryd.prog W 0 (fun _ => true) true fuel 45 v.cells.toList = some (d, p)) : ∃ (x y z t : Int), v = .agg #[.int .i64 x, .int .i64 y, .int .i64 z, .int .i64 t] := by
  simp only [Value.okWide, under45] at hv
  obtain ⟨cs, rfl, hsz, _⟩ := hv
  rw [cells45] at hsz
  obtain ⟨fuel, hf⟩ := h
  obtain ⟨xs, n, _, _, hl, hlen, hx⟩ := DataW.trod_array under45 hf
  obtain ⟨l, rfl⟩ : ∃ l : List Value, cs = l.toArray := ⟨cs.toList, by simp⟩
  match xs, hlen, l, hsz with
  | [y0, y1, y2, y3], _, [v0, v1, v2, v3], _ =>
    have g0 := hx 0 (by omega)
    have g1 := hx 1 (by omega)
    have g2 := hx 2 (by omega)
    have g3 := hx 3 (by omega)
    simp [cells3, Value.cells] at g0 g1 g2 g3
    obtain ⟨n0, e0, _⟩ := DataW.trod_int Tryd.underlying3 g0
    obtain ⟨n1, e1, _⟩ := DataW.trod_int Tryd.underlying3 g1
    obtain ⟨n2, e2, _⟩ := DataW.trod_int Tryd.underlying3 g2
    obtain ⟨n3, e3, _⟩ := DataW.trod_int Tryd.underlying3 g3
    simp at e0 e1 e2 e3
    exact ⟨n0, n1, n2, n3, by rw [e0, e1, e2, e3]⟩
end Go.Proofs.YtgpijajgaclhfaaDoor
namespace Go.Proofs.YtgpijajgaclhfaaDoor
open Go.RowKit Go.Shelf

/-- what holds between two rounds -/
structure Jg (w w1 wr : World) (bx : Nat) (pa : Option Addr) (m c : Nat) (f : Nat → Int) : Prop where
  box : ∃ x0 x1 x2 x3 : Int, BoxN wr bx 45 #[.int .i64 x0, .int .i64 x1, .int .i64 x2, .int .i64 x3]
  q : QRow wr w1.heap.size 3 1 (.slice pa m c) m (ivI f m)
  keep : ∀ b, b < w1.heap.size → b ≠ bx → wr.heap[b]? = w1.heap[b]?
  bl : Below w.heap.size w wr
  size : w1.heap.size ≤ wr.heap.size
  wle : w.heap.size ≤ w1.heap.size
theorem Jg.below {w w1 V W : World} {bx : Nat} {pa : Option Addr} {m c : Nat} {f : Nat → Int} (h : Jg w w1 V bx pa m c f) (hB : Below V.heap.size V W) : Jg w w1 W bx pa m c f := by
  obtain ⟨x0, x1, x2, x3, hx⟩ := h.box
  exact ⟨⟨x0, x1, x2, x3, hx.below hB hx.lt⟩, h.q.below hB (fun k e => (h.q.lt k e).2), fun b hb hn => (hB.block b (Nat.lt_of_lt_of_le hb h.size)).trans (h.keep b hb hn), h.bl.trans (hB.mono h.bl.size), Nat.le_trans h.size hB.size, h.wle⟩
/-- four integers in a box -/
def b4 (g : Nat → Int) : Array Value := #[.int .i64 (g 0), .int .i64 (g 1), .int .i64 (g 2), .int .i64 (g 3)]
def upd (g : Nat → Int) (i : Nat) (v : Int) (j : Nat) : Int := if j = i then v else g j
theorem b4_set {W : World} {bx : Nat} {g : Nat → Int} (h : BoxN W bx 45 (b4 g)) {i : Nat} (hi : i < 4) (v : Int) : BoxN (W.setCell ⟨bx, i, none⟩ (.int .i64 v)) bx 45 (b4 (upd g i v)) := by
  have h2 := h.set i (.int .i64 v)
  rcases (show i = 0 ∨ i = 1 ∨ i = 2 ∨ i = 3 by omega) with rfl | rfl | rfl | rfl <;> exact h2
theorem b4_cell {W : World} {bx : Nat} {g : Nat → Int} (h : BoxN W bx 45 (b4 g)) {i : Nat} (hi : i < 4) : W.cell? ⟨bx, i, none⟩ = some (.int .i64 (g i)) := by
  rw [h.cell]
  rcases (show i = 0 ∨ i = 1 ∨ i = 2 ∨ i = 3 by omega) with rfl | rfl | rfl | rfl <;> rfl
theorem Jg.setX {w w1 V : World} {bx : Nat} {pa : Option Addr} {m c : Nat} {f : Nat → Int} (h : Jg w w1 V bx pa m c f) {g : Nat → Int} (hb : BoxN V bx 45 (b4 g)) (hbx : w.heap.size ≤ bx) (hb1 : bx < w1.heap.size) {i : Nat} (hi : i < 4) (v : Int) : Jg w w1 (V.setCell ⟨bx, i, none⟩ (.int .i64 v)) bx pa m c f := by
  have hA : Ag (· = bx) V (V.setCell ⟨bx, i, none⟩ (.int .i64 v)) := (Ag.refl _ V).set ⟨bx, i, none⟩ _ (.inr rfl)
  exact ⟨⟨_, _, _, _, b4_set hb hi v⟩, h.q.other (fun kk e h2 => by have := (h.q.lt kk e).1; have h3 : kk = bx := h2; omega) _, fun b hb hn => (hA.block b (Nat.lt_of_lt_of_le hb h.size) hn).trans (h.keep b hb hn), h.bl.setCell (p := ⟨bx, i, none⟩) hbx _, Nat.le_trans h.size hA.size, h.wle⟩
theorem Jg.putA {w w1 V : World} {bx g o : Nat} {m c k : Nat} {f : Nat → Int} (h : Jg w w1 V bx (some ⟨g, o, none⟩) m c f) (hb1 : bx < w1.heap.size) (hk : k < m) (v : Int) : Jg w w1 (V.setCell ⟨g, o + k, none⟩ (.int .i64 v)) bx (some ⟨g, o, none⟩) m c (upd f k v) := by
  have hl := (h.q.lt g rfl).1
  have hA : Ag (· = g) V (V.setCell ⟨g, o + k, none⟩ (.int .i64 v)) := (Ag.refl _ V).set ⟨g, o + k, none⟩ _ (.inr rfl)
  obtain ⟨x0, x1, x2, x3, hx⟩ := h.box
  exact ⟨⟨x0, x1, x2, x3, hA.boxN hx (by omega)⟩, (h.q.put hk v).2, fun b hb hn => (hA.block b (Nat.lt_of_lt_of_le hb h.size) (by omega)).trans (h.keep b hb hn), h.bl.setCell (p := ⟨g, o + k, none⟩) (by show w.heap.size ≤ g; have hw := h.wle; omega) _, Nat.le_trans h.size hA.size, h.wle⟩
theorem Jg.shorter {w w1 V : World} {bx : Nat} {pa : Option Addr} {m c k : Nat} {f : Nat → Int} (h : Jg w w1 V bx pa m c f) (hk : k ≤ m) : Jg w w1 V bx pa k c f := ⟨h.box, h.q.shorter hk, h.keep, h.bl, h.size, h.wle⟩
theorem Jg.congr {w w1 V : World} {bx : Nat} {pa : Option Addr} {m c : Nat} {f g : Nat → Int} (h : Jg w w1 V bx pa m c f) (e : ∀ j, j < m → f j = g j) : Jg w w1 V bx pa m c g := ⟨h.box, by rw [← ivI_congr e]; exact h.q, h.keep, h.bl, h.size, h.wle⟩
theorem Jg.push {w w1 V W : World} {bx : Nat} {pa : Option Addr} {m c : Nat} {f : Nat → Int} {v : Value} {z : Int} (h : Jg w w1 V bx pa m c f) (hb1 : bx < w1.heap.size) (hB : Below w1.heap.size V W) (hq : QRow W w1.heap.size 3 1 v (m + 1) (ivI f m ++ [.int .i64 z])) : ∃ pa' c', v = .slice pa' (m + 1) c' ∧ Jg w w1 W bx pa' (m + 1) c' (fun j => if j = m then z else f j) := by
  obtain ⟨pa', c', rfl⟩ := hq.isSlice
  rw [ivI_snoc] at hq
  obtain ⟨x0, x1, x2, x3, hx⟩ := h.box
  exact ⟨pa', c', rfl, ⟨x0, x1, x2, x3, hx.below hB hb1⟩, hq, fun b hb hn => (hB.block b hb).trans (h.keep b hb hn), h.bl.trans (hB.mono h.wle), Nat.le_trans h.size hB.size, h.wle⟩
set_option maxRecDepth 100000 in
set_option maxHeartbeats 8000000 in
theorem law9 (a : Option Addr) (n cap : Nat) (ln : Nat → Nat) (r : Nat → Nat → Bool) (y0 y1 y2 y3 : Int) (a2 : Option Addr) (cap2 : Nat) (xs : List Int) (w : World) (hP : TabIn w a n cap ln r) (hP2 : IntsIn w a2 cap2 xs) (hT : Tab w) :
    Calls Tryd.prog 9 #[.slice a n cap, .agg #[.int .i64 y0, .int .i64 y1, .int .i64 y2, .int .i64 y3], .slice a2 xs.length cap2] w fun e w' => e = .returned (.bool true) ∧ Below w.heap.size w w' := by
  obtain ⟨i0, hi0, hz0, hz1, hz2⟩ := info_parts info3
  obtain ⟨i4, hi4, hx0, hx1', hx2⟩ := info_parts info4
  obtain ⟨i60, hi60, hy0, hy1, hy2⟩ := info_parts info60
  have HB0 : Hid (Below w.heap.size w (w.alloc (.cells #[.int .i64 y0, .int .i64 y1, .int .i64 y2, .int .i64 y3] 45))) := (Below.refl _ _).alloc (Nat.le_refl _) _
  have HX0 : Hid (BoxN (w.alloc (.cells #[.int .i64 y0, .int .i64 y1, .int .i64 y2, .int .i64 y3] 45)) w.heap.size 45 #[.int .i64 y0, .int .i64 y1, .int .i64 y2, .int .i64 y3]) := BoxN.new rfl
  have HTM := Lib.hid (tame_any a n cap ln r _ (hP.below HB0.out (Nat.le_refl _)))
  have HLS : Hid (∀ W, Below w.heap.size w W → Calls Tryd.prog 36 #[.slice a2 xs.length cap2] W fun e w' => ∃ v, e = .returned v ∧ QRow w' W.heap.size 3 1 v (min xs.length 20) (ivI (fun j => xs[j]?.getD 0) (min xs.length 20)) ∧ Below W.heap.size W w') := fun W hW => list_any a2 cap2 xs W ⟨hP2.g.below hW (Nat.le_refl _), hP2.fits, hP2.capm, hP2.nil⟩
  have HT := Lib.hid hT
  clear hP hP2 hT
  obtain ⟨m0, hm0⟩ : ∃ m0, Hid (m0 = min xs.length 20) := ⟨_, rfl⟩
  rw [← hm0.out] at HLS
  have hm020 : m0 ≤ 20 := by rw [hm0.out]; exact Nat.min_le_right _ _
  obtain ⟨len, hlen⟩ : ∃ len, Hid (len = xs.length) := ⟨_, rfl⟩
  rw [← hlen.out] at HLS ⊢
  clear hm0 hlen
  go_enter Tryd.func9, Tryd.ntmps9
  go_upto_region 1 with (fail)
  obtain ⟨bx, hbx⟩ : ∃ bx, Hid (bx = w.heap.size) := ⟨_, rfl⟩
  rw [← hbx.out] at HX0
  simp only [← hbx.out]
  generalize w.alloc (.cells #[.int .i64 y0, .int .i64 y1, .int .i64 y2, .int .i64 y3] 45) = X at *
  have hbX := HX0.out.lt
  have hwX : w.heap.size ≤ X.heap.size := HB0.out.size
  go_upto_region 2 with (go_at_call 22; refine HTM.out.mono ?_; rintro e w1 ⟨p, k, c, R, rfl, hT1, hok, hB1⟩; have HT1 := Lib.hid hT1; have HOK := Lib.hid hok; have HX1 := Lib.hid (HX0.out.below hB1 hbX); have HB1 := Lib.hid (HB0.out.trans (hB1.mono hwX)); clear hT1 hok hB1)
  clear HTM
  have hk12 := HOK.out.n12
  have hk1 := HOK.out.n1
  have HL1 := Lib.hid (HLS.out w1 HB1.out)
  have hbw1 := HX1.out.lt
  go_upto_region 4 with (go_at_call 36; refine HL1.out.mono ?_; rintro e w2 ⟨v2, rfl, hq2, hB2⟩; obtain ⟨pa2, c2, rfl⟩ := hq2.isSlice; have HJ0 : Hid (Jg w w1 w2 bx pa2 m0 c2 (fun j => xs[j]?.getD 0)) := ⟨⟨_, _, _, _, HX1.out.below hB2 hbw1⟩, hq2, fun b hb _ => hB2.block b hb, HB1.out.trans (hB2.mono HB1.out.size), hB2.size, HB1.out.size⟩; clear hq2 hB2)
  clear HLS HL1
  have HTB : Hid (∀ wr pa m c f, Jg w w1 wr bx pa m c f → TblI wr p k (fun _ => k) R) := fun wr pa m c f h => HT1.out.keep HX1.out h.size h.keep
  go_loopw [8, 9] (fun s8 s9 wr => ∃ (i m c : Nat) (pa : Option Addr) (f : Nat → Int), i ≤ 2 ∧ s9 = .int .i64 (i : Int) ∧ s8 = .slice pa m c ∧ m ≤ 20 ∧ Hid (Jg w w1 wr bx pa m c f)) (fun _ s9 _ => 2 - (intOf s9).toNat)
  case atStart => exact ⟨0, m0, c2, pa2, _, by omega, rfl, rfl, hm020, HJ0⟩
  case round =>
    obtain ⟨i, m, c', pa, f, hi, rfl, rfl, hm20, hJ⟩ := hrel
    clear HJ0
    by_cases hi2 : i < 2
    · have g1 : (i : Int) < 2 := by omega
      -- the last number
      have key : ∀ (m' : Nat) (z : Int), m' ≤ 20 → True := fun _ _ _ => trivial
      clear key
      by_cases hm0 : m = 0
      · subst hm0
        have q1 : ¬ (0 : Int) < ((0 : Nat) : Int) := by omega
        go_upto_region 10 with (fail)
        have HJ2 : Hid (Jg w w1 wr bx pa 0 c' f) := hJ.out.shorter (by omega)
        obtain ⟨x0, x1, x2, x3, hbox⟩ := HJ2.out.box
        have hblt := hbox.lt
        obtain ⟨t2, h22⟩ := judge22 p k c R x0 x1 x2 x3 HOK.out
        obtain ⟨t3, h31⟩ := judge31 p k c R x0 x1 x2 x3 HOK.out
        obtain ⟨t4, _, h4⟩ := judgeR p pa k c 0 c' R f 0 HOK.out
        have HTR := Lib.hid (HTB.out wr _ _ _ _ HJ2.out)
        have HSR : Hid (SrcI wr pa 0 f) := HJ2.out.q.srcI (ivI_get f 0)
        have bwq : ∀ {fn : FuncId} {args : Array Value} {tt : Bool} (D : BW wr.heap.size wr), (Calls Tryd.prog fn args D.w fun e w' => e = .returned (.bool tt) ∧ Below D.w.heap.size D.w w') → Calls Tryd.prog fn args D.w fun e w' => e = .returned (.bool tt) ∧ ∃ d' : BW wr.heap.size wr, w' = d'.w := fun D h => Calls.bw (h.mono fun e w' h => ⟨h.1, D.b.trans (h.2.mono D.b.size)⟩)
        have E29 := Lib.hid (fun D : BW wr.heap.size wr => bwq D (h22 D.w (HTR.out.below D.b (Nat.le_refl _))).1)
        have E28 := Lib.hid (fun D : BW wr.heap.size wr => bwq D (h22 D.w (HTR.out.below D.b (Nat.le_refl _))).2)
        have E40 := Lib.hid (fun D : BW wr.heap.size wr => bwq D (h31 D.w (HTR.out.below D.b (Nat.le_refl _))).1)
        have E41 := Lib.hid (fun D : BW wr.heap.size wr => bwq D (h31 D.w (HTR.out.below D.b (Nat.le_refl _))).2)
        have E42 := Lib.hid (fun D : BW wr.heap.size wr => bwq D (h4 D.w (HTR.out.below D.b (Nat.le_refl _)) (HSR.out.below D.b (Nat.le_refl _))).1)
        have E43 := Lib.hid (fun D : BW wr.heap.size wr => bwq D (h4 D.w (HTR.out.below D.b (Nat.le_refl _)) (HSR.out.below D.b (Nat.le_refl _))).2)
        clear h22 h31 h4 bwq
        have r0 : ∀ D : BW wr.heap.size wr, D.w.cell? ⟨bx, 0, none⟩ = some (.int .i64 x0) := fun D => (D.b.cell (p := ⟨bx, 0, none⟩) hblt).trans (by rw [hbox.cell]; rfl)
        have r1 : ∀ D : BW wr.heap.size wr, D.w.cell? ⟨bx, 1, none⟩ = some (.int .i64 x1) := fun D => (D.b.cell (p := ⟨bx, 1, none⟩) hblt).trans (by rw [hbox.cell]; rfl)
        have r2 : ∀ D : BW wr.heap.size wr, D.w.cell? ⟨bx, 2, none⟩ = some (.int .i64 x2) := fun D => (D.b.cell (p := ⟨bx, 2, none⟩) hblt).trans (by rw [hbox.cell]; rfl)
        have r3 : ∀ D : BW wr.heap.size wr, D.w.cell? ⟨bx, 3, none⟩ = some (.int .i64 x3) := fun D => (D.b.cell (p := ⟨bx, 3, none⟩) hblt).trans (by rw [hbox.cell]; rfl)
        have q2 : (!t2 == t2) = false := by cases t2 <;> rfl
        have q3 : (!t3 == t3) = false := by cases t3 <;> rfl
        have q4 : (!t4 == t4) = false := by cases t4 <;> rfl
        have p2 : (t2 != t2) = false := by simp
        have p3 : (t3 != t3) = false := by simp
        have p4 : (t4 != t4) = false := by simp
        have HBOX : Hid (BoxN wr bx 45 (b4 (at4 x0 x1 x2 x3))) := hbox
        clear hbox
        try simp only [List.append]
        refine wp_region_bw (by kernel_rfl) (by kernel_rfl) ?_
        repeat (go_big_quiet_step ((first
          | rfl
          | (go_at_call 29; exact E29.out _)
          | (go_at_call 28; exact E28.out _)
          | (go_at_call 40; exact E40.out _)
          | (go_at_call 41; exact E41.out _)
          | (go_at_call 42; exact E42.out _)
          | (go_at_call 43; exact E43.out _))))
        refine wpQuiet_nil ?_
        rintro _ ⟨d, rfl⟩
        clear E29 E28 E40 E41 E42 E43 r0 r1 r2 r3 HTR HSR
        have HJ3 := Lib.hid (HJ2.out.below d.b)
        have HBX3 := Lib.hid (HBOX.out.below d.b hblt)
        clear HJ2 HBOX hJ
        generalize d.w = V at *
        go_upto_region 13 with (fail)
        clear q2 q3 q4 p2 p3 p4
        have hbxw : w.heap.size ≤ bx := by rw [hbx.out]; omega
        go_loopw [11] (fun s11 wr => ∃ (j : Nat) (g : Nat → Int), j ≤ 4 ∧ s11 = .int .i64 (j : Int) ∧ Hid (BoxN wr bx 45 (b4 g)) ∧ Hid (Jg w w1 wr bx pa 0 c' f)) (fun s11 _ => 4 - (intOf s11).toNat)
        case atStart => exact ⟨0, _, by omega, rfl, HBX3, HJ3⟩
        case round =>
          clear HBX3 HJ3
          obtain ⟨j, g, hj, rfl, hbox, hJ⟩ := hrel
          by_cases hj4 : j < 4
          · have g5 : (j : Int) < 4 := by omega
            have g4 : (0 : Int) ≤ (j : Int) := by omega
            have k1 := b4_cell hbox.out hj4
            have k2 := hbox.out.frozen j
            have hum := um_eq (g j) k
            have hlt := um_lt (g j) (m := k) (by omega)
            have HB5 := Lib.hid (b4_set hbox.out hj4 ((um (g j) k : Nat) : Int))
            have HJ5 := Lib.hid (hJ.out.setX hbox.out hbxw hbw1 hj4 ((um (g j) k : Nat) : Int))
            generalize g j = gj at *
            generalize um gj k = uu at *
            have z1 : IntKind.u64.wrap (k : Int) = (k : Int) := u64_same _ (by omega)
            have z3 : ((k : Int) == 0) = false := by rw [beq_eq_false_iff_ne]; omega
            have z2 : IntKind.i64.wrap (uu : Int) = (uu : Int) := IntWalk.i64_in _ (by omega)
            clear hbox hJ
            go_wp2
            exact ⟨⟨j + 1, _, by omega, int_eq (by omega), HB5, HJ5⟩, by simp [intOf]; omega⟩
          · have g5 : ¬ (j : Int) < 4 := by omega
            obtain rfl : j = 4 := by omega
            go_upto_region 17 with (fail)
            go_loopw [12] (fun s12 wr => s12 = .int .i64 ((0 : Nat) : Int) ∧ Hid (Jg w w1 wr bx pa 0 c' f)) (fun s12 _ => 4 - (intOf s12).toNat)
            case atStart => exact ⟨rfl, hJ⟩
            case round =>
              clear hbox hJ
              obtain ⟨rfl, hJ⟩ := hrel
              have g6 : ¬ (0 : Int) < ((0 : Nat) : Int) := by omega
              have hfit := hJ.out.q.fits
              have hmin : min (0 : Int) 12 = 0 := by decide
              have g7 : ¬ (0 : Int) < (((0 : Int).toNat : Nat) : Int) := by decide
              go_upto_region 35 with (fail)
              have hsz := hJ.out.size
              have HQA := Lib.hid (hJ.out.q.alloc (.cells #[.int .i64 0] 3))
              have HLT := Lib.hid (fun kk (e : _ = some kk) => (hJ.out.q.lt kk e).1)
              have HBA := Lib.hid ((Below.refl w1.heap.size wr).alloc hsz (.cells #[.int .i64 0] 3))
              have HI2 : Hid (i + 1 ≤ 2) := by unfold Hid; omega
              have HME : Hid (2 - (i + 1) < 2 - i) := by unfold Hid; omega
              go_wp2_with (at_builtin; go_must (refine wpList_append_q _ rfl (.tmp 157) (.tmp 159) 28 rfl w1.heap.size 3 i0 (.int .i64 0) 1 8 Tryd.underlying28 hi0 hz0 hz1 hz2 rfl (by decide) _ 0 (ivI f 0) rfl HQA.out ⟨_, 0, none⟩ 1 1 [.int .i64 0] rfl rfl (cells_new1 _ _ _) (by simp [Value.oneCell']) (by unfold maxLen; omega) (by omega) (by simp; omega) ?_); intro v7 w7 hq7 hg7 ho7; have HB7 : Hid (Below w1.heap.size wr w7) := Below.grown HBA.out hg7 (by simp; omega) (fun kk e => HLT.out kk e); have HJ7 := Lib.hid (hJ.out.push hbw1 HB7.out hq7); clear hq7 hg7 ho7)
              obtain ⟨pa', c7, e7, hJ7⟩ := HJ7.out
              exact ⟨⟨i + 1, 0 + 1, _, _, _, HI2.out, int_eq (by omega), e7, by omega, hJ7⟩, by rw [show intOf (Value.int .i64 ((i : Int) + 1)) = ((i + 1 : Nat) : Int) by simp [intOf]]; exact HME.out⟩
      · have q1 : (0 : Int) < (m : Int) := by omega
        obtain ⟨gb, o, cap3, e, hb1, hb2, _, _, hc, _⟩ := hJ.out.q.at (by omega)
        cases e
        have k1 := (hc (m - 1) (by omega)).trans (ivI_get f m (m - 1) (by omega))
        obtain ⟨m1, hm1⟩ : ∃ m1, m = m1 + 1 := ⟨m - 1, by omega⟩
        subst hm1
        have hsub : ((m1 + 1 : Nat) : Int) - 1 = (m1 : Int) := by omega
        have g2 : (0 : Int) ≤ (m1 : Int) := by omega
        have g3 : (m1 : Int) < ((m1 + 1 : Nat) : Int) := by omega
        rw [show m1 + 1 - 1 = m1 by omega] at k1
        have hfit := hJ.out.q.fits
        have hmc := hfit.1
        clear hc
        generalize f m1 = z at *
        go_upto_region 10 with (fail)
        by_cases hm10 : m1 = 0
        · subst hm10
          have HJ2 : Hid (Jg w w1 wr bx (some ⟨gb, o, none⟩) 0 c' f) := hJ.out.shorter (by omega)
          obtain ⟨x0, x1, x2, x3, hbox⟩ := HJ2.out.box
          have hblt := hbox.lt
          obtain ⟨t2, h22⟩ := judge22 p k c R x0 x1 x2 x3 HOK.out
          obtain ⟨t3, h31⟩ := judge31 p k c R x0 x1 x2 x3 HOK.out
          obtain ⟨t4, _, h4⟩ := judgeR p (some ⟨gb, o, none⟩) k c 0 c' R f z HOK.out
          have HTR := Lib.hid (HTB.out wr _ _ _ _ HJ2.out)
          have HSR : Hid (SrcI wr (some ⟨gb, o, none⟩) 0 f) := HJ2.out.q.srcI (ivI_get f 0)
          have bwq : ∀ {fn : FuncId} {args : Array Value} {tt : Bool} (D : BW wr.heap.size wr), (Calls Tryd.prog fn args D.w fun e w' => e = .returned (.bool tt) ∧ Below D.w.heap.size D.w w') → Calls Tryd.prog fn args D.w fun e w' => e = .returned (.bool tt) ∧ ∃ d' : BW wr.heap.size wr, w' = d'.w := fun D h => Calls.bw (h.mono fun e w' h => ⟨h.1, D.b.trans (h.2.mono D.b.size)⟩)
          have E29 := Lib.hid (fun D : BW wr.heap.size wr => bwq D (h22 D.w (HTR.out.below D.b (Nat.le_refl _))).1)
          have E28 := Lib.hid (fun D : BW wr.heap.size wr => bwq D (h22 D.w (HTR.out.below D.b (Nat.le_refl _))).2)
          have E40 := Lib.hid (fun D : BW wr.heap.size wr => bwq D (h31 D.w (HTR.out.below D.b (Nat.le_refl _))).1)
          have E41 := Lib.hid (fun D : BW wr.heap.size wr => bwq D (h31 D.w (HTR.out.below D.b (Nat.le_refl _))).2)
          have E42 := Lib.hid (fun D : BW wr.heap.size wr => bwq D (h4 D.w (HTR.out.below D.b (Nat.le_refl _)) (HSR.out.below D.b (Nat.le_refl _))).1)
          have E43 := Lib.hid (fun D : BW wr.heap.size wr => bwq D (h4 D.w (HTR.out.below D.b (Nat.le_refl _)) (HSR.out.below D.b (Nat.le_refl _))).2)
          clear h22 h31 h4 bwq
          have r0 : ∀ D : BW wr.heap.size wr, D.w.cell? ⟨bx, 0, none⟩ = some (.int .i64 x0) := fun D => (D.b.cell (p := ⟨bx, 0, none⟩) hblt).trans (by rw [hbox.cell]; rfl)
          have r1 : ∀ D : BW wr.heap.size wr, D.w.cell? ⟨bx, 1, none⟩ = some (.int .i64 x1) := fun D => (D.b.cell (p := ⟨bx, 1, none⟩) hblt).trans (by rw [hbox.cell]; rfl)
          have r2 : ∀ D : BW wr.heap.size wr, D.w.cell? ⟨bx, 2, none⟩ = some (.int .i64 x2) := fun D => (D.b.cell (p := ⟨bx, 2, none⟩) hblt).trans (by rw [hbox.cell]; rfl)
          have r3 : ∀ D : BW wr.heap.size wr, D.w.cell? ⟨bx, 3, none⟩ = some (.int .i64 x3) := fun D => (D.b.cell (p := ⟨bx, 3, none⟩) hblt).trans (by rw [hbox.cell]; rfl)
          have q2 : (!t2 == t2) = false := by cases t2 <;> rfl
          have q3 : (!t3 == t3) = false := by cases t3 <;> rfl
          have q4 : (!t4 == t4) = false := by cases t4 <;> rfl
          have p2 : (t2 != t2) = false := by simp
          have p3 : (t3 != t3) = false := by simp
          have p4 : (t4 != t4) = false := by simp
          have HBOX : Hid (BoxN wr bx 45 (b4 (at4 x0 x1 x2 x3))) := hbox
          clear hbox
          try simp only [List.append]
          refine wp_region_bw (by kernel_rfl) (by kernel_rfl) ?_
          repeat (go_big_quiet_step ((first
            | rfl
            | (go_at_call 29; exact E29.out _)
            | (go_at_call 28; exact E28.out _)
            | (go_at_call 40; exact E40.out _)
            | (go_at_call 41; exact E41.out _)
            | (go_at_call 42; exact E42.out _)
            | (go_at_call 43; exact E43.out _))))
          refine wpQuiet_nil ?_
          rintro _ ⟨d, rfl⟩
          clear E29 E28 E40 E41 E42 E43 r0 r1 r2 r3 HTR HSR
          have HJ3 := Lib.hid (HJ2.out.below d.b)
          have HBX3 := Lib.hid (HBOX.out.below d.b hblt)
          clear HJ2 HBOX hJ
          generalize d.w = V at *
          go_upto_region 13 with (fail)
          clear q2 q3 q4 p2 p3 p4
          have hbxw : w.heap.size ≤ bx := by rw [hbx.out]; omega
          go_loopw [11] (fun s11 wr => ∃ (j : Nat) (g : Nat → Int), j ≤ 4 ∧ s11 = .int .i64 (j : Int) ∧ Hid (BoxN wr bx 45 (b4 g)) ∧ Hid (Jg w w1 wr bx (some ⟨gb, o, none⟩) 0 c' f)) (fun s11 _ => 4 - (intOf s11).toNat)
          case atStart => exact ⟨0, _, by omega, rfl, HBX3, HJ3⟩
          case round =>
            clear HBX3 HJ3
            obtain ⟨j, g, hj, rfl, hbox, hJ⟩ := hrel
            by_cases hj4 : j < 4
            · have g5 : (j : Int) < 4 := by omega
              have g4 : (0 : Int) ≤ (j : Int) := by omega
              have k1 := b4_cell hbox.out hj4
              have k2 := hbox.out.frozen j
              have hum := um_eq (g j) k
              have hlt := um_lt (g j) (m := k) (by omega)
              have HB5 := Lib.hid (b4_set hbox.out hj4 ((um (g j) k : Nat) : Int))
              have HJ5 := Lib.hid (hJ.out.setX hbox.out hbxw hbw1 hj4 ((um (g j) k : Nat) : Int))
              generalize g j = gj at *
              generalize um gj k = uu at *
              have z1 : IntKind.u64.wrap (k : Int) = (k : Int) := u64_same _ (by omega)
              have z3 : ((k : Int) == 0) = false := by rw [beq_eq_false_iff_ne]; omega
              have z2 : IntKind.i64.wrap (uu : Int) = (uu : Int) := IntWalk.i64_in _ (by omega)
              clear hbox hJ
              go_wp2
              exact ⟨⟨j + 1, _, by omega, int_eq (by omega), HB5, HJ5⟩, by simp [intOf]; omega⟩
            · have g5 : ¬ (j : Int) < 4 := by omega
              obtain rfl : j = 4 := by omega
              go_upto_region 17 with (fail)
              go_loopw [12] (fun s12 wr => s12 = .int .i64 ((0 : Nat) : Int) ∧ Hid (Jg w w1 wr bx (some ⟨gb, o, none⟩) 0 c' f)) (fun s12 _ => 4 - (intOf s12).toNat)
              case atStart => exact ⟨rfl, hJ⟩
              case round =>
                clear hbox hJ
                obtain ⟨rfl, hJ⟩ := hrel
                have g6 : ¬ (0 : Int) < ((0 : Nat) : Int) := by omega
                have hfit := hJ.out.q.fits
                have hum := um_eq z 10
                have hlt := um_lt z (m := 10) (by omega)
                have hum : (IntKind.u64.wrap z).tmod 10 = ((um z 10 : Nat) : Int) := hum
                generalize um z 10 = zw at *
                have z2 : IntKind.i64.wrap (zw : Int) = (zw : Int) := IntWalk.i64_in _ (by omega)
                have hmin : min (0 : Int) 12 = 0 := by decide
                have g7 : ¬ (0 : Int) < (((0 : Int).toNat : Nat) : Int) := by decide
                go_upto_region 35 with (fail)
                have hsz := hJ.out.size
                have HQA := Lib.hid (hJ.out.q.alloc (.cells #[.int .i64 (zw : Int)] 3))
                have HLT := Lib.hid (fun kk (e : _ = some kk) => (hJ.out.q.lt kk e).1)
                have HBA := Lib.hid ((Below.refl w1.heap.size wr).alloc hsz (.cells #[.int .i64 (zw : Int)] 3))
                have HI2 : Hid (i + 1 ≤ 2) := by unfold Hid; omega
                have HME : Hid (2 - (i + 1) < 2 - i) := by unfold Hid; omega
                go_wp2_with (at_builtin; go_must (refine wpList_append_q _ rfl (.tmp 157) (.tmp 159) 28 rfl w1.heap.size 3 i0 (.int .i64 0) 1 8 Tryd.underlying28 hi0 hz0 hz1 hz2 rfl (by decide) _ 0 (ivI f 0) rfl HQA.out ⟨_, 0, none⟩ 1 1 [.int .i64 (zw : Int)] rfl rfl (cells_new1 _ _ _) (by simp [Value.oneCell']) (by unfold maxLen; omega) (by omega) (by simp; omega) ?_); intro v7 w7 hq7 hg7 ho7; have HB7 : Hid (Below w1.heap.size wr w7) := Below.grown HBA.out hg7 (by simp; omega) (fun kk e => HLT.out kk e); have HJ7 := Lib.hid (hJ.out.push hbw1 HB7.out hq7); clear hq7 hg7 ho7)
                obtain ⟨pa', c7, e7, hJ7⟩ := HJ7.out
                exact ⟨⟨i + 1, 0 + 1, _, _, _, HI2.out, int_eq (by omega), e7, by omega, hJ7⟩, by rw [show intOf (Value.int .i64 ((i : Int) + 1)) = ((i + 1 : Nat) : Int) by simp [intOf]]; exact HME.out⟩
        · have hm11 : 1 ≤ m1 := by omega
          have HJ2 : Hid (Jg w w1 wr bx (some ⟨gb, o, none⟩) m1 c' f) := hJ.out.shorter (by omega)
          obtain ⟨x0, x1, x2, x3, hbox⟩ := HJ2.out.box
          have hblt := hbox.lt
          obtain ⟨t2, h22⟩ := judge22 p k c R x0 x1 x2 x3 HOK.out
          obtain ⟨t3, h31⟩ := judge31 p k c R x0 x1 x2 x3 HOK.out
          obtain ⟨t4, _, h4⟩ := judgeR p (some ⟨gb, o, none⟩) k c m1 c' R f z HOK.out
          have HTR := Lib.hid (HTB.out wr _ _ _ _ HJ2.out)
          have HSR : Hid (SrcI wr (some ⟨gb, o, none⟩) m1 f) := HJ2.out.q.srcI (ivI_get f m1)
          have bwq : ∀ {fn : FuncId} {args : Array Value} {tt : Bool} (D : BW wr.heap.size wr), (Calls Tryd.prog fn args D.w fun e w' => e = .returned (.bool tt) ∧ Below D.w.heap.size D.w w') → Calls Tryd.prog fn args D.w fun e w' => e = .returned (.bool tt) ∧ ∃ d' : BW wr.heap.size wr, w' = d'.w := fun D h => Calls.bw (h.mono fun e w' h => ⟨h.1, D.b.trans (h.2.mono D.b.size)⟩)
          have E29 := Lib.hid (fun D : BW wr.heap.size wr => bwq D (h22 D.w (HTR.out.below D.b (Nat.le_refl _))).1)
          have E28 := Lib.hid (fun D : BW wr.heap.size wr => bwq D (h22 D.w (HTR.out.below D.b (Nat.le_refl _))).2)
          have E40 := Lib.hid (fun D : BW wr.heap.size wr => bwq D (h31 D.w (HTR.out.below D.b (Nat.le_refl _))).1)
          have E41 := Lib.hid (fun D : BW wr.heap.size wr => bwq D (h31 D.w (HTR.out.below D.b (Nat.le_refl _))).2)
          have E42 := Lib.hid (fun D : BW wr.heap.size wr => bwq D (h4 D.w (HTR.out.below D.b (Nat.le_refl _)) (HSR.out.below D.b (Nat.le_refl _))).1)
          have E43 := Lib.hid (fun D : BW wr.heap.size wr => bwq D (h4 D.w (HTR.out.below D.b (Nat.le_refl _)) (HSR.out.below D.b (Nat.le_refl _))).2)
          clear h22 h31 h4 bwq
          have r0 : ∀ D : BW wr.heap.size wr, D.w.cell? ⟨bx, 0, none⟩ = some (.int .i64 x0) := fun D => (D.b.cell (p := ⟨bx, 0, none⟩) hblt).trans (by rw [hbox.cell]; rfl)
          have r1 : ∀ D : BW wr.heap.size wr, D.w.cell? ⟨bx, 1, none⟩ = some (.int .i64 x1) := fun D => (D.b.cell (p := ⟨bx, 1, none⟩) hblt).trans (by rw [hbox.cell]; rfl)
          have r2 : ∀ D : BW wr.heap.size wr, D.w.cell? ⟨bx, 2, none⟩ = some (.int .i64 x2) := fun D => (D.b.cell (p := ⟨bx, 2, none⟩) hblt).trans (by rw [hbox.cell]; rfl)
          have r3 : ∀ D : BW wr.heap.size wr, D.w.cell? ⟨bx, 3, none⟩ = some (.int .i64 x3) := fun D => (D.b.cell (p := ⟨bx, 3, none⟩) hblt).trans (by rw [hbox.cell]; rfl)
          have q2 : (!t2 == t2) = false := by cases t2 <;> rfl
          have q3 : (!t3 == t3) = false := by cases t3 <;> rfl
          have q4 : (!t4 == t4) = false := by cases t4 <;> rfl
          have p2 : (t2 != t2) = false := by simp
          have p3 : (t3 != t3) = false := by simp
          have p4 : (t4 != t4) = false := by simp
          have HBOX : Hid (BoxN wr bx 45 (b4 (at4 x0 x1 x2 x3))) := hbox
          clear hbox
          try simp only [List.append]
          refine wp_region_bw (by kernel_rfl) (by kernel_rfl) ?_
          repeat (go_big_quiet_step ((first
            | rfl
            | (go_at_call 29; exact E29.out _)
            | (go_at_call 28; exact E28.out _)
            | (go_at_call 40; exact E40.out _)
            | (go_at_call 41; exact E41.out _)
            | (go_at_call 42; exact E42.out _)
            | (go_at_call 43; exact E43.out _))))
          refine wpQuiet_nil ?_
          rintro _ ⟨d, rfl⟩
          clear E29 E28 E40 E41 E42 E43 r0 r1 r2 r3 HTR HSR
          have HJ3 := Lib.hid (HJ2.out.below d.b)
          have HBX3 := Lib.hid (HBOX.out.below d.b hblt)
          clear HJ2 HBOX hJ
          generalize d.w = V at *
          go_upto_region 13 with (fail)
          clear q2 q3 q4 p2 p3 p4
          have hbxw : w.heap.size ≤ bx := by rw [hbx.out]; omega
          go_loopw [11] (fun s11 wr => ∃ (j : Nat) (g : Nat → Int), j ≤ 4 ∧ s11 = .int .i64 (j : Int) ∧ Hid (BoxN wr bx 45 (b4 g)) ∧ Hid (Jg w w1 wr bx (some ⟨gb, o, none⟩) m1 c' f)) (fun s11 _ => 4 - (intOf s11).toNat)
          case atStart => exact ⟨0, _, by omega, rfl, HBX3, HJ3⟩
          case round =>
            clear HBX3 HJ3
            obtain ⟨j, g, hj, rfl, hbox, hJ⟩ := hrel
            by_cases hj4 : j < 4
            · have g5 : (j : Int) < 4 := by omega
              have g4 : (0 : Int) ≤ (j : Int) := by omega
              have k1 := b4_cell hbox.out hj4
              have k2 := hbox.out.frozen j
              have hum := um_eq (g j) k
              have hlt := um_lt (g j) (m := k) (by omega)
              have HB5 := Lib.hid (b4_set hbox.out hj4 ((um (g j) k : Nat) : Int))
              have HJ5 := Lib.hid (hJ.out.setX hbox.out hbxw hbw1 hj4 ((um (g j) k : Nat) : Int))
              generalize g j = gj at *
              generalize um gj k = uu at *
              have z1 : IntKind.u64.wrap (k : Int) = (k : Int) := u64_same _ (by omega)
              have z3 : ((k : Int) == 0) = false := by rw [beq_eq_false_iff_ne]; omega
              have z2 : IntKind.i64.wrap (uu : Int) = (uu : Int) := IntWalk.i64_in _ (by omega)
              clear hbox hJ
              go_wp2
              exact ⟨⟨j + 1, _, by omega, int_eq (by omega), HB5, HJ5⟩, by simp [intOf]; omega⟩
            · have g5 : ¬ (j : Int) < 4 := by omega
              obtain rfl : j = 4 := by omega
              go_upto_region 17 with (fail)
              go_loopw [12] (fun s12 wr => ∃ (j : Nat) (f : Nat → Int), j ≤ m1 ∧ s12 = .int .i64 (j : Int) ∧ Hid (∀ i, i < j → 0 ≤ f i ∧ f i < 30) ∧ Hid (Jg w w1 wr bx (some ⟨gb, o, none⟩) m1 c' f)) (fun s12 _ => m1 - (intOf s12).toNat)
              case atStart => exact ⟨0, f, by omega, rfl, fun _ h => absurd h (by omega), hJ⟩
              case round =>
                clear hbox hJ
                obtain ⟨j, f, hj, rfl, hF, hJ⟩ := hrel
                by_cases hjm : j < m1
                · have g6 : (j : Int) < (m1 : Int) := by omega
                  have g8 : (0 : Int) ≤ (j : Int) := by omega
                  obtain ⟨gb', o', cap2', e, hb1', hb2', _, _, hc, _⟩ := hJ.out.q.at (by omega)
                  cases e
                  have k1 := (hc j (by omega)).trans (ivI_get f m1 j hjm)
                  have k2 := (hJ.out.q.put hjm ((um (f j) 30 : Nat) : Int)).1
                  have HPUT := Lib.hid (hJ.out.putA hbw1 hjm ((um (f j) 30 : Nat) : Int))
                  have hum := um_eq (f j) 30
                  have hlt := um_lt (f j) (m := 30) (by omega)
                  have hum : (IntKind.u64.wrap (f j)).tmod 30 = ((um (f j) 30 : Nat) : Int) := hum
                  have HF2 : Hid (∀ i, i < j + 1 → 0 ≤ upd f j ((um (f j) 30 : Nat) : Int) i ∧ upd f j ((um (f j) 30 : Nat) : Int) i < 30) := fun i hi => by
                    unfold upd
                    by_cases e : i = j
                    · rw [if_pos e]; omega
                    · rw [if_neg e]; exact hF.out i (by omega)
                  generalize hfj : f j = fj at *
                  generalize um fj 30 = uu at *
                  have z2 : IntKind.i64.wrap (uu : Int) = (uu : Int) := IntWalk.i64_in _ (by omega)
                  clear hc hJ hF
                  go_wp2
                  exact ⟨⟨j + 1, _, by omega, int_eq (by omega), HF2, HPUT⟩, by simp [intOf]; omega⟩
                · have g6 : ¬ (j : Int) < (m1 : Int) := by omega
                  obtain rfl : m1 = j := by omega
                  obtain ⟨m2, hm2, hm21, hm212, hm2m⟩ : ∃ m2 : Nat, min (m1 : Int) 12 = (m2 : Int) ∧ 1 ≤ m2 ∧ m2 ≤ 12 ∧ m2 ≤ m1 := ⟨min m1 12, by omega, by omega, by omega, by omega⟩
                  obtain ⟨fn, HFN, HJN⟩ : ∃ fn : Nat → Nat, Hid (∀ i, i < m2 → fn i < 30) ∧ Hid (Jg w w1 wr bx (some ⟨gb, o, none⟩) m2 c' (fun j => (fn j : Int))) := ⟨fun j => (f j).toNat, fun i hi => by have := hF.out i (by omega); show (f i).toNat < 30; omega, (hJ.out.shorter hm2m).congr (fun i hi => by have := hF.out i (by omega); show f i = ((f i).toNat : Int); omega)⟩
                  have hfit := hJ.out.q.fits
                  have hmc2 : m2 ≤ c' := by omega
                  have hum := um_eq z 10
                  have hlt := um_lt z (m := 10) (by omega)
                  have hum : (IntKind.u64.wrap z).tmod 10 = ((um z 10 : Nat) : Int) := hum
                  generalize um z 10 = zw at *
                  have z2 : IntKind.i64.wrap (zw : Int) = (zw : Int) := IntWalk.i64_in _ (by omega)
                  have g7 : (0 : Int) < (m2 : Int) := by omega
                  have g9 : (0 : Int) ≤ (m2 : Int) := by omega
                  have g10 : (m2 : Int) ≤ (c' : Int) := by omega
                  clear hJ hF
                  go_upto_region 25 with (fail)
                  obtain ⟨wV, hwV⟩ : ∃ wV, wV = wr := ⟨_, rfl⟩
                  subst hwV
                  obtain ⟨gb', o', cap2', e, hb1', hgb, _, _, hc, _⟩ := HJN.out.q.at (by omega)
                  cases e
                  have HSRC : Hid (∀ j, j < m2 → wV.cell? ⟨gb, o + j, none⟩ = some (.int .i64 (fn j : Int))) := fun j hj => (hc j (by omega)).trans (ivI_get _ m2 j hj)
                  clear hc
                  go_loopw [13, 14] (fun s13 s14 wr => ∃ i : Nat, i ≤ m2 ∧ s14 = .int .i64 (i : Int) ∧ TRow wr wV.heap.size s13 i (fun _ => m2) (posR fn zw) ∧ Hid (Below wV.heap.size wV wr)) (fun _ s14 _ => m2 - (intOf s14).toNat)
                  case atStart => exact ⟨0, by omega, rfl, TRow.nil _ _ _ _, Below.refl _ _⟩
                  case round =>
                    obtain ⟨i2, hil, rfl, hT, hB⟩ := hrel
                    by_cases hi : i2 < m2
                    · have g1 : (i2 : Int) < (m2 : Int) := by omega
                      have g0 : (0 : Int) ≤ (i2 : Int) := by omega
                      have hsw : wV.heap.size ≤ wr.heap.size := hB.out.size
                      obtain ⟨wo, hwo⟩ : ∃ wo, Hid (wo = wr) := ⟨_, rfl⟩
                      rw [← hwo.out] at hT hB hsw ⊢
                      clear hwo
                      have HTO := Lib.hid hT
                      clear hT
                      have h1lt := HFN.out i2 hi
                      have k2 := HSRC.out i2 hi
                      go_upto_region 29 with (fail)
                      go_loopw [15, 16] (fun s15 s16 wq => ∃ j : Nat, j ≤ m2 ∧ s16 = .int .i64 (j : Int) ∧ QRow wq wo.heap.size 4 1 s15 j (bv (posR fn zw i2) j) ∧ Hid (Below wo.heap.size wo wq)) (fun _ s16 _ => m2 - (intOf s16).toNat)
                      case atStart => exact ⟨0, by omega, rfl, QRow.nil _ _ _ _, Below.refl _ _⟩
                      case round =>
                        obtain ⟨j, hjl, rfl, hq, hB2⟩ := hrel
                        by_cases hj : j < m2
                        · have g2 : (j : Int) < (m2 : Int) := by omega
                          have g3 : (0 : Int) ≤ (j : Int) := by omega
                          have k3 := HSRC.out j hj
                          have h2lt := HFN.out j hj
                          have hXw : wo.heap.size ≤ wr.heap.size := hB2.out.size
                          have HWR := Lib.hid (hB.out.trans (hB2.out.mono hsw))
                          have HSN : Hid (bv (posR fn zw i2) (j + 1) = bv (posR fn zw i2) j ++ [.bool (decide ((fn i2 : Int) + (zw : Int) < (fn j : Int)))]) := by rw [show decide ((fn i2 : Int) + (zw : Int) < (fn j : Int)) = posR fn zw i2 j from decide_eq_decide.2 (by omega)]; exact bv_snoc _ _
                          obtain ⟨x1, hx1⟩ : ∃ x1, fn i2 = x1 := ⟨_, rfl⟩
                          obtain ⟨y0, hy⟩ : ∃ y0, fn j = y0 := ⟨_, rfl⟩
                          rw [hx1] at k2 h1lt HSN
                          rw [hy] at k3 h2lt HSN
                          have r1 : ∀ d : BW wr.heap.size wr, d.w.cell? ⟨gb, o + i2, none⟩ = some (.int .i64 (x1 : Int)) := fun d => ((HWR.out.trans (d.b.mono (by omega))).cell (p := ⟨gb, o + i2, none⟩) hgb).trans k2
                          have r2 : ∀ d : BW wr.heap.size wr, d.w.cell? ⟨gb, o + j, none⟩ = some (.int .i64 (y0 : Int)) := fun d => ((HWR.out.trans (d.b.mono (by omega))).cell (p := ⟨gb, o + j, none⟩) hgb).trans k3
                          have HQ := Lib.hid hq
                          have z5 : IntKind.i64.wrap ((x1 : Int) + (zw : Int)) = (x1 : Int) + (zw : Int) := IntWalk.i64_in _ (by omega)
                          clear k3 k2 hq HWR
                          go_upto_region 31 with (fail)
                          refine wp_region_bw_copy_tail 12 (by kernel_rfl) (by kernel_rfl) (fun _ _ _ h => h) (.inl ⟨rfl, fun _ => rfl⟩) ?_
                          simp only [Act.put, Act.eval, List.getElem?_toArray, List.getElem?_cons_zero, List.getElem?_cons_succ, Option.getD_some, List.setIfInBounds_toArray, List.set_cons_zero, List.set_cons_succ, Nat.reduceSub, Array.getD_eq_getD_getElem?]
                          simp only [List.take_succ_cons, List.take_zero, List.drop_succ_cons, List.drop_zero]
                          repeat (go_big_quiet_step (rfl))
                          refine wpQuiet_nil ?_
                          rintro _ ⟨d, rfl⟩
                          clear r1 r2
                          have hqd := HQ.out.below d.b (fun kk e => (HQ.out.lt kk e).2)
                          have HQD := Lib.hid (hqd.alloc (.cells #[.bool (decide ((x1 : Int) + (zw : Int) < (y0 : Int)))] 4))
                          have HBD := Lib.hid (hB2.out.trans (d.b.mono hXw))
                          have HLT := Lib.hid (fun kk (e : _ = some kk) => (hqd.lt kk e).1)
                          have hdsz : wo.heap.size ≤ d.w.heap.size := HBD.out.size
                          clear hqd HQ
                          generalize d.w = Z at *
                          go_wp2_with (at_builtin; go_must (refine wpList_append_q _ rfl (.tmp 121) (.tmp 133) 60 rfl wo.heap.size 4 i4 (.bool false) 1 1 under60 hi4 hx0 hx1' hx2 rfl (by decide) _ j (bv (posR fn zw i2) j) rfl HQD.out ⟨_, 0, none⟩ 1 1 [.bool (decide ((x1 : Int) + (zw : Int) < (y0 : Int)))] rfl rfl (cells_new1 _ _ _) (by simp [Value.oneCell']) (by unfold maxLen; omega) (by omega) (by simp; omega) ?_); intro v7 w7 hq7 hg7 ho7; have HQ7 : Hid (QRow w7 wo.heap.size 4 1 v7 (j + 1) (bv (posR fn zw i2) (j + 1))) := (by rw [HSN.out]; exact hq7); have HB7 : Hid (Below wo.heap.size wo w7) := Below.grown (HBD.out.alloc hdsz _) hg7 (by simp; omega) (fun kk e => HLT.out kk e); clear hq7 hg7 ho7)
                          exact ⟨⟨j + 1, by omega, int_eq (by omega), HQ7.out, HB7⟩, by simp [intOf]; omega⟩
                        · have g2 : ¬ (j : Int) < (m2 : Int) := by omega
                          obtain rfl : m2 = j := by omega
                          obtain ⟨p8, c8, rfl⟩ := hq.isSlice
                          have hXw : wo.heap.size ≤ wr.heap.size := hB2.out.size
                          obtain ⟨ys, h1, h2⟩ := HTO.out.below hB2.out (Nat.le_refl _)
                          have H1A := Lib.hid (h1.alloc (.cells #[.slice p8 m2 c8] 60))
                          have H2A : Hid (∀ i', i' < i2 → ∃ p c, ys[i']? = some (.slice p ((fun _ : Nat => m2) i') c) ∧ QRow (wr.alloc (.cells #[.slice p8 m2 c8] 60)) wV.heap.size 4 1 (.slice p ((fun _ : Nat => m2) i') c) ((fun _ : Nat => m2) i') (bv (posR fn zw i') ((fun _ : Nat => m2) i'))) := fun i' hi' => by
                            obtain ⟨p, c, e1, e2⟩ := h2 i' hi'
                            exact ⟨p, c, e1, e2.alloc _⟩
                          have HQA := Lib.hid ((hq.mono hsw).alloc (.cells #[.slice p8 m2 c8] 60))
                          have HLT := Lib.hid (fun kk (e : _ = some kk) => (h1.lt kk e).1)
                          have HBW := Lib.hid (hB.out.trans (hB2.out.mono hsw))
                          have hww : wV.heap.size ≤ wr.heap.size := HBW.out.size
                          clear hq h1 h2 HTO
                          go_wp2_with (at_builtin; go_must (refine wpList_append_q _ rfl (.tmp 135) (.tmp 137) 24 rfl wV.heap.size 60 i60 (.slice none 0 0) 1 24 under24 hi60 hy0 hy1 hy2 rfl (by decide) _ i2 ys rfl H1A.out ⟨_, 0, none⟩ 1 1 [.slice p8 m2 c8] rfl rfl (cells_new1 _ _ _) (by simp [Value.oneCell']) (by unfold maxLen; omega) (by omega) (by simp; omega) ?_); intro v5 w5 hq5 hg5 ho5; have HR5 : Hid (TRow w5 wV.heap.size v5 (i2 + 1) (fun _ => m2) (posR fn zw)) := TRow.push H2A.out H1A.out HQA.out hg5 hq5; have HB5 : Hid (Below wV.heap.size wV w5) := Below.grown (HBW.out.alloc hww _) hg5 (by simp; omega) (fun kk e => HLT.out kk e); clear hq5 hg5 ho5)
                          exact ⟨⟨i2 + 1, by omega, int_eq (by omega), HR5.out, HB5⟩, by simp [intOf]; omega⟩
                    · have g1 : ¬ (i2 : Int) < (m2 : Int) := by omega
                      obtain rfl : m2 = i2 := by omega
                      have hJ : Hid (Jg w w1 wr bx (some ⟨gb, o, none⟩) m2 c' (fun j => (fn j : Int))) := HJN.out.below hB.out
                      obtain ⟨p8, c8, rfl⟩ := hT.isSlice
                      obtain ⟨ta, hta, hA⟩ := judgeR p8 (some ⟨gb, o, none⟩) m2 c8 m2 c' (posR fn zw) (fun j => (fn j : Int)) (zw : Int) (posR_tab fn zw hm21 hm212)
                      obtain ⟨tb, _, hBb⟩ := judgeR p8 (some ⟨gb, o, none⟩) m2 c8 m2 c' (posR fn zw) (fun j => (fn j : Int)) ((zw : Int) + 1) (posR_tab fn zw hm21 hm212)
                      obtain rfl : ta = true := hta.2 (posR_rep HFN.out (by omega))
                      have HTR := Lib.hid (fun W (hW : Below wr.heap.size wr W) => hT.tbl.below hW (Nat.le_refl _))
                      have HSR := Lib.hid (fun W (hW : Below wr.heap.size wr W) => SrcI.below (hJ.out.q.srcI (ivI_get (fun j => (fn j : Int)) m2)) hW (Nat.le_refl _))
                      have HA := Lib.hid hA
                      have HBb := Lib.hid hBb
                      have z6 : IntKind.i64.wrap ((zw : Int) + 1) = (zw : Int) + 1 := IntWalk.i64_in _ (by omega)
                      have hB0 := Lib.hid (Below.refl wr.heap.size wr)
                      clear hT hA hBb HTB
                      have q2 : (!tb == tb) = false := by cases tb <;> rfl
                      have p2 : (tb != tb) = false := by simp
                      have hne : ∀ W, Sem.run Tryd.prog (binOp BinOp.neq 4 (Value.bool tb) (Value.bool tb)) W = .ok (.bool false) W := fun W => by rw [run_neq_bool W 4 tb tb (by kernel_rfl)]; simp
                      go_upto_region 35 with (first
                        | (go_at_call 42; refine (HA.out _ (HTR.out _ hB0.out) (HSR.out _ hB0.out)).1.mono ?_; rintro e w5 ⟨rfl, hB5⟩; have HB5 := Lib.hid hB5; clear hB5 hB0 HA)
                        | (go_at_call 42; refine (HBb.out _ (HTR.out _ HB5.out) (HSR.out _ HB5.out)).1.mono ?_; rintro e w6 ⟨rfl, hB6⟩; have HB6 := Lib.hid (HB5.out.trans (hB6.mono HB5.out.size)); clear hB6 HB5)
                        | (go_at_call 43; refine (HBb.out _ (HTR.out _ HB6.out) (HSR.out _ HB6.out)).2.mono ?_; rintro e w8 ⟨rfl, hB8⟩; have HB8 := Lib.hid (HB6.out.trans (hB8.mono HB6.out.size)); clear hB8 HB6))
                      have hJ8 := Lib.hid (hJ.out.below HB8.out)
                      have hsz := hJ8.out.size
                      have HQA := Lib.hid (hJ8.out.q.alloc (.cells #[.int .i64 (zw : Int)] 3))
                      have HLT := Lib.hid (fun kk (e : _ = some kk) => (hJ8.out.q.lt kk e).1)
                      have HBA := Lib.hid ((Below.refl w1.heap.size w8).alloc hsz (.cells #[.int .i64 (zw : Int)] 3))
                      have HI2 : Hid (i + 1 ≤ 2) := by unfold Hid; omega
                      have HME : Hid (2 - (i + 1) < 2 - i) := by unfold Hid; omega
                      go_wp2_with (at_builtin; go_must (refine wpList_append_q _ rfl (.tmp 157) (.tmp 159) 28 rfl w1.heap.size 3 i0 (.int .i64 0) 1 8 Tryd.underlying28 hi0 hz0 hz1 hz2 rfl (by decide) _ m2 (ivI (fun j => (fn j : Int)) m2) rfl HQA.out ⟨_, 0, none⟩ 1 1 [.int .i64 (zw : Int)] rfl rfl (cells_new1 _ _ _) (by simp [Value.oneCell']) (by unfold maxLen; omega) (by omega) (by simp; omega) ?_); intro v7 w7 hq7 hg7 ho7; have HB7 : Hid (Below w1.heap.size w8 w7) := Below.grown HBA.out hg7 (by simp; omega) (fun kk e => HLT.out kk e); have HJ7 := Lib.hid (hJ8.out.push hbw1 HB7.out hq7); clear hq7 hg7 ho7)
                      obtain ⟨pa', c7, e7, hJ7⟩ := HJ7.out
                      exact ⟨⟨i + 1, m2 + 1, _, _, _, HI2.out, int_eq (by omega), e7, by omega, hJ7⟩, by rw [show intOf (Value.int .i64 ((i : Int) + 1)) = ((i + 1 : Nat) : Int) by simp [intOf]]; exact HME.out⟩
    · have g1 : ¬ (i : Int) < 2 := by omega
      have HAW := Lib.hid (awake_any wr (HT.out.below hJ.out.bl (Nat.le_refl _)))
      go_wp2_with (go_at_call 17; refine HAW.out.mono ?_; rintro e w9 ⟨rfl, hB9⟩; have HB9 := Lib.hid (hJ.out.bl.trans (hB9.mono hJ.out.bl.size)); clear hB9)
      go_ret
      exact ⟨rfl, HB9.out⟩
end Go.Proofs.YtgpijajgaclhfaaDoor
