/- The program's IsProper: walks. The program's IsProper: the walk. The law's copy of a list; the document's test of an odd ring: walks. A row of integers of the call's own, whatever it holds; and a list of integers, and of lists, as it comes in. HueSides: the walk of the law. -/
import Derived.Test.YtpknnjcbcndbbaaDoorE01
import Derived.Test.YtpknnjcbcndbbaaDoorA09
import Derived.Test.YtpknnjcbcndbbaaDoorA06
import Derived.Test.YtpknnjcbcndbbaaDoorA12
import Derived.Test.YtpknnjcbcndbbaaDoorH01
import Derived.Test.YtpknnjcbcndbbaaDoorLo
set_option linter.unusedVariables false
set_option linter.unusedSimpArgs false
namespace Go.Proofs.YtpknnjcbcndbbaaDoor
open Go.RowKit Go.Shelf

set_option maxRecDepth 100000 in
theorem neg_any (x : Int) (w : World) : Calls Tryd.prog 66 #[.int .i64 x] w fun e w' => e = .returned (.bool (decide (x < 0))) ∧ w' = w := by
  go_enter Tryd.func66, Tryd.ntmps66
  go_wp2
  go_ret
  exact ⟨rfl, rfl⟩
set_option maxRecDepth 100000 in
theorem index_any (p : Option Addr) (m c : Nat) (f : Nat → Int) (w : World) (hm : m ≤ 1099511627776) (h : SrcI w p m f) :
    Calls Tryd.prog 89 #[.slice p m c, .func (.func 66) #[] #[]] w fun e w' => (∃ r : Int, e = .returned (.int .i64 r) ∧ Hid ((r = -1 ∧ ∀ j, j < m → 0 ≤ f j) ∨ (0 ≤ r ∧ ∃ j, j < m ∧ f j < 0))) ∧ w' = w := by
  have H := Lib.hid h
  clear h
  go_enter Tryd.func89, Tryd.ntmps89
  go_upto_region 2 with (fail)
  go_loopw [8] (fun s8 wr => ∃ j : Nat, j ≤ m ∧ s8 = .int .i64 (j : Int) ∧ Hid (∀ i, i < j → 0 ≤ f i) ∧ Hid (wr = w)) (fun s8 _ => m - (intOf s8).toNat)
  case atStart => exact ⟨0, by omega, rfl, (fun i hi => by omega), rfl⟩
  case round =>
    obtain ⟨j, hj, rfl, hp, hw⟩ := hrel
    rw [hw.out]
    by_cases hjm : j < m
    · obtain ⟨b, o, rfl, hb, hc⟩ := H.out (by omega)
      have k1 := hc j hjm
      have g1 : (j : Int) < (m : Int) := by omega
      have g0 : (0 : Int) ≤ (j : Int) := by omega
      clear hc
      have HNG := Lib.hid (neg_any (f j) w)
      by_cases hf : f j < 0
      · have HF := Lib.hid hf
        have hd : decide (f j < 0) = true := decide_eq_true hf
        generalize hz : f j = z at *
        have HZ := Lib.hid hz
        clear hz
        go_wp2_with (go_at_call 66; refine (HNG.out).mono ?_; rintro e w' ⟨rfl, hw'⟩; subst hw'; try dsimp only)
        go_ret
        exact ⟨⟨_, rfl, .inr ⟨by omega, j, hjm, by rw [HZ.out]; exact HF.out⟩⟩, rfl⟩
      · have HN : Hid (∀ i, i < j + 1 → 0 ≤ f i) := fun i hi => by
          by_cases e : i = j
          · subst e; omega
          · exact hp.out i (by omega)
        have hd : decide (f j < 0) = false := decide_eq_false hf
        generalize f j = z at *
        go_wp2_with (go_at_call 66; refine (HNG.out).mono ?_; rintro e w' ⟨rfl, hw'⟩; subst hw'; try dsimp only)
        exact ⟨⟨j + 1, by omega, int_eq (by omega), HN, Lib.hid trivial⟩, by simp [intOf]; omega⟩
    · have g1 : ¬ (j : Int) < (m : Int) := by omega
      have HP : Hid (∀ i, i < m → 0 ≤ f i) := fun i hi => hp.out i (by omega)
      go_wp2
      go_ret
      exact ⟨⟨_, rfl, .inl ⟨rfl, HP.out⟩⟩, rfl⟩
set_option maxRecDepth 100000 in
theorem contains_any (p : Option Addr) (m c : Nat) (f : Nat → Int) (w : World) (hm : m ≤ 1099511627776) (h : SrcI w p m f) :
    Calls Tryd.prog 65 #[.slice p m c, .func (.func 66) #[] #[]] w fun e w' => BoolP (∃ j, j < m ∧ f j < 0) e ∧ w' = w := by
  have HI := Lib.hid (index_any p m c f w hm h)
  clear h
  go_enter Tryd.func65, Tryd.ntmps65
  go_wp2_with (go_at_call 89; refine (HI.out).mono ?_; rintro e w' ⟨⟨r, rfl, hr⟩, hw'⟩; subst hw'; try dsimp only)
  go_ret
  refine ⟨⟨decide (0 ≤ r), rfl, ?_⟩, rfl⟩
  rw [decide_eq_true_iff]
  rcases hr.out with ⟨h1, h2⟩ | ⟨h1, h2⟩
  · constructor
    · intro h; omega
    · rintro ⟨j, hj, hn⟩; have := h2 j hj; omega
  · exact ⟨fun _ => h2, fun _ => h1⟩
def ekI (e : Int × Int) : Value := .agg #[.int .i64 e.1, .int .i64 e.2]
def bvv (b : Bool) : Value := .bool b
theorem eq_end (s t : Int × Int) (w : World) : (Op.equal 102 (ekI s) (ekI t)).run Tryd.prog w = .ok (decide (s = t)) w := by
  obtain ⟨a, b⟩ := s
  obtain ⟨c, d⟩ := t
  have h : Op.equal 102 (ekI (a, b)) (ekI (c, d)) = Op.equalIn (9999 + 1) 102 (ekI (a, b)) (ekI (c, d)) := rfl
  rw [h]
  unfold ekI
  rw [run_equalIn_agg _ _ _ _ _ (by kernel_rfl) (by kernel_rfl)]
  rw [show (Tryd.prog.fieldsOf 102).toList = [{ name := "v", type := 3, offset := 0, embedded := false, tag := "", pkgPath := "forcola/hue", byteOffset := 0 }, { name := "hue", type := 3, offset := 1, embedded := false, tag := "", pkgPath := "forcola/hue", byteOffset := 8 }] from by kernel_rfl]
  have e3 : Tryd.prog.underlying 3 = some (.int .i64) := by kernel_rfl
  have p3 : ∀ (x y : Value) w, (part 3 #[x, y] 0).run Tryd.prog w = .ok x w := fun _ _ _ => by kernel_rfl
  have p4 : ∀ (x y : Value) w, (part 3 #[x, y] 1).run Tryd.prog w = .ok y w := fun _ _ _ => by kernel_rfl
  have hac : ∀ a c : Int, (a == c) = decide (a = c) := fun a c => by
    by_cases e : a = c
    · subst e; simp
    · rw [decide_eq_false e, beq_eq_false_iff_ne]; exact e
  have q3 : ∀ (a c : Int) w, (Op.equalIn 9999 3 (.int .i64 a) (.int .i64 c)).run Tryd.prog w = .ok (decide (a = c)) w := fun a c w => by rw [← hac]; exact run_equalIn_int w 9998 3 _ _ _ _ e3
  simp only [Op.eqFields, Sem.run_bind, Sem.run_ite]
  rw [if_pos (by decide)]
  rw [p3, Result.andThen_ok, p3, Result.andThen_ok, q3, Result.andThen_ok]
  by_cases e : a = c
  · rw [if_neg (by simp [e]), if_pos (by decide), p4, Result.andThen_ok, p4, Result.andThen_ok, q3, Result.andThen_ok]
    by_cases e' : b = d
    · simp [e, e']
    · simp [e, e']
  · rw [if_pos (by simp [e])]; simp [e]
theorem endKind : MapKind Tryd.prog 97 102 4 ekI bvv false where
  ut := Tryd.underlying97
  find := find_agg Tryd.underlying102 (fun a => ⟨_, rfl⟩) eq_end
  ck := fun _ _ _ => by kernel_rfl
  zero := fun _ => by kernel_rfl
  bits := fun a => by simp [Instr.sameBits, ekI]
theorem under72 : Tryd.prog.underlying 72 = some (.array 2 3) := by kernel_rfl
theorem index72 (x y : Int) (W : World) : (Instr.index 72 (.agg #[.int .i64 x, .int .i64 y]) (.int .i64 0)).run Tryd.prog W = .ok (.int .i64 x) W ∧ (Instr.index 72 (.agg #[.int .i64 x, .int .i64 y]) (.int .i64 1)).run Tryd.prog W = .ok (.int .i64 y) W := by
  constructor <;> simp [Instr.index, run_underlying under72, asIntOf, go_sem, part]
/-- the k-th edge ends at v -/
def endAt (ps : List (Int × Int)) (k : Nat) (v : Int) : Prop := v = (qa ps k).1 ∨ v = (qa ps k).2
/-- what has been seen: of the first i edges, and t ends of the next one -/
def SeenI (ps : List (Int × Int)) (f : Nat → Int) (i t : Nat) (col : Int × Int → Option Bool) : Prop := (∀ e b, col e = some b → b = true) ∧
  ∀ v h, col (v, h) ≠ none ↔ (∃ k, k < i ∧ endAt ps k v ∧ h = f k) ∨ (1 ≤ t ∧ v = (qa ps i).1 ∧ h = f i) ∨ (2 ≤ t ∧ v = (qa ps i).2 ∧ h = f i)
theorem SeenI.next {ps : List (Int × Int)} {f : Nat → Int} {i : Nat} {col : Int × Int → Option Bool} (h : SeenI ps f i 2 col) : SeenI ps f (i + 1) 0 col := by
  refine ⟨h.1, fun v hh => (h.2 v hh).trans ?_⟩
  constructor
  · rintro (⟨k, hk, h1, h2⟩ | ⟨_, h1, h2⟩ | ⟨_, h1, h2⟩)
    · exact .inl ⟨k, by omega, h1, h2⟩
    · exact .inl ⟨i, by omega, .inl h1, h2⟩
    · exact .inl ⟨i, by omega, .inr h1, h2⟩
  · rintro (⟨k, hk, h1, h2⟩ | ⟨h0, _⟩ | ⟨h0, _⟩)
    · by_cases e : k = i
      · subst e
        rcases h1 with h1 | h1
        · exact .inr (.inl ⟨by omega, h1, h2⟩)
        · exact .inr (.inr ⟨by omega, h1, h2⟩)
      · exact .inl ⟨k, by omega, h1, h2⟩
    · omega
    · omega
theorem SeenI.put1 {ps : List (Int × Int)} {f : Nat → Int} {i : Nat} {col : Int × Int → Option Bool} (h : SeenI ps f i 0 col) : SeenI ps f i 1 (setF col ((qa ps i).1, f i) (some true)) := by
  refine ⟨fun e b hb => ?_, fun v hh => ?_⟩
  · unfold setF at hb
    split at hb
    · cases hb; rfl
    · exact h.1 e b hb
  · have h2 := h.2 v hh
    unfold setF
    by_cases e : (v, hh) = ((qa ps i).1, f i)
    · rw [if_pos e]
      cases e
      simp
    · rw [if_neg e, h2]
      constructor
      · rintro (h1 | ⟨h0, _⟩ | ⟨h0, _⟩)
        · exact .inl h1
        · omega
        · omega
      · rintro (h1 | ⟨_, h1, h3⟩ | ⟨h0, _⟩)
        · exact .inl h1
        · exact absurd (by rw [h1, h3]) e
        · omega
theorem SeenI.put2 {ps : List (Int × Int)} {f : Nat → Int} {i : Nat} {col : Int × Int → Option Bool} (h : SeenI ps f i 1 col) : SeenI ps f i 2 (setF col ((qa ps i).2, f i) (some true)) := by
  refine ⟨fun e b hb => ?_, fun v hh => ?_⟩
  · unfold setF at hb
    split at hb
    · cases hb; rfl
    · exact h.1 e b hb
  · have h2 := h.2 v hh
    unfold setF
    by_cases e : (v, hh) = ((qa ps i).2, f i)
    · rw [if_pos e]
      cases e
      simp
    · rw [if_neg e, h2]
      constructor
      · rintro (h1 | ⟨_, h1⟩ | ⟨h0, _⟩)
        · exact .inl h1
        · exact .inr (.inl ⟨by omega, h1⟩)
        · omega
      · rintro (h1 | ⟨_, h1, h3⟩ | ⟨_, h1, h3⟩)
        · exact .inl h1
        · exact .inr (.inl ⟨by omega, h1, h3⟩)
        · exact absurd (by rw [h1, h3]) e
theorem meetB_end {ps : List (Int × Int)} {i k : Nat} : meetB (qa ps i) (qa ps k) = true ↔ endAt ps k (qa ps i).1 ∨ endAt ps k (qa ps i).2 := by
  unfold meetB endAt
  simp only [Bool.or_eq_true, beq_iff_eq]
  constructor
  · rintro (((h | h) | h) | h)
    · exact .inl (.inl h)
    · exact .inl (.inr h)
    · exact .inr (.inl h)
    · exact .inr (.inr h)
  · rintro ((h | h) | (h | h))
    · exact .inl (.inl (.inl h))
    · exact .inl (.inl (.inr h))
    · exact .inl (.inr h)
    · exact .inr h
/-- what IsProper answers -/
def IsPP (ps : List (Int × Int)) (f : Nat → Int) (m : Nat) (e : Ending) : Prop := ∃ (b : Bool) (c : Int), e = .returned (.tuple #[.bool b, .int .i64 c]) ∧ ((c = 70 ∧ b = false ∧ ¬ ((∀ j, j < m → 0 ≤ f j) ∧ m = ps.length)) ∨ (c = 0 ∧ ((∀ j, j < m → 0 ≤ f j) ∧ m = ps.length) ∧ (b = true ↔ ProperI ps f)))
end Go.Proofs.YtpknnjcbcndbbaaDoor
namespace Go.Proofs.YtpknnjcbcndbbaaDoor
open Go.RowKit Go.Shelf

theorem IsPP.bad {ps : List (Int × Int)} {f : Nat → Int} {m : Nat} (h : ¬ ((∀ j, j < m → 0 ≤ f j) ∧ m = ps.length)) : IsPP ps f m (.returned (.tuple #[.bool false, .int .i64 70])) := ⟨false, 70, rfl, .inl ⟨rfl, rfl, h⟩⟩
theorem IsPP.no {ps : List (Int × Int)} {f : Nat → Int} {m : Nat} (h : (∀ j, j < m → 0 ≤ f j) ∧ m = ps.length) (hn : ¬ ProperI ps f) : IsPP ps f m (.returned (.tuple #[.bool false, .int .i64 0])) := ⟨false, 0, rfl, .inr ⟨rfl, h, by simp, fun h' => absurd h' hn⟩⟩
theorem IsPP.yes {ps : List (Int × Int)} {f : Nat → Int} {m : Nat} (h : (∀ j, j < m → 0 ≤ f j) ∧ m = ps.length) (hn : ProperI ps f) : IsPP ps f m (.returned (.tuple #[.bool true, .int .i64 0])) := ⟨true, 0, rfl, .inr ⟨rfl, h, fun _ => hn, fun _ => rfl⟩⟩
/-- the map of what has been seen -/
def MapS (W : World) (M : Nat) (ps : List (Int × Int)) (f : Nat → Int) (i t : Nat) : Prop := ∃ col, MapF ekI bvv W M col ∧ SeenI ps f i t col
set_option maxRecDepth 100000 in
set_option maxHeartbeats 4000000 in
theorem IsProper_ok (n : Nat) (a p : Option Addr) (cap m c : Nat) (ps : List (Int × Int)) (f : Nat → Int) (w : World) (hG : Good n ps a w) (hm : m ≤ 1099511627776) (hs : SrcI w p m f) :
    Calls Tryd.prog 35 #[.int .i64 (n : Int), .slice a ps.length cap, .slice p m c] w fun e w' => IsPP ps f m e ∧ Below w.heap.size w w' := by
  have HO := Lib.hid (gopen_ok n a cap ps w hG.hl hG.hg hG.n1 hG.n2 hG.ok)
  have HG := Lib.hid hG
  have HS := Lib.hid hs
  have hlen := hG.hl
  have HE := Lib.hid (edgesOK hG.n2 hG.ok)
  clear hG hs
  have hmm := @run_makeMap Tryd.prog
  by_cases hml : m = ps.length
  · subst hml
    have HCT : Hid (∀ W, Below w.heap.size w W → Calls Tryd.prog 65 #[.slice p ps.length c, .func (.func 66) #[] #[]] W fun e w' => BoolP (∃ j, j < ps.length ∧ f j < 0) e ∧ w' = W) := fun W hW => contains_any p ps.length c f W hlen (HS.out.below hW (Nat.le_refl _))
    obtain ⟨len, HL⟩ : ∃ len, Hid (ps.length = len) := ⟨_, rfl⟩
    rw [HL.out] at HO HS HCT hlen ⊢
    have hne : ((len : Int) != (len : Int)) = false := by simp
    go_enter Tryd.func35, Tryd.ntmps35
    go_upto_if 32 with (first
      | (go_at_call 52; refine HO.out.mono ?_; rintro e w1 ⟨B, rfl, hBl, hg1, hb1⟩; have HG1 := Lib.hid hg1; have HB1 := Lib.hid hb1; clear hBl hg1 hb1)
      | (go_at_call 65; refine (HCT.out _ HB1.out).mono ?_; rintro e w2 ⟨⟨b2, rfl, hb2⟩, hw2⟩; have HC2 := Lib.hid hb2; subst hw2; clear hb2; try dsimp only))
    clear hne
    cases b2 with
    | true =>
      have HN : Hid (¬ ((∀ j, j < len → 0 ≤ f j) ∧ len = ps.length)) := fun h => by
        obtain ⟨j, hj, hn⟩ := HC2.out.1 rfl
        have := h.1 j hj; omega
      go_wp2
      refine bodyPost_ret (v := .tuple #[.bool false, .int .i64 70]) (by simp [results, Tryd.f35, go_sem]) rfl ?_
      exact ⟨IsPP.bad HN.out, HB1.out⟩
    | false =>
      have HV : Hid ((∀ j, j < len → 0 ≤ f j) ∧ len = ps.length) := ⟨fun j hj => Int.not_lt.1 fun hn => absurd (HC2.out.2 ⟨j, hj, hn⟩) (by simp), HL.out.symm⟩
      have hc1 := HG1.out.e
      have hBlt := HG1.out.lt
      go_upto_region 7 with (fail)
      obtain ⟨M, hM⟩ : ∃ M, Hid (M = w2.heap.size) := ⟨_, rfl⟩
      have hM0 : MapS (w2.alloc (.map #[] 0)) M ps f 0 0 := ⟨_, by rw [hM.out]; exact MapF.made w2, (fun e b h => by cases h), fun v h => ⟨fun h => absurd rfl h, fun h => by
        rcases h with ⟨k, hk, _⟩ | ⟨h0, _⟩ | ⟨h0, _⟩ <;> omega⟩⟩
      have hBV : Below w2.heap.size w2 (w2.alloc (.map #[] 0)) := (Below.refl _ _).alloc (Nat.le_refl _) _
      have hc2 := (hBV.cell (p := ⟨B, 1, none⟩) hBlt).trans hc1
      rw [← hM.out]
      generalize (w2.alloc (.map #[] 0)) = V at *
      have HM0 := Lib.hid hM0
      have HBV := Lib.hid hBV
      clear hM0 hBV hc1 hmm
      go_upto_region 8 with (fail)
      clear hc2
      go_loopw [39] (fun s39 wr => ∃ i : Nat, i ≤ len ∧ s39 = .int .i64 (i : Int) ∧ Hid (MapS wr M ps f i 0) ∧ Hid (∀ i', i' < i → ∀ k, k < i' → ¬ (f i' = f k ∧ meetB (qa ps i') (qa ps k) = true)) ∧ Hid (Below w2.heap.size w2 wr)) (fun s39 _ => len - (intOf s39).toNat)
      case atStart => exact ⟨0, by omega, rfl, HM0, (fun i hi => by omega), HBV⟩
      case round =>
        obtain ⟨i, hi, rfl, hmp, hpr, hB⟩ := hrel
        by_cases hil : i < len
        · have g1 : (i : Int) < (len : Int) := by omega
          have g0 : (0 : Int) ≤ (i : Int) := by omega
          obtain ⟨eb, eo, ea, helt, hec⟩ := HG.out.hg (fun e => by rw [e] at HL; have := HL.out; simp at this; omega)
          have hk0 := hec i (by rw [HL.out]; exact hil)
          obtain ⟨b, o, ep, hb, hc⟩ := HS.out (by omega)
          have hB0 := HB1.out.trans (hB.out.mono HB1.out.size)
          have e0 : wr.cell? ⟨eb, eo + i * 2, none⟩ = some (.int .i64 (qa ps i).1) := (hB0.cell (p := ⟨eb, eo + i * 2, none⟩) helt).trans hk0.1
          have e1 : wr.cell? ⟨eb, eo + i * 2 + 1, none⟩ = some (.int .i64 (qa ps i).2) := (hB0.cell (p := ⟨eb, eo + i * 2 + 1, none⟩) helt).trans hk0.2
          have HH : Hid (∀ W, Below w2.heap.size w2 W → W.cell? ⟨b, o + i, none⟩ = some (.int .i64 (f i))) := fun W hW => ((HB1.out.trans (hW.mono HB1.out.size)).cell (p := ⟨b, o + i, none⟩) hb).trans (hc i hil)
          subst ea
          subst ep
          have hxy : Hid ((qa ps i).1 ≠ (qa ps i).2) := by
            obtain ⟨x, y, e, -, -, h, -⟩ := HE.out.at (show i < ps.length by rw [HL.out]; exact hil)
            rw [Hid, e]; simp only; omega
          have HBADP : Hid (∀ k, k < i → f i = f k → meetB (qa ps i) (qa ps k) = true → ¬ ProperI ps f) := fun k hk h1 h2 h => h i (by rw [HL.out]; exact hil) k hk ⟨h1, h2⟩
          have HI72 := index72 (qa ps i).1 (qa ps i).2
          clear hec hk0 hc hB0
          go_upto_region 11 with (fail)
          obtain ⟨x, hx⟩ : ∃ x, Hid (x = (qa ps i).1) := ⟨_, rfl⟩
          obtain ⟨y, hy⟩ : ∃ y, Hid (y = (qa ps i).2) := ⟨_, rfl⟩
          rw [← hx.out, ← hy.out] at HI72
          rw [← hx.out] at e0
          rw [← hy.out] at e1
          have hBV2 : Below wr.heap.size wr (wr.alloc (.cells #[.int .i64 x, .int .i64 y] 72)) := (Below.refl _ _).alloc (Nat.le_refl _) _
          have hMV : MapS (wr.alloc (.cells #[.int .i64 x, .int .i64 y] 72)) M ps f i 0 := by
            obtain ⟨col, h1, h2⟩ := hmp.out
            exact ⟨col, h1.below hBV2 h1.lt, h2⟩
          have hi0 := fun W => (HI72 W).1
          have hi1 := fun W => (HI72 W).2
          rw [← hx.out, ← hy.out]
          generalize (wr.alloc (.cells #[.int .i64 x, .int .i64 y] 72)) = V2 at *
          have HMV := Lib.hid hMV
          have HBV2 := Lib.hid (hB.out.trans (hBV2.mono hB.out.size))
          clear hBV2 hMV HI72 e0 e1 hmp
          go_loopw [45] (fun s45 wr3 => ∃ t : Nat, t ≤ 2 ∧ s45 = .int .i64 (t : Int) ∧ Hid (MapS wr3 M ps f i t) ∧ Hid (∀ k, k < i → f i = f k → (1 ≤ t → ¬ endAt ps k x) ∧ (2 ≤ t → ¬ endAt ps k y)) ∧ Hid (Below w2.heap.size w2 wr3)) (fun s45 _ => 3 - (intOf s45).toNat)
          case atStart => exact ⟨0, by omega, rfl, HMV, (fun k hk he => ⟨fun h => by omega, fun h => by omega⟩), HBV2⟩
          case round =>
            obtain ⟨t, ht, rfl, hmp, hnt, hB3⟩ := hrel
            have hh := HH.out _ hB3.out
            obtain ⟨col, hMM, hSe⟩ := hmp.out
            rcases (show t = 0 ∨ t = 1 ∨ t = 2 by omega) with rfl | rfl | rfl
            · -- the end x
              have hlk := look_f endKind false (x, f i) wr M col hMM
              cases hcol : col (x, f i) with
              | some bb =>
                obtain rfl : bb = true := hSe.1 _ _ hcol
                rw [hcol] at hlk
                have hlk2 : (Instr.lookup 97 (.map (some M)) (.agg #[.int .i64 x, .int .i64 (f i)]) false).run Tryd.prog wr = .ok (.bool true) wr := hlk
                have HBAD : Hid (¬ ProperI ps f) := by
                  have := (hSe.2 x (f i)).1 (by rw [hcol]; simp)
                  rcases this with ⟨k, hk, h1, h2⟩ | ⟨h1, _⟩ | ⟨h1, _⟩
                  · exact HBADP.out k hk h2 (meetB_end.2 (.inl (by rw [← hx.out]; exact h1)))
                  · exact absurd h1 (by omega)
                  · omega
                generalize f i = fi at *
                clear hlk hcol hMM hSe
                go_wp2
                refine bodyPost_ret (v := .tuple #[.bool false, .int .i64 0]) (by simp [results, Tryd.f35, go_sem]) rfl ?_
                exact ⟨IsPP.no HV.out HBAD.out, HB1.out.trans (hB3.out.mono HB1.out.size)⟩
              | none =>
                rw [hcol] at hlk
                have hlk2 : (Instr.lookup 97 (.map (some M)) (.agg #[.int .i64 x, .int .i64 (f i)]) false).run Tryd.prog wr = .ok (.bool false) wr := hlk
                have HNT : Hid (∀ k, k < i → f i = f k → (1 ≤ 0 + 1 → ¬ endAt ps k x) ∧ (2 ≤ 0 + 1 → ¬ endAt ps k y)) := fun k hk he => by
                  have h0 := hnt.out k hk he
                  have h1 : ¬ endAt ps k x := fun h => by
                    have := (hSe.2 x (f i)).2 (.inl ⟨k, hk, h, he⟩)
                    exact this hcol
                  exact ⟨fun _ => h1, fun h => by omega⟩
                have HS1 : Hid (SeenI ps f i (0 + 1) (setF col (x, f i) (some true))) := by rw [hx.out]; exact hSe.put1
                have HMM := Lib.hid hMM
                have hMlt := hMM.lt
                have HFI : Hid ((ekI (x, f i)) = .agg #[.int .i64 x, .int .i64 (f i)]) := rfl
                clear hlk hcol hMM hSe hmp
                go_upto_block 3 with (fail)
                go_wp2_with (refine wpList_store_f endKind rfl (.tmp 56) (.tmp 62) (.const (.bool true)) rfl M col (x, f i) true rfl rfl rfl HMM.out ?_; intro w8 hM8 hg8; have HM8 : Hid (MapS w8 M ps f i (0 + 1)) := ⟨_, hM8, HS1.out⟩; have HB8 : Hid (Below w2.heap.size w2 w8) := Below.grown hB3.out hg8 hB3.out.size (fun k hk => by cases hk; have := hM.out; omega); clear hM8 hg8)
                exact ⟨⟨0 + 1, by omega, int_eq (by omega), HM8, HNT, HB8⟩, by simp [intOf]⟩
            · -- the end y
              have hlk := look_f endKind false (y, f i) wr M col hMM
              cases hcol : col (y, f i) with
              | some bb =>
                obtain rfl : bb = true := hSe.1 _ _ hcol
                rw [hcol] at hlk
                have hlk2 : (Instr.lookup 97 (.map (some M)) (.agg #[.int .i64 y, .int .i64 (f i)]) false).run Tryd.prog wr = .ok (.bool true) wr := hlk
                have HBAD : Hid (¬ ProperI ps f) := by
                  have := (hSe.2 y (f i)).1 (by rw [hcol]; simp)
                  rcases this with ⟨k, hk, h1, h2⟩ | ⟨_, h1, _⟩ | ⟨h1, _⟩
                  · exact HBADP.out k hk h2 (meetB_end.2 (.inr (by rw [← hy.out]; exact h1)))
                  · exact absurd h1 (by rw [hy.out]; exact hxy.out.symm)
                  · omega
                generalize f i = fi at *
                clear hlk hcol hMM hSe
                go_wp2
                refine bodyPost_ret (v := .tuple #[.bool false, .int .i64 0]) (by simp [results, Tryd.f35, go_sem]) rfl ?_
                exact ⟨IsPP.no HV.out HBAD.out, HB1.out.trans (hB3.out.mono HB1.out.size)⟩
              | none =>
                rw [hcol] at hlk
                have hlk2 : (Instr.lookup 97 (.map (some M)) (.agg #[.int .i64 y, .int .i64 (f i)]) false).run Tryd.prog wr = .ok (.bool false) wr := hlk
                have HNT : Hid (∀ k, k < i → f i = f k → (1 ≤ 1 + 1 → ¬ endAt ps k x) ∧ (2 ≤ 1 + 1 → ¬ endAt ps k y)) := fun k hk he => by
                  have h0 := hnt.out k hk he
                  have h1 : ¬ endAt ps k y := fun h => by
                    have := (hSe.2 y (f i)).2 (.inl ⟨k, hk, h, he⟩)
                    exact this hcol
                  exact ⟨fun _ => h0.1 (by omega), fun _ => h1⟩
                have HS1 : Hid (SeenI ps f i (1 + 1) (setF col (y, f i) (some true))) := by rw [hy.out]; exact hSe.put2
                have HMM := Lib.hid hMM
                have hMlt := hMM.lt
                have HFI : Hid ((ekI (y, f i)) = .agg #[.int .i64 y, .int .i64 (f i)]) := rfl
                clear hlk hcol hMM hSe hmp
                go_upto_block 3 with (fail)
                go_wp2_with (refine wpList_store_f endKind rfl (.tmp 56) (.tmp 62) (.const (.bool true)) rfl M col (y, f i) true rfl rfl rfl HMM.out ?_; intro w8 hM8 hg8; have HM8 : Hid (MapS w8 M ps f i (1 + 1)) := ⟨_, hM8, HS1.out⟩; have HB8 : Hid (Below w2.heap.size w2 w8) := Below.grown hB3.out hg8 hB3.out.size (fun k hk => by cases hk; have := hM.out; omega); clear hM8 hg8)
                exact ⟨⟨1 + 1, by omega, int_eq (by omega), HM8, HNT, HB8⟩, by simp [intOf]⟩
            · have HNX : Hid (∀ i', i' < i + 1 → ∀ k, k < i' → ¬ (f i' = f k ∧ meetB (qa ps i') (qa ps k) = true)) := fun i' hi' k hk hc => by
                by_cases e : i' = i
                · subst e
                  obtain ⟨h1, h2⟩ := hnt.out k hk hc.1
                  rcases meetB_end.1 hc.2 with h | h
                  · exact h1 (by omega) (by rw [hx.out]; exact h)
                  · exact h2 (by omega) (by rw [hy.out]; exact h)
                · exact hpr.out i' (by omega) k hk hc
              have HMN : Hid (MapS wr M ps f (i + 1) 0) := ⟨col, hMM, hSe.next⟩
              clear hMM hSe hmp
              go_wp2
              exact ⟨⟨i + 1, by omega, int_eq (by omega), HMN, HNX, hB3⟩, by simp [intOf]; omega⟩
        · have g1 : ¬ (i : Int) < (len : Int) := by omega
          have HP : Hid (ProperI ps f) := fun i' hi' => hpr.out i' (by rw [HL.out] at hi'; omega)
          go_wp2
          refine bodyPost_ret (v := .tuple #[.bool true, .int .i64 0]) (by simp [results, Tryd.f35, go_sem]) rfl ?_
          exact ⟨IsPP.yes HV.out HP.out, HB1.out.trans (hB.out.mono HB1.out.size)⟩
  · have hne : ((m : Int) != (ps.length : Int)) = true := by rw [bne_iff_ne]; omega
    have HN : Hid (¬ ((∀ j, j < m → 0 ≤ f j) ∧ m = ps.length)) := fun h => hml h.2
    clear hml
    go_enter Tryd.func35, Tryd.ntmps35
    go_wp2_with (go_at_call 52; refine HO.out.mono ?_; rintro e w1 ⟨B, rfl, hBl, hg1, hb1⟩; have HB1 := Lib.hid hb1; clear hBl hg1 hb1)
    refine bodyPost_ret (v := .tuple #[.bool false, .int .i64 70]) (by simp [results, Tryd.f35, go_sem]) rfl ?_
    exact ⟨IsPP.bad HN.out, HB1.out⟩
end Go.Proofs.YtpknnjcbcndbbaaDoor
namespace Go.Proofs.YtpknnjcbcndbbaaDoor
open Go.RowKit Go.Shelf

/-- a slice of integers as it comes in -/
structure IntsIn (w : World) (a : Option Addr) (cap : Nat) (xs : List Int) : Prop where
  g : SrcI w a xs.length (fun j => xs[j]?.getD 0)
  fits : xs.length ≤ cap
  capm : cap ≤ maxLen
  nil : a = none → cap = 0
theorem SrcI.take {w : World} {p : Option Addr} {m k : Nat} {f : Nat → Int} (h : SrcI w p m f) (hk : k ≤ m) : SrcI w p k f := fun h0 => by
  obtain ⟨b, o, e, h1, h2⟩ := h (by omega)
  exact ⟨b, o, e, h1, fun j hj => h2 j (by omega)⟩
set_option maxRecDepth 100000 in
set_option maxHeartbeats 2000000 in
theorem list_copy (a : Option Addr) (cap most : Nat) (xs : List Int) (w : World) (hm : most ≤ 1000) (h : IntsIn w a cap xs) :
    Calls Tryd.prog 34 #[.slice a xs.length cap, .int .i64 (most : Int)] w fun e w' => ∃ v, e = .returned v ∧ QRow w' w.heap.size 3 1 v (min xs.length most) (ivI (fun j => xs[j]?.getD 0) (min xs.length most)) ∧ Below w.heap.size w w' := by
  obtain ⟨i0, hi, hz0, hz1, hz2⟩ := info_parts info3
  have HS := Lib.hid ((h.g.take (Nat.min_le_left xs.length most)).src)
  have HONE := Lib.hid (ivI_one (fun j => xs[j]?.getD 0) (min xs.length most))
  have hf := h.fits
  have hcm := h.capm
  have hnil := h.nil
  unfold maxLen at hcm
  obtain ⟨k, hk⟩ : ∃ k, Hid (k = min xs.length most) := ⟨_, rfl⟩
  rw [← hk.out] at HS HONE ⊢
  have hkl : k ≤ xs.length := by rw [hk.out]; exact Nat.min_le_left _ _
  have hkm : k ≤ most := by rw [hk.out]; exact Nat.min_le_right _ _
  have hmin : min (xs.length : Int) (most : Int) = (k : Int) := by rw [hk.out]; omega
  generalize xs.length = len at *
  clear h
  cases a with
  | none =>
    have hc0 : cap = 0 := hnil rfl
    have hk0 : k = 0 := by omega
    clear hnil
    go_enter Tryd.func34, Tryd.ntmps34
    go_wp2
    go_ret
    refine ⟨_, rfl, ?_, Below.refl _ _⟩
    rw [hk0]
    exact QRow.nil _ _ _ _
  | some ad =>
    clear hnil
    go_enter Tryd.func34, Tryd.ntmps34
    go_wp2_with (at_builtin; go_must (refine wpList_append_qq _ rfl (.tmp 6) (.tmp 12) 25 rfl w.heap.size 3 i0 (.int .i64 0) 1 8 Tryd.underlying25 hi hz0 hz1 hz2 rfl (by decide) _ 0 [] rfl (QRow.nil _ _ _ _) (some ad) k cap (ivI (fun j => xs[j]?.getD 0) k) rfl HS.out HONE.out (by unfold maxLen; omega) (by omega) (Nat.le_refl _) ?_); intro v6 w6 hq6 hg6 ho6; have HB6 : Hid (Below w.heap.size w w6) := Below.grown (Below.refl _ w) hg6 (Nat.le_refl _) (fun kk e => by cases e); have HQ6 : Hid (QRow w6 w.heap.size 3 1 v6 k (ivI (fun j => xs[j]?.getD 0) k)) := (by rw [Nat.zero_add, List.nil_append] at hq6; exact hq6); clear hq6 hg6 ho6)
    go_ret
    exact ⟨v6, rfl, HQ6.out, HB6.out⟩
/-- an odd ring is found right -/
theorem nth_lt {l : List Nat} {n i : Nat} (h : ∀ x ∈ l, x < n) (hi : i < l.length) : nth l i < n := by
  unfold nth; rw [List.getElem?_eq_getElem hi]; exact h _ (List.getElem_mem hi)
def ringM (l : List Nat) : Nat → Nat
  | 0 => 0
  | k + 1 => ringM l k ||| pw (nth l k)
theorem ringM_bit (l : List Nat) (x : Nat) : ∀ k, (ringM l k).testBit x = true ↔ ∃ j, j < k ∧ nth l j = x
  | 0 => by simp [ringM]
  | k + 1 => by
    have ih := ringM_bit l x k
    rw [ringM, Nat.testBit_or, pw, Nat.testBit_two_pow, Bool.or_eq_true, ih, decide_eq_true_iff]
    constructor
    · rintro (⟨j, hj, h⟩ | h)
      · exact ⟨j, by omega, h⟩
      · exact ⟨k, by omega, h⟩
    · rintro ⟨j, hj, h⟩
      by_cases e : j = k
      · subst e; exact .inr h
      · exact .inl ⟨j, by omega, h⟩
theorem ringM_sm {l : List Nat} {n : Nat} (h : ∀ x ∈ l, x < n) (hn : n ≤ 16) : ∀ k, k ≤ l.length → Sm (ringM l k)
  | 0, _ => by unfold ringM; exact sm_of (by decide)
  | k + 1, hk => by
    rw [ringM]
    exact sm_or (ringM_sm h hn k (by omega)) (sm_pw (by have := nth_lt h (show k < l.length by omega); omega))
set_option maxRecDepth 100000 in
set_option maxHeartbeats 4000000 in
theorem roddring_true (n : Nat) (a : Option Addr) (cap : Nat) (p : Option Addr) (c : Nat) (g l : List Nat) (w : World) (hl : g.length = n) (hn : n ≤ 16) (hsm : ∀ i : Nat, Sm (g[i]?.getD 0)) (hg : Sets w a g) (hO : OddR g l) (hln : ∀ x ∈ l, x < n) (hs : SrcI w p l.length (fun j => (nth l j : Nat))) :
    Calls Tryd.prog 36 #[.slice a n cap, .slice p l.length c] w fun e w' => e = .returned (.bool true) ∧ Below w.heap.size w w' := by
  have hlen : l.length ≤ 16 := by
    have := nodup_sub l (List.range n) hO.nd (fun x hx => List.mem_range.2 (hln x hx))
    rw [List.length_range] at this; omega
  have hl3 := hO.len
  have hodd := hO.odd
  obtain ⟨b, off, rfl, hb, hc⟩ := hg
  have HC := Lib.hid hc
  have HS := Lib.hid hsm
  have HLN := Lib.hid hl
  have HOD := Lib.hid hO
  have HLT := Lib.hid hln
  obtain ⟨lb, lo, rfl, hlb, hlc⟩ := hs (by omega)
  have HLC := Lib.hid hlc
  clear hc hsm hl hO hln hlc hs
  obtain ⟨m, hm⟩ : ∃ m, Hid (m = l.length) := ⟨_, rfl⟩
  rw [← hm.out] at hlen hl3 hodd HLC ⊢
  have t1 : decide ((m : Int) < 3) = false := decide_eq_false (by omega)
  have t2 : ((m : Int) % 2 == 0) = false := by rw [beq_eq_false_iff_ne]; omega
  go_enter Tryd.func36, Tryd.ntmps36
  go_upto_region 5 with (fail)
  go_loopw [5, 6] (fun s5 s6 wr => ∃ k : Nat, k ≤ m ∧ s6 = .int .i64 (k : Int) ∧ s5 = .int .i64 (ringM l k : Nat) ∧ Hid (wr = w)) (fun _ s6 _ => 40 - (intOf s6).toNat)
  case atStart => exact ⟨0, by omega, rfl, rfl, rfl⟩
  case round =>
    obtain ⟨k, hk, rfl, rfl, hw⟩ := hrel
    rw [hw.out]
    by_cases hkm : k < m
    · have g1 : (k : Int) < (m : Int) := by omega
      have g0 : (0 : Int) ≤ (k : Int) := by omega
      have k1 : w.cell? ⟨lb, lo + k, none⟩ = some (.int .i64 (nth l k : Nat)) := HLC.out k hkm
      have hxn := nth_lt HLT.out (show k < l.length by rw [← hm.out]; exact hkm)
      have hsm := ringM_sm HLT.out hn k (by rw [← hm.out]; omega)
      have HNX : Hid (ringM l (k + 1) = ringM l k ||| pw (nth l k)) := rfl
      have hno : (ringM l k).testBit (nth l k) = false := by
        cases hb : (ringM l k).testBit (nth l k) with
        | false => rfl
        | true =>
          obtain ⟨j, hj, e⟩ := (ringM_bit l _ k).1 hb
          have := nth_nd HOD.out.nd (show j < l.length by rw [← hm.out]; omega) (show k < l.length by rw [← hm.out]; exact hkm) e
          omega
      generalize ringM l k = rm at *
      generalize nth l k = x at *
      have hx0 : (0 : Int) ≤ (x : Int) := by omega
      have t3 : decide ((x : Int) < 0) = false := decide_eq_false (by omega)
      have t4 : decide ((n : Int) ≤ (x : Int)) = false := decide_eq_false (by omega)
      have hx20 : x < 20 := by omega
      have hpx : wrap64 (2 ^ x) = ((pw x : Nat) : Int) := pw_cast _ (by omega)
      have hspx : Sm (pw x) := sm_pw (by omega)
      go_wp2
      exact ⟨⟨k + 1, by omega, int_eq (by omega), by rw [HNX.out], Lib.hid trivial⟩, by simp [intOf]; omega⟩
    · have g1 : ¬ (k : Int) < (m : Int) := by omega
      clear g1
      have g1 : ¬ (k : Int) < (m : Int) := by omega
      go_upto_region 11 with (fail)
      go_loopw [7] (fun s7 wr2 => ∃ i : Nat, i ≤ m ∧ s7 = .int .i64 (i : Int) ∧ Hid (Below w.heap.size w wr2)) (fun s7 _ => 40 - (intOf s7).toNat)
      case atStart => exact ⟨0, by omega, rfl, Below.refl _ _⟩
      case round =>
        obtain ⟨i, hi, rfl, hB⟩ := hrel
        by_cases him : i < m
        · have g2 : (i : Int) < (m : Int) := by omega
          have g0 : (0 : Int) ≤ (i : Int) := by omega
          have hnx : (i + 1) % m < m := Nat.mod_lt _ (by omega)
          have k1 : wr.cell? ⟨lb, lo + i, none⟩ = some (.int .i64 (nth l i : Nat)) := (hB.out.cell (p := ⟨lb, lo + i, none⟩) hlb).trans (HLC.out i him)
          have k2 : wr.cell? ⟨lb, lo + (i + 1) % m, none⟩ = some (.int .i64 (nth l ((i + 1) % m) : Nat)) := (hB.out.cell (p := ⟨lb, lo + (i + 1) % m, none⟩) hlb).trans (HLC.out _ hnx)
          have hxn := nth_lt HLT.out (show i < l.length by rw [← hm.out]; exact him)
          have hyn := nth_lt HLT.out (show (i + 1) % m < l.length by rw [← hm.out]; exact hnx)
          have k3 := (hB.out.cell (p := ⟨b, off + nth l i, none⟩) hb).trans (HC.out (nth l i) (by rw [HLN.out]; exact hxn))
          have hgk := HS.out (nth l i)
          have hbit : (g[nth l i]?.getD 0).testBit (nth l ((i + 1) % m)) = true := by
            have := HOD.out.edge i (by rw [← hm.out]; exact him)
            rw [← hm.out] at this
            exact this
          have hmi : ((i : Int) + 1) % (m : Int) = (((i + 1) % m : Nat) : Int) := by simp
          generalize (i + 1) % m = i2 at *
          generalize g[nth l i]?.getD 0 = z at *
          generalize nth l i = x at *
          generalize nth l i2 = y at *
          have e1 : (x : Int) < (n : Int) := by omega
          have e2 : (0 : Int) ≤ (x : Int) := by omega
          have e3 : (i2 : Int) < (m : Int) := by omega
          have e4 : (0 : Int) ≤ (i2 : Int) := by omega
          have e5 : (0 : Int) ≤ (y : Int) := by omega
          have e6 : y < 20 := by omega
          have e7 : ((m : Nat) : Int) ≠ 0 := by omega
          go_upto_region 13 with (fail)
          go_region
          go_wp2
          exact ⟨⟨i + 1, by omega, int_eq (by omega), hB.out.drew⟩, by simp [intOf]; omega⟩
        · have g2 : ¬ (i : Int) < (m : Int) := by omega
          go_wp2
          go_ret
          exact ⟨rfl, hB.out⟩
end Go.Proofs.YtpknnjcbcndbbaaDoor
namespace Go.Proofs.YtpknnjcbcndbbaaDoor
open Go.ChangeShapes Go.WideShapes Go.ChangeAt Go.RowKit

def slen : Value → Nat
  | .slice _ n _ => n
  | _ => 0
def IntRow (W : World) (N : Nat) (v : Value) (m : Nat) : Prop := ∃ f : Nat → Int, QRow W N 3 1 v m (ivI f m)
theorem QRow.cut {w : World} {base : Nat} {e : TypeId} {size : Nat} {p : Option Addr} {m c k : Nat} {xs : List Value} (h : QRow w base e size (.slice p m c) m xs) (hk : k ≤ m) : QRow w base e size (.slice p k c) k (xs.take (k * size)) := by
  have hks : k * size ≤ m * size := Nat.mul_le_mul_right _ hk
  refine ⟨by rw [List.length_take, h.1]; omega, ?_⟩
  rcases h.2 with ⟨e0, h0⟩ | ⟨g, o, cap, cur, e1, hb, hg, h1, h2, h3, h4⟩
  · cases e0; exact .inl ⟨by rw [show k = 0 by omega], by omega⟩
  · cases e1
    exact .inr ⟨g, o, c, cur, rfl, hb, hg, by omega, h2, h3, fun j hj => by rw [h4 j (by omega), List.getElem?_take, if_pos hj]⟩
theorem QRow.cap {w : World} {base : Nat} {e : TypeId} {size : Nat} {p : Option Addr} {m c : Nat} {xs : List Value} (h : QRow w base e size (.slice p m c) m xs) : m ≤ c ∧ c ≤ maxLen := by
  rcases h.2 with ⟨e0, h0⟩ | ⟨g, o, cap, cur, e1, hb, hg, h1, h2, _⟩
  · cases e0; exact ⟨Nat.le_refl _, by decide⟩
  · cases e1; exact ⟨h1, h2⟩
theorem ivI_take (f : Nat → Int) {k m : Nat} (hk : k ≤ m) : (ivI f m).take k = ivI f k := by
  unfold ivI
  rw [← List.map_take, List.take_range, Nat.min_eq_left hk]
theorem ivI_set (f : Nat → Int) {j m : Nat} (z : Int) : (ivI f m).set j (.int .i64 z) = ivI (fun i => if i = j then z else f i) m := by
  refine List.ext_getElem? fun i => ?_
  rw [List.getElem?_set]
  by_cases hi : i < m
  · rw [ivI_get _ m i hi, ivI_get _ m i hi]
    by_cases e : j = i
    · subst e; rw [ivI_len, if_pos rfl, if_pos hi, if_pos rfl]
    · rw [if_neg e, if_neg (Ne.symm e)]
  · rw [List.getElem?_eq_none (by rw [ivI_len]; omega), List.getElem?_eq_none (by rw [ivI_len]; omega), ivI_len]
    by_cases e : j = i
    · rw [if_pos e, if_neg (by omega)]
    · rw [if_neg e]
theorem ivI_push (f : Nat → Int) (m : Nat) (z : Int) : ivI f m ++ [.int .i64 z] = ivI (fun i => if i = m then z else f i) (m + 1) := by
  refine List.ext_getElem? fun i => ?_
  by_cases hi : i < m
  · rw [List.getElem?_append_left (by rw [ivI_len]; omega), ivI_get _ m i hi, ivI_get _ (m + 1) i (by omega), if_neg (by omega)]
  · rw [List.getElem?_append_right (by rw [ivI_len]; omega), ivI_len]
    by_cases e : i = m
    · subst e; rw [ivI_get _ (i + 1) i (by omega), if_pos rfl, Nat.sub_self]; rfl
    · rw [List.getElem?_eq_none (by simp; omega), List.getElem?_eq_none (by rw [ivI_len]; omega)]
theorem IntRow.take {W : World} {N : Nat} {p : Option Addr} {m c k : Nat} (h : IntRow W N (.slice p m c) m) (hk : k ≤ m) : IntRow W N (.slice p k c) k := by
  obtain ⟨f, h⟩ := h
  have := h.cut hk
  rw [Nat.mul_one, ivI_take f hk] at this
  exact ⟨f, this⟩
theorem IntRow.put {W : World} {N g o m c j : Nat} (h : IntRow W N (.slice (some ⟨g, o, none⟩) m c) m) (hj : j < m) (z : Int) : IntRow (W.setCell ⟨g, o + j, none⟩ (.int .i64 z)) N (.slice (some ⟨g, o, none⟩) m c) m := by
  obtain ⟨f, h⟩ := h
  have := h.set j (by omega) (.int .i64 z)
  rw [ivI_set f z] at this
  exact ⟨_, this⟩
theorem IntRow.lt {W : World} {N : Nat} {v : Value} {m : Nat} (h : IntRow W N v m) : ∀ k, v.ownBlock = some k → N ≤ k ∧ k < W.heap.size := by
  obtain ⟨f, h⟩ := h
  exact h.lt
theorem IntRow.below {W W' : World} {N n : Nat} {v : Value} {m : Nat} (h : IntRow W N v m) (hB : Below n W W') (hn : W.heap.size ≤ n) : IntRow W' N v m := by
  obtain ⟨f, h⟩ := h
  exact ⟨f, h.below hB fun k hk => Nat.lt_of_lt_of_le (h.lt k hk).2 hn⟩
theorem IntRow.cap {W : World} {N : Nat} {p : Option Addr} {m c : Nat} (h : IntRow W N (.slice p m c) m) : m ≤ c ∧ c ≤ maxLen := by
  obtain ⟨f, h⟩ := h
  exact h.cap
theorem IntRow.isSlice {W : World} {N : Nat} {v : Value} {m : Nat} (h : IntRow W N v m) : ∃ p c, v = .slice p m c := by
  obtain ⟨f, h⟩ := h
  exact h.isSlice
theorem open_ints_in {H : Type} {enc : TypeId × Value → H} {W : World} {a : Option Addr} {len cap : Nat} {d : DataW H} {p : List MemPlace}
    (h : ∃ fuel, DataW.trod enc Tryd.prog W 0 (fun _ => true) true fuel 25 (Value.slice a len cap).cells.toList = some (d, p)) : ∃ xs : List Int, IntsIn W a cap xs ∧ len = xs.length := by
  obtain ⟨fuel, hf⟩ := h
  rcases Go.ChangeShapes.open_ints Tryd.underlying25 Tryd.underlying3 cells3 hf with ⟨hcs, _⟩ | ⟨x, l, c, zs, hcs, _, hl, hm, hz, _, hcell, hwz⟩
  · simp [Value.cells] at hcs
    obtain ⟨rfl, rfl, rfl⟩ := hcs
    exact ⟨[], ⟨fun e => absurd rfl e, Nat.le_refl _, by decide, fun _ => rfl⟩, rfl⟩
  · simp [Value.cells] at hcs
    obtain ⟨rfl, rfl, rfl⟩ := hcs
    have hzl : zs.length = cap := by simpa using hz
    have hlen : (zs.take len).length = len := by rw [List.length_take]; omega
    refine ⟨zs.take len, ⟨fun hne => ?_, by rw [hlen]; exact hl, hm, fun e => (by cases e)⟩, hlen.symm⟩
    obtain ⟨b, off, sp⟩ := x
    have hc0 := hcell 0 (by omega)
    have hsp : sp = none := by
      unfold World.cell? at hc0
      cases sp with
      | none => rfl
      | some s =>
        simp [Addr.add] at hc0
        split at hc0 <;> simp_all
    subst hsp
    refine ⟨b, off, rfl, ?_, fun j hj => ?_⟩
    · obtain ⟨o, ho, _⟩ := cells_of_cell hc0
      exact (Array.getElem?_eq_some_iff.1 ho).1
    · rw [hlen] at hj
      have := hcell j (by omega)
      rw [Addr.add_lit] at this
      rw [this]; simp [List.getElem?_take, hj, List.getD_eq_getElem?_getD]
end Go.Proofs.YtpknnjcbcndbbaaDoor
namespace Go.Proofs.YtpknnjcbcndbbaaDoor
open Go.RowKit Go.Shelf

set_option maxRecDepth 100000 in
set_option maxHeartbeats 4000000 in
theorem law7 (n : Int) (a : Option Addr) (cap : Nat) (ps : List (Int × Int)) (a2 : Option Addr) (cap2 : Nat) (xs : List Int) (w : World) (h : PairsIn w a cap ps) (h2 : IntsIn w a2 cap2 xs) (hT : Tab w) :
    Calls Tryd.prog 7 #[.int .i64 n, .slice a ps.length cap, .slice a2 xs.length cap2] w fun e w' => e = .returned (.bool true) ∧ Below w.heap.size w w' := by
  obtain ⟨i0, hi0, hz0, hz1, hz2⟩ := info_parts info3
  have HTM := Lib.hid (tame_any n a cap ps 16 w h (by decide) (by decide))
  have HT := Lib.hid hT
  have HLI : Hid (∀ W, Below w.heap.size w W → Calls Tryd.prog 34 #[.slice a2 xs.length cap2, .int .i64 125] W fun e w' => (∃ v m, e = .returned v ∧ m ≤ 125 ∧ IntRow w' W.heap.size v m) ∧ Below W.heap.size W w') := fun W hW =>
    (list_copy a2 cap2 125 xs W (by decide) ⟨h2.g.below hW (Nat.le_refl _), h2.fits, h2.capm, h2.nil⟩).mono fun e w' ⟨v, h1, h2, h3⟩ => ⟨⟨v, _, h1, Nat.min_le_right _ _, _, h2⟩, h3⟩
  clear h h2 hT
  go_enter Tryd.func7, Tryd.ntmps7
  go_upto_region 2 with (go_at_call 14; refine (HTM.out).mono ?_; rintro e w1 ⟨m, qs, a1, c1, rfl, hm, hG1, hB1⟩; have HG1 := Lib.hid hG1; have HB1 := Lib.hid hB1; clear hG1 hB1)
  have hm1 := HG1.out.n1
  have HSM := Lib.hid (ofE_sm HG1.out.n2 HG1.out.ok)
  have HLN := Lib.hid (ofE_length m qs)
  have HU := Lib.hid (und_ofE HG1.out.ok)
  have hlen := HG1.out.hl
  have HOF := Lib.hid (of_any m a1 c1 qs w1 HG1.out)
  have HSI := Lib.hid (fun W hT hG => Sides_ok m a1 c1 qs W hT hG)
  have HOD := Lib.hid (fun W hT hG => OddRing_ok m a1 c1 qs W hT hG)
  obtain ⟨g, hg⟩ : ∃ g, Hid (g = ofE m qs) := ⟨_, rfl⟩
  rw [← hg.out] at HSM HLN HU HSI HOD HOF
  go_upto_region 3 with (go_at_call 21; refine (HOF.out).mono ?_; rintro e w2 ⟨b2, rfl, hb2, hS2, hB2⟩; have HS2 := Lib.hid hS2; have HG2 := Lib.hid (HG1.out.below hB2); have HB2 := Lib.hid (HB1.out.trans (hB2.mono HB1.out.size)); clear hS2 hB2 hb2)
  have HL := Lib.hid (HLI.out w2 HB2.out)
  clear HLI HTM HOF
  go_upto_region 4 with (go_at_call 34; refine (HL.out).mono ?_; rintro e w3 ⟨⟨v3, m3, rfl, hm3, hr3⟩, hB3⟩; have HR3 := Lib.hid hr3; have HB3 := Lib.hid hB3; clear hr3 hB3)
  clear HL
  have HIP : Hid (∀ W p k c f, Below w2.heap.size w2 W → k ≤ 1099511627776 → SrcI W p k f → Calls Tryd.prog 35 #[.int .i64 (m : Int), .slice a1 qs.length c1, .slice p k c] W fun e w' => IsPP qs f k e ∧ Below W.heap.size W w') := fun W p k c f hW hk hs => IsProper_ok m a1 p c1 k c qs f W (HG2.out.below hW) hk hs
  have HHU : Hid (∀ W p k c f, k ≤ 1099511627776 → SrcI W p k f → Calls Tryd.prog 17 #[.slice a1 qs.length c1, .slice p k c] W fun e w' => BoolP ((∀ j, j < k → 0 ≤ f j) ∧ k = qs.length) e ∧ w' = W) := fun W p k c f hk hs => rhues_any a1 p qs.length c1 k c f W hk hs
  have HPR : Hid (∀ W p c f, Below w2.heap.size w2 W → SrcI W p qs.length f → Calls Tryd.prog 18 #[.slice a1 qs.length c1, .slice p qs.length c] W fun e w' => BoolP (ProperI qs f) e ∧ Below W.heap.size W w') := fun W p c f hW hs => rproper_any a1 p c1 c qs f W hlen (HG2.out.hg.below hW (Nat.le_refl _)) hs
  obtain ⟨len, HLE⟩ : ∃ len, Hid (qs.length = len) := ⟨_, rfl⟩
  rw [HLE.out] at HIP HHU HPR HSI HOD hlen ⊢
  obtain ⟨p3, c3, rfl⟩ := HR3.out.isSlice
  go_upto_region 5 with (fail)
  clear HG1
  go_loopw [9, 10] (fun s9 s10 wr => ∃ (k m : Nat) (p : Option Addr) (c : Nat), k ≤ 2 ∧ m ≤ 1099511627776 ∧ s10 = .int .i64 (k : Int) ∧ s9 = .slice p m c ∧ Hid (IntRow wr w2.heap.size (.slice p m c) m) ∧ Hid (Below w2.heap.size w2 wr)) (fun _ s10 _ => 4 - (intOf s10).toNat)
  case atStart => exact ⟨0, m3, p3, c3, by omega, by omega, rfl, rfl, HR3, HB3⟩
  case round =>
    clear HR3 HB3
    obtain ⟨k, mm, p, c, hk, hmm, rfl, rfl, hR, hB⟩ := hrel
    by_cases hk2 : k < 2
    · have g1 : (k : Int) < 2 := by omega
      have HS0 : Hid (∃ f, QRow wr w2.heap.size 3 1 (.slice p mm c) mm (ivI f mm)) := hR.out
      obtain ⟨f, hQ⟩ := HS0.out
      have HS := Lib.hid (hQ.srcI (ivI_get f mm))
      clear hQ HS0
      have HC1 := Lib.hid (HIP.out wr p mm c f hB.out hmm HS.out)
      go_upto_region 8 with (go_at_call 35; refine (HC1.out).mono ?_; rintro e w4 ⟨⟨b4, c4, rfl, h4⟩, hB4⟩; have H4 := Lib.hid h4; have HB4 := Lib.hid hB4; clear h4 hB4)
      have HC2 := Lib.hid (HHU.out w4 p mm c f hmm (HS.out.below HB4.out (Nat.le_refl _)))
      by_cases hv : (∀ j, j < mm → 0 ≤ f j) ∧ mm = len
      · obtain ⟨rfl, hp4⟩ : c4 = 0 ∧ (b4 = true ↔ ProperI qs f) := by
          rcases H4.out with ⟨_, _, h⟩ | ⟨h1, _, h2⟩
          · exact absurd (by rw [HLE.out]; exact hv) h
          · exact ⟨h1, h2⟩
        have HP4 := Lib.hid hp4
        have HV := Lib.hid hv
        have HC3 : Hid (∀ W, Below wr.heap.size wr W → Calls Tryd.prog 18 #[.slice a1 len c1, .slice p mm c] W fun e w' => BoolP (ProperI qs f) e ∧ Below W.heap.size W w') := fun W hW => by
          have hS := HS.out.below hW (Nat.le_refl _)
          rw [hv.2] at hS ⊢
          exact HPR.out W p c f (hB.out.trans (hW.mono hB.out.size)) hS
        clear hv hp4 H4
        have hbb : (b4 != b4) = false := by simp
        go_upto_region 13 with (first
          | (go_at_call 17; refine (HC2.out).mono ?_; rintro e w5 ⟨⟨b5, rfl, h5⟩, hw5⟩; subst hw5; obtain rfl : b5 = true := h5.2 HV.out; clear h5; try dsimp only)
          | (go_at_call 18; refine (HC3.out _ HB4.out).mono ?_; rintro e w6 ⟨⟨b6, rfl, h6⟩, hB6⟩; have HB5 := Lib.hid (HB4.out.trans (hB6.mono HB4.out.size)); obtain rfl : b6 = b4 := Bool.eq_iff_iff.2 (h6.trans HP4.out.symm); clear h6 hB6))
        obtain ⟨k1, hk1⟩ : ∃ k1, Hid (k1 = min mm len) := ⟨_, rfl⟩
        have hmin : min (mm : Int) (len : Int) = (k1 : Int) := by rw [hk1.out]; omega
        have hk1m : k1 ≤ mm := by rw [hk1.out]; exact Nat.min_le_left _ _
        have hk1l : k1 ≤ len := by rw [hk1.out]; exact Nat.min_le_right _ _
        have hcap := hR.out.cap
        have hca := hcap.1
        have hkc : k1 ≤ c := by omega
        have HR5 := Lib.hid ((hR.out.below HB5.out (Nat.le_refl _)).take hk1m)
        go_upto_region 15 with (fail)
        go_loopw [13] (fun s13 wr2 => ∃ i : Nat, i ≤ k1 ∧ s13 = .int .i64 (i : Int) ∧ Hid (IntRow wr2 w2.heap.size (.slice p k1 c) k1) ∧ Hid (Below w2.heap.size w2 wr2)) (fun s13 _ => k1 - (intOf s13).toNat)
        case atStart => exact ⟨0, by omega, rfl, HR5, hB.out.trans (HB5.out.mono hB.out.size)⟩
        case round =>
          obtain ⟨i, hi, rfl, hR6, hB6⟩ := hrel
          by_cases hik : i < k1
          · have g1 : (i : Int) < (k1 : Int) := by omega
            have g0 : (0 : Int) ≤ (i : Int) := by omega
            have HS6 : Hid (∃ f, QRow wr w2.heap.size 3 1 (.slice p k1 c) k1 (ivI f k1)) := hR6.out
            obtain ⟨f6, hQ6⟩ := HS6.out
            obtain ⟨b, o, ca, ep, hb1, hb2, hb3, hb4, hc, hf⟩ := hQ6.at (by omega)
            cases ep
            have e1 := (hc i (by omega)).trans (ivI_get f6 k1 i hik)
            have e2 := hf (o + i)
            clear hQ6 HS6 hc hf
            go_wp2
            exact ⟨⟨i + 1, by omega, int_eq (by omega), hR6.out.put hik _, hB6.out.setCell hb1 _⟩, by simp [intOf]; omega⟩
          · have g1 : ¬ (i : Int) < (k1 : Int) := by omega
            clear hk1 hmin hk1m hcap hca hkc HS HC2 HC1
            obtain ⟨wo, hwo⟩ : ∃ wo, Hid (wo = wr) := ⟨_, rfl⟩
            go_upto_region 18 with (fail)
            go_loopw [9] (fun s9 wr2 => ∃ (i : Nat) (p : Option Addr) (c : Nat), i ≤ len ∧ s9 = .slice p i c ∧ Hid (IntRow wr2 w2.heap.size (.slice p i c) i) ∧ Hid (Below w2.heap.size w2 wr2)) (fun s9 _ => len - slen s9)
            case atStart => exact ⟨k1, p, c, by omega, rfl, hR6, hB6⟩
            case round =>
              clear hR6 hB6
              obtain ⟨i, p, c, hi, rfl, hR6, hB6⟩ := hrel
              by_cases hil : i < len
              · have g1 : (i : Int) < (len : Int) := by omega
                have HS6 : Hid (∃ f, QRow wr w2.heap.size 3 1 (.slice p i c) i (ivI f i)) := hR6.out
                obtain ⟨f6, hQ6⟩ := HS6.out
                have HQ6 := Lib.hid hQ6
                clear HS6 hQ6
                have HALL : Hid (QRow (wr.alloc (.cells #[.int .i64 ((i : Int) + 20)] 3)) w2.heap.size 3 1 (.slice p i c) i (ivI f6 i)) := HQ6.out.alloc _
                have HLT := Lib.hid HQ6.out.lt
                have hsz := hB6.out.size
                have HPU := Lib.hid (ivI_push f6 i ((i : Int) + 20))
                go_wp2_with (at_builtin; go_must (refine wpList_append_q _ rfl (.tmp 90) (.tmp 94) 25 rfl w2.heap.size 3 i0 (.int .i64 0) 1 8 Tryd.underlying25 hi0 hz0 hz1 hz2 rfl (by decide) _ i (ivI f6 i) rfl HALL.out ⟨_, 0, none⟩ 1 1 [.int .i64 ((i : Int) + 20)] rfl rfl (cells_new1 _ _ _) (by simp [Value.oneCell']) (by unfold maxLen; omega) (by omega) (by simp; omega) ?_); intro v7 w7 hq7 hg7 ho7; obtain ⟨p7, c7, rfl⟩ := hq7.isSlice; have HQ7 : Hid (IntRow w7 w2.heap.size (.slice p7 (i + 1) c7) (i + 1)) := ⟨_, by rw [← HPU.out]; exact hq7⟩; have HB7 : Hid (Below w2.heap.size w2 w7) := Below.grown (hB6.out.alloc hsz _) hg7 (by simp; omega) (fun kk e => (HLT.out kk e).1); clear hq7 hg7 ho7)
                exact ⟨⟨i + 1, p7, c7, by omega, rfl, HQ7, HB7⟩, by simp [slen]; omega⟩
              · have g1 : ¬ (i : Int) < (len : Int) := by omega
                have hie : i ≤ 1099511627776 := by omega
                go_wp2
                exact ⟨⟨k + 1, i, p, c, by omega, hie, int_eq (by omega), rfl, hR6, hB6⟩, by simp [intOf]; omega⟩
      · obtain ⟨rfl, rfl⟩ : c4 = 70 ∧ b4 = false := by
          rcases H4.out with ⟨h1, h2, _⟩ | ⟨_, h, _⟩
          · exact ⟨h1, h2⟩
          · exact absurd (by rw [← HLE.out]; exact h) hv
        have HV := Lib.hid hv
        clear hv
        go_upto_region 13 with (go_at_call 17; refine (HC2.out).mono ?_; rintro e w5 ⟨⟨b5, rfl, h5⟩, hw5⟩; subst hw5; obtain rfl : b5 = false := (by cases b5 with | false => rfl | true => exact absurd (h5.1 rfl) HV.out); clear h5; try dsimp only)
        obtain ⟨k1, hk1⟩ : ∃ k1, Hid (k1 = min mm len) := ⟨_, rfl⟩
        have hmin : min (mm : Int) (len : Int) = (k1 : Int) := by rw [hk1.out]; omega
        have hk1m : k1 ≤ mm := by rw [hk1.out]; exact Nat.min_le_left _ _
        have hk1l : k1 ≤ len := by rw [hk1.out]; exact Nat.min_le_right _ _
        have hcap := hR.out.cap
        have hca := hcap.1
        have hkc : k1 ≤ c := by omega
        have HR5 := Lib.hid ((hR.out.below HB4.out (Nat.le_refl _)).take hk1m)
        go_upto_region 15 with (fail)
        go_loopw [13] (fun s13 wr2 => ∃ i : Nat, i ≤ k1 ∧ s13 = .int .i64 (i : Int) ∧ Hid (IntRow wr2 w2.heap.size (.slice p k1 c) k1) ∧ Hid (Below w2.heap.size w2 wr2)) (fun s13 _ => k1 - (intOf s13).toNat)
        case atStart => exact ⟨0, by omega, rfl, HR5, hB.out.trans (HB4.out.mono hB.out.size)⟩
        case round =>
          obtain ⟨i, hi, rfl, hR6, hB6⟩ := hrel
          by_cases hik : i < k1
          · have g1 : (i : Int) < (k1 : Int) := by omega
            have g0 : (0 : Int) ≤ (i : Int) := by omega
            have HS6 : Hid (∃ f, QRow wr w2.heap.size 3 1 (.slice p k1 c) k1 (ivI f k1)) := hR6.out
            obtain ⟨f6, hQ6⟩ := HS6.out
            obtain ⟨b, o, ca, ep, hb1, hb2, hb3, hb4, hc, hf⟩ := hQ6.at (by omega)
            cases ep
            have e1 := (hc i (by omega)).trans (ivI_get f6 k1 i hik)
            have e2 := hf (o + i)
            clear hQ6 HS6 hc hf
            go_wp2
            exact ⟨⟨i + 1, by omega, int_eq (by omega), hR6.out.put hik _, hB6.out.setCell hb1 _⟩, by simp [intOf]; omega⟩
          · have g1 : ¬ (i : Int) < (k1 : Int) := by omega
            clear hk1 hmin hk1m hcap hca hkc HS HC2 HC1
            obtain ⟨wo, hwo⟩ : ∃ wo, Hid (wo = wr) := ⟨_, rfl⟩
            go_upto_region 18 with (fail)
            go_loopw [9] (fun s9 wr2 => ∃ (i : Nat) (p : Option Addr) (c : Nat), i ≤ len ∧ s9 = .slice p i c ∧ Hid (IntRow wr2 w2.heap.size (.slice p i c) i) ∧ Hid (Below w2.heap.size w2 wr2)) (fun s9 _ => len - slen s9)
            case atStart => exact ⟨k1, p, c, by omega, rfl, hR6, hB6⟩
            case round =>
              clear hR6 hB6
              obtain ⟨i, p, c, hi, rfl, hR6, hB6⟩ := hrel
              by_cases hil : i < len
              · have g1 : (i : Int) < (len : Int) := by omega
                have HS6 : Hid (∃ f, QRow wr w2.heap.size 3 1 (.slice p i c) i (ivI f i)) := hR6.out
                obtain ⟨f6, hQ6⟩ := HS6.out
                have HQ6 := Lib.hid hQ6
                clear HS6 hQ6
                have HALL : Hid (QRow (wr.alloc (.cells #[.int .i64 ((i : Int) + 20)] 3)) w2.heap.size 3 1 (.slice p i c) i (ivI f6 i)) := HQ6.out.alloc _
                have HLT := Lib.hid HQ6.out.lt
                have hsz := hB6.out.size
                have HPU := Lib.hid (ivI_push f6 i ((i : Int) + 20))
                go_wp2_with (at_builtin; go_must (refine wpList_append_q _ rfl (.tmp 90) (.tmp 94) 25 rfl w2.heap.size 3 i0 (.int .i64 0) 1 8 Tryd.underlying25 hi0 hz0 hz1 hz2 rfl (by decide) _ i (ivI f6 i) rfl HALL.out ⟨_, 0, none⟩ 1 1 [.int .i64 ((i : Int) + 20)] rfl rfl (cells_new1 _ _ _) (by simp [Value.oneCell']) (by unfold maxLen; omega) (by omega) (by simp; omega) ?_); intro v7 w7 hq7 hg7 ho7; obtain ⟨p7, c7, rfl⟩ := hq7.isSlice; have HQ7 : Hid (IntRow w7 w2.heap.size (.slice p7 (i + 1) c7) (i + 1)) := ⟨_, by rw [← HPU.out]; exact hq7⟩; have HB7 : Hid (Below w2.heap.size w2 w7) := Below.grown (hB6.out.alloc hsz _) hg7 (by simp; omega) (fun kk e => (HLT.out kk e).1); clear hq7 hg7 ho7)
                exact ⟨⟨i + 1, p7, c7, by omega, rfl, HQ7, HB7⟩, by simp [slen]; omega⟩
              · have g1 : ¬ (i : Int) < (len : Int) := by omega
                have hie : i ≤ 1099511627776 := by omega
                go_wp2
                exact ⟨⟨k + 1, i, p, c, by omega, hie, int_eq (by omega), rfl, hR6, hB6⟩, by simp [intOf]; omega⟩
    · have g1 : ¬ (k : Int) < 2 := by omega
      clear hR HIP HHU HPR
      have HAW : Hid (∀ W, Below wr.heap.size wr W → Calls Tryd.prog 16 #[] W fun e w' => e = .returned (.bool true) ∧ Below W.heap.size W w') := fun W hW => awake_any W (HT.out.below ((HB2.out.trans (hB.out.mono HB2.out.size)).trans (hW.mono (Nat.le_trans HB2.out.size hB.out.size))) (Nat.le_refl _))
      have HB0 := Lib.hid (HB2.out.trans (hB.out.mono HB2.out.size))
      have HG0 := Lib.hid (HG2.out.below hB.out)
      have KSI := Lib.hid (HSI.out wr (HT.out.below HB0.out (Nat.le_refl _)) HG0.out)
      go_upto_region 21 with (go_at_call 32; refine (KSI.out).mono ?_; rintro e w5 ⟨⟨s5, two5, rfl, hs5⟩, hB5⟩; have HB5 := Lib.hid hB5; have HSD := Lib.hid hs5; clear hB5 hs5)
      have KOD := Lib.hid (HOD.out w5 (HT.out.below (HB0.out.trans (HB5.out.mono HB0.out.size)) (Nat.le_refl _)) (HG0.out.below HB5.out))
      go_upto_region 22 with (go_at_call 33; refine (KOD.out).mono ?_; rintro e w6 ⟨⟨v6, l6, s6, is6, rfl, hs6, hq6, ho6, hn6⟩, hB6⟩; obtain ⟨-, hi6⟩ := SidesR.unique HU.out HSD.out hs6; obtain ⟨p6, c6, rfl⟩ := hq6.isSlice; have HB6 := Lib.hid (HB5.out.trans (hB6.mono HB5.out.size)); have HQ6 := Lib.hid hq6; have HO6 := Lib.hid ho6; have HN6 := Lib.hid hn6; have HI6 := Lib.hid hi6; clear hs6 hq6 hi6 ho6 hn6 hB6)
      have HS6 := Lib.hid (HS2.out.keep (hB.out.trans (HB6.out.mono hB.out.size)) (Nat.le_refl _))
      have HRS : Hid (Calls Tryd.prog 30 #[.slice (some ⟨b2, 0, none⟩) m m] w6 fun e w' => SidesA g m e ∧ w' = w6) := rsides_any m _ m g w6 HLN.out hm HU.out HSM.out HS6.out
      go_upto_region 23 with (go_at_call 30; refine (HRS.out).mono ?_; rintro e w8 ⟨⟨s8, two8, rfl, hs8⟩, hw8⟩; subst hw8; obtain ⟨hse, hte⟩ := SidesR.unique HU.out HSD.out hs8; subst hse; subst hte; clear hs8; try dsimp only)
      have hne5 : ((s5 : Int) != (s5 : Int)) = false := by simp
      have hI := HI6.out
      clear HRS KOD KSI HOD HSI HLE hne5
      cases is6 with
      | true =>
        obtain rfl : two5 = false := hI
        obtain ⟨hO6, hL6⟩ := HO6.out rfl
        have HOR : Hid (Calls Tryd.prog 36 #[.slice (some ⟨b2, 0, none⟩) m m, .slice p6 l6.length c6] w8 fun e w' => e = .returned (.bool true) ∧ Below w8.heap.size w8 w') := roddring_true m _ m p6 c6 g l6 w8 HLN.out hm HSM.out HS6.out hO6 hL6 (HQ6.out.srcI fun j hj => iv_get hj)
        clear hO6 hL6 HO6 HN6 HI6
        go_wp2_with (first
          | (go_at_call 36; refine (HOR.out).mono ?_; rintro e w9 ⟨rfl, hB9⟩; have HB9 := Lib.hid (HB6.out.trans (hB9.mono HB6.out.size)); clear hB9)
          | (go_at_call 16; refine (HAW.out _ HB9.out).mono ?_; rintro e w10 ⟨rfl, hB10⟩; have HB10 := Lib.hid (HB9.out.trans (hB10.mono HB9.out.size)); clear hB10))
        go_ret
        exact ⟨rfl, HB0.out.trans (HB10.out.mono HB0.out.size)⟩
      | false =>
        obtain rfl : two5 = true := hI
        obtain rfl := HN6.out rfl
        clear HO6 HN6 HI6
        go_wp2_with (go_at_call 16; refine (HAW.out _ HB6.out).mono ?_; rintro e w10 ⟨rfl, hB10⟩; have HB10 := Lib.hid (HB6.out.trans (hB10.mono HB6.out.size)); clear hB10)
        go_ret
        exact ⟨rfl, HB0.out.trans (HB10.out.mono HB0.out.size)⟩
end Go.Proofs.YtpknnjcbcndbbaaDoor
