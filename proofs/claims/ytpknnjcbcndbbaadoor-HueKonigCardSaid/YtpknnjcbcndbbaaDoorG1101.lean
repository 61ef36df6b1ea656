/- The program's IsProper: walks. The program's IsProper: the walk. Of what is no graph: the error, from the functions that are left; the document's check; the degree. The law's copy of a list; the document's test of an odd ring: walks. A row of integers of the call's own, whatever it holds; and a list of integers, and of lists, as it comes in. Lists of lists of integers: as they come in; as they lie; the law's copy of them. The document's tests of lists: walks. The program's masks of lists: a walk. The law's lists filled up: what is counted. Hues from lists: the walk. Colours from lists as the document reads them, in plain text. The document's test of a colour: a walk. -/
import Derived.Test.YtpknnjcbcndbbaaDoorE01
import Derived.Test.YtpknnjcbcndbbaaDoorA09
import Derived.Test.YtpknnjcbcndbbaaDoorA06
import Derived.Test.YtpknnjcbcndbbaaDoorA12
import Derived.Test.YtpknnjcbcndbbaaDoorH01
import Derived.Test.YtpknnjcbcndbbaaDoorLo
import Derived.Test.YtpknnjcbcndbbaaDoorA15
set_option linter.unusedVariables false
set_option linter.unusedSimpArgs false
namespace Go.Proofs.YtpknnjcbcndbbaaDoor
open Go.RowKit Go.Shelf

set_option maxRecDepth 100000 in
theorem neg_any (x : Int) (w : World) : Calls Tryd.prog 66 #[.int .i64 x] w fun e w' => e = .returned (.bool (decide (x < 0))) ∧ w' = w := by
  go_enter Tryd.func66, Tryd.ntmps66
  go_wp2
  go_ret
  exact ⟨rfl, rfl⟩
set_option maxRecDepth 100000 in
theorem index_any (p : Option Addr) (m c : Nat) (f : Nat → Int) (w : World) (hm : m ≤ 1099511627776) (h : SrcI w p m f) :
    Calls Tryd.prog 89 #[.slice p m c, .func (.func 66) #[] #[]] w fun e w' => (∃ r : Int, e = .returned (.int .i64 r) ∧ Hid ((r = -1 ∧ ∀ j, j < m → 0 ≤ f j) ∨ (0 ≤ r ∧ ∃ j, j < m ∧ f j < 0))) ∧ w' = w := by
  have H := Lib.hid h
  clear h
  go_enter Tryd.func89, Tryd.ntmps89
  go_upto_region 2 with (fail)
  go_loopw [8] (fun s8 wr => ∃ j : Nat, j ≤ m ∧ s8 = .int .i64 (j : Int) ∧ Hid (∀ i, i < j → 0 ≤ f i) ∧ Hid (wr = w)) (fun s8 _ => m - (intOf s8).toNat)
  case atStart => exact ⟨0, by omega, rfl, (fun i hi => by omega), rfl⟩
  case round =>
    obtain ⟨j, hj, rfl, hp, hw⟩ := hrel
    rw [hw.out]
    by_cases hjm : j < m
    · obtain ⟨b, o, rfl, hb, hc⟩ := H.out (by omega)
      have k1 := hc j hjm
      have g1 : (j : Int) < (m : Int) := by omega
      have g0 : (0 : Int) ≤ (j : Int) := by omega
      clear hc
      have HNG := Lib.hid (neg_any (f j) w)
      by_cases hf : f j < 0
      · have HF := Lib.hid hf
        have hd : decide (f j < 0) = true := decide_eq_true hf
        generalize hz : f j = z at *
        have HZ := Lib.hid hz
        clear hz
        go_wp2_with (go_at_call 66; refine (HNG.out).mono ?_; rintro e w' ⟨rfl, hw'⟩; subst hw'; try dsimp only)
        go_ret
        exact ⟨⟨_, rfl, .inr ⟨by omega, j, hjm, by rw [HZ.out]; exact HF.out⟩⟩, rfl⟩
      · have HN : Hid (∀ i, i < j + 1 → 0 ≤ f i) := fun i hi => by
          by_cases e : i = j
          · subst e; omega
          · exact hp.out i (by omega)
        have hd : decide (f j < 0) = false := decide_eq_false hf
        generalize f j = z at *
        go_wp2_with (go_at_call 66; refine (HNG.out).mono ?_; rintro e w' ⟨rfl, hw'⟩; subst hw'; try dsimp only)
        exact ⟨⟨j + 1, by omega, int_eq (by omega), HN, Lib.hid trivial⟩, by simp [intOf]; omega⟩
    · have g1 : ¬ (j : Int) < (m : Int) := by omega
      have HP : Hid (∀ i, i < m → 0 ≤ f i) := fun i hi => hp.out i (by omega)
      go_wp2
      go_ret
      exact ⟨⟨_, rfl, .inl ⟨rfl, HP.out⟩⟩, rfl⟩
set_option maxRecDepth 100000 in
theorem contains_any (p : Option Addr) (m c : Nat) (f : Nat → Int) (w : World) (hm : m ≤ 1099511627776) (h : SrcI w p m f) :
    Calls Tryd.prog 65 #[.slice p m c, .func (.func 66) #[] #[]] w fun e w' => BoolP (∃ j, j < m ∧ f j < 0) e ∧ w' = w := by
  have HI := Lib.hid (index_any p m c f w hm h)
  clear h
  go_enter Tryd.func65, Tryd.ntmps65
  go_wp2_with (go_at_call 89; refine (HI.out).mono ?_; rintro e w' ⟨⟨r, rfl, hr⟩, hw'⟩; subst hw'; try dsimp only)
  go_ret
  refine ⟨⟨decide (0 ≤ r), rfl, ?_⟩, rfl⟩
  rw [decide_eq_true_iff]
  rcases hr.out with ⟨h1, h2⟩ | ⟨h1, h2⟩
  · constructor
    · intro h; omega
    · rintro ⟨j, hj, hn⟩; have := h2 j hj; omega
  · exact ⟨fun _ => h2, fun _ => h1⟩
def ekI (e : Int × Int) : Value := .agg #[.int .i64 e.1, .int .i64 e.2]
def bvv (b : Bool) : Value := .bool b
theorem eq_end (s t : Int × Int) (w : World) : (Op.equal 102 (ekI s) (ekI t)).run Tryd.prog w = .ok (decide (s = t)) w := by
  obtain ⟨a, b⟩ := s
  obtain ⟨c, d⟩ := t
  have h : Op.equal 102 (ekI (a, b)) (ekI (c, d)) = Op.equalIn (9999 + 1) 102 (ekI (a, b)) (ekI (c, d)) := rfl
  rw [h]
  unfold ekI
  rw [run_equalIn_agg _ _ _ _ _ (by kernel_rfl) (by kernel_rfl)]
  rw [show (Tryd.prog.fieldsOf 102).toList = [{ name := "v", type := 3, offset := 0, embedded := false, tag := "", pkgPath := "forcola/hue", byteOffset := 0 }, { name := "hue", type := 3, offset := 1, embedded := false, tag := "", pkgPath := "forcola/hue", byteOffset := 8 }] from by kernel_rfl]
  have e3 : Tryd.prog.underlying 3 = some (.int .i64) := by kernel_rfl
  have p3 : ∀ (x y : Value) w, (part 3 #[x, y] 0).run Tryd.prog w = .ok x w := fun _ _ _ => by kernel_rfl
  have p4 : ∀ (x y : Value) w, (part 3 #[x, y] 1).run Tryd.prog w = .ok y w := fun _ _ _ => by kernel_rfl
  have hac : ∀ a c : Int, (a == c) = decide (a = c) := fun a c => by
    by_cases e : a = c
    · subst e; simp
    · rw [decide_eq_false e, beq_eq_false_iff_ne]; exact e
  have q3 : ∀ (a c : Int) w, (Op.equalIn 9999 3 (.int .i64 a) (.int .i64 c)).run Tryd.prog w = .ok (decide (a = c)) w := fun a c w => by rw [← hac]; exact run_equalIn_int w 9998 3 _ _ _ _ e3
  simp only [Op.eqFields, Sem.run_bind, Sem.run_ite]
  rw [if_pos (by decide)]
  rw [p3, Result.andThen_ok, p3, Result.andThen_ok, q3, Result.andThen_ok]
  by_cases e : a = c
  · rw [if_neg (by simp [e]), if_pos (by decide), p4, Result.andThen_ok, p4, Result.andThen_ok, q3, Result.andThen_ok]
    by_cases e' : b = d
    · simp [e, e']
    · simp [e, e']
  · rw [if_pos (by simp [e])]; simp [e]
theorem endKind : MapKind Tryd.prog 97 102 4 ekI bvv false where
  ut := Tryd.underlying97
  find := find_agg Tryd.underlying102 (fun a => ⟨_, rfl⟩) eq_end
  ck := fun _ _ _ => by kernel_rfl
  zero := fun _ => by kernel_rfl
  bits := fun a => by simp [Instr.sameBits, ekI]
theorem under72 : Tryd.prog.underlying 72 = some (.array 2 3) := by kernel_rfl
theorem index72 (x y : Int) (W : World) : (Instr.index 72 (.agg #[.int .i64 x, .int .i64 y]) (.int .i64 0)).run Tryd.prog W = .ok (.int .i64 x) W ∧ (Instr.index 72 (.agg #[.int .i64 x, .int .i64 y]) (.int .i64 1)).run Tryd.prog W = .ok (.int .i64 y) W := by
  constructor <;> simp [Instr.index, run_underlying under72, asIntOf, go_sem, part]
/-- the k-th edge ends at v -/
def endAt (ps : List (Int × Int)) (k : Nat) (v : Int) : Prop := v = (qa ps k).1 ∨ v = (qa ps k).2
/-- what has been seen: of the first i edges, and t ends of the next one -/
def SeenI (ps : List (Int × Int)) (f : Nat → Int) (i t : Nat) (col : Int × Int → Option Bool) : Prop := (∀ e b, col e = some b → b = true) ∧
  ∀ v h, col (v, h) ≠ none ↔ (∃ k, k < i ∧ endAt ps k v ∧ h = f k) ∨ (1 ≤ t ∧ v = (qa ps i).1 ∧ h = f i) ∨ (2 ≤ t ∧ v = (qa ps i).2 ∧ h = f i)
theorem SeenI.next {ps : List (Int × Int)} {f : Nat → Int} {i : Nat} {col : Int × Int → Option Bool} (h : SeenI ps f i 2 col) : SeenI ps f (i + 1) 0 col := by
  refine ⟨h.1, fun v hh => (h.2 v hh).trans ?_⟩
  constructor
  · rintro (⟨k, hk, h1, h2⟩ | ⟨_, h1, h2⟩ | ⟨_, h1, h2⟩)
    · exact .inl ⟨k, by omega, h1, h2⟩
    · exact .inl ⟨i, by omega, .inl h1, h2⟩
    · exact .inl ⟨i, by omega, .inr h1, h2⟩
  · rintro (⟨k, hk, h1, h2⟩ | ⟨h0, _⟩ | ⟨h0, _⟩)
    · by_cases e : k = i
      · subst e
        rcases h1 with h1 | h1
        · exact .inr (.inl ⟨by omega, h1, h2⟩)
        · exact .inr (.inr ⟨by omega, h1, h2⟩)
      · exact .inl ⟨k, by omega, h1, h2⟩
    · omega
    · omega
theorem SeenI.put1 {ps : List (Int × Int)} {f : Nat → Int} {i : Nat} {col : Int × Int → Option Bool} (h : SeenI ps f i 0 col) : SeenI ps f i 1 (setF col ((qa ps i).1, f i) (some true)) := by
  refine ⟨fun e b hb => ?_, fun v hh => ?_⟩
  · unfold setF at hb
    split at hb
    · cases hb; rfl
    · exact h.1 e b hb
  · have h2 := h.2 v hh
    unfold setF
    by_cases e : (v, hh) = ((qa ps i).1, f i)
    · rw [if_pos e]
      cases e
      simp
    · rw [if_neg e, h2]
      constructor
      · rintro (h1 | ⟨h0, _⟩ | ⟨h0, _⟩)
        · exact .inl h1
        · omega
        · omega
      · rintro (h1 | ⟨_, h1, h3⟩ | ⟨h0, _⟩)
        · exact .inl h1
        · exact absurd (by rw [h1, h3]) e
        · omega
theorem SeenI.put2 {ps : List (Int × Int)} {f : Nat → Int} {i : Nat} {col : Int × Int → Option Bool} (h : SeenI ps f i 1 col) : SeenI ps f i 2 (setF col ((qa ps i).2, f i) (some true)) := by
  refine ⟨fun e b hb => ?_, fun v hh => ?_⟩
  · unfold setF at hb
    split at hb
    · cases hb; rfl
    · exact h.1 e b hb
  · have h2 := h.2 v hh
    unfold setF
    by_cases e : (v, hh) = ((qa ps i).2, f i)
    · rw [if_pos e]
      cases e
      simp
    · rw [if_neg e, h2]
      constructor
      · rintro (h1 | ⟨_, h1⟩ | ⟨h0, _⟩)
        · exact .inl h1
        · exact .inr (.inl ⟨by omega, h1⟩)
        · omega
      · rintro (h1 | ⟨_, h1, h3⟩ | ⟨_, h1, h3⟩)
        · exact .inl h1
        · exact .inr (.inl ⟨by omega, h1, h3⟩)
        · exact absurd (by rw [h1, h3]) e
theorem meetB_end {ps : List (Int × Int)} {i k : Nat} : meetB (qa ps i) (qa ps k) = true ↔ endAt ps k (qa ps i).1 ∨ endAt ps k (qa ps i).2 := by
  unfold meetB endAt
  simp only [Bool.or_eq_true, beq_iff_eq]
  constructor
  · rintro (((h | h) | h) | h)
    · exact .inl (.inl h)
    · exact .inl (.inr h)
    · exact .inr (.inl h)
    · exact .inr (.inr h)
  · rintro ((h | h) | (h | h))
    · exact .inl (.inl (.inl h))
    · exact .inl (.inl (.inr h))
    · exact .inl (.inr h)
    · exact .inr h
/-- what IsProper answers -/
def IsPP (ps : List (Int × Int)) (f : Nat → Int) (m : Nat) (e : Ending) : Prop := ∃ (b : Bool) (c : Int), e = .returned (.tuple #[.bool b, .int .i64 c]) ∧ ((c = 70 ∧ b = false ∧ ¬ ((∀ j, j < m → 0 ≤ f j) ∧ m = ps.length)) ∨ (c = 0 ∧ ((∀ j, j < m → 0 ≤ f j) ∧ m = ps.length) ∧ (b = true ↔ ProperI ps f)))
end Go.Proofs.YtpknnjcbcndbbaaDoor
namespace Go.Proofs.YtpknnjcbcndbbaaDoor
open Go.RowKit Go.Shelf

theorem IsPP.bad {ps : List (Int × Int)} {f : Nat → Int} {m : Nat} (h : ¬ ((∀ j, j < m → 0 ≤ f j) ∧ m = ps.length)) : IsPP ps f m (.returned (.tuple #[.bool false, .int .i64 70])) := ⟨false, 70, rfl, .inl ⟨rfl, rfl, h⟩⟩
theorem IsPP.no {ps : List (Int × Int)} {f : Nat → Int} {m : Nat} (h : (∀ j, j < m → 0 ≤ f j) ∧ m = ps.length) (hn : ¬ ProperI ps f) : IsPP ps f m (.returned (.tuple #[.bool false, .int .i64 0])) := ⟨false, 0, rfl, .inr ⟨rfl, h, by simp, fun h' => absurd h' hn⟩⟩
theorem IsPP.yes {ps : List (Int × Int)} {f : Nat → Int} {m : Nat} (h : (∀ j, j < m → 0 ≤ f j) ∧ m = ps.length) (hn : ProperI ps f) : IsPP ps f m (.returned (.tuple #[.bool true, .int .i64 0])) := ⟨true, 0, rfl, .inr ⟨rfl, h, fun _ => hn, fun _ => rfl⟩⟩
/-- the map of what has been seen -/
def MapS (W : World) (M : Nat) (ps : List (Int × Int)) (f : Nat → Int) (i t : Nat) : Prop := ∃ col, MapF ekI bvv W M col ∧ SeenI ps f i t col
set_option maxRecDepth 100000 in
set_option maxHeartbeats 4000000 in
theorem IsProper_ok (n : Nat) (a p : Option Addr) (cap m c : Nat) (ps : List (Int × Int)) (f : Nat → Int) (w : World) (hG : Good n ps a w) (hm : m ≤ 1099511627776) (hs : SrcI w p m f) :
    Calls Tryd.prog 35 #[.int .i64 (n : Int), .slice a ps.length cap, .slice p m c] w fun e w' => IsPP ps f m e ∧ Below w.heap.size w w' := by
  have HO := Lib.hid (gopen_ok n a cap ps w hG.hl hG.hg hG.n1 hG.n2 hG.ok)
  have HG := Lib.hid hG
  have HS := Lib.hid hs
  have hlen := hG.hl
  have HE := Lib.hid (edgesOK hG.n2 hG.ok)
  clear hG hs
  have hmm := @run_makeMap Tryd.prog
  by_cases hml : m = ps.length
  · subst hml
    have HCT : Hid (∀ W, Below w.heap.size w W → Calls Tryd.prog 65 #[.slice p ps.length c, .func (.func 66) #[] #[]] W fun e w' => BoolP (∃ j, j < ps.length ∧ f j < 0) e ∧ w' = W) := fun W hW => contains_any p ps.length c f W hlen (HS.out.below hW (Nat.le_refl _))
    obtain ⟨len, HL⟩ : ∃ len, Hid (ps.length = len) := ⟨_, rfl⟩
    rw [HL.out] at HO HS HCT hlen ⊢
    have hne : ((len : Int) != (len : Int)) = false := by simp
    go_enter Tryd.func35, Tryd.ntmps35
    go_upto_if 32 with (first
      | (go_at_call 52; refine HO.out.mono ?_; rintro e w1 ⟨B, rfl, hBl, hg1, hb1⟩; have HG1 := Lib.hid hg1; have HB1 := Lib.hid hb1; clear hBl hg1 hb1)
      | (go_at_call 65; refine (HCT.out _ HB1.out).mono ?_; rintro e w2 ⟨⟨b2, rfl, hb2⟩, hw2⟩; have HC2 := Lib.hid hb2; subst hw2; clear hb2; try dsimp only))
    clear hne
    cases b2 with
    | true =>
      have HN : Hid (¬ ((∀ j, j < len → 0 ≤ f j) ∧ len = ps.length)) := fun h => by
        obtain ⟨j, hj, hn⟩ := HC2.out.1 rfl
        have := h.1 j hj; omega
      go_wp2
      refine bodyPost_ret (v := .tuple #[.bool false, .int .i64 70]) (by simp [results, Tryd.f35, go_sem]) rfl ?_
      exact ⟨IsPP.bad HN.out, HB1.out⟩
    | false =>
      have HV : Hid ((∀ j, j < len → 0 ≤ f j) ∧ len = ps.length) := ⟨fun j hj => Int.not_lt.1 fun hn => absurd (HC2.out.2 ⟨j, hj, hn⟩) (by simp), HL.out.symm⟩
      have hc1 := HG1.out.e
      have hBlt := HG1.out.lt
      go_upto_region 7 with (fail)
      obtain ⟨M, hM⟩ : ∃ M, Hid (M = w2.heap.size) := ⟨_, rfl⟩
      have hM0 : MapS (w2.alloc (.map #[] 0)) M ps f 0 0 := ⟨_, by rw [hM.out]; exact MapF.made w2, (fun e b h => by cases h), fun v h => ⟨fun h => absurd rfl h, fun h => by
        rcases h with ⟨k, hk, _⟩ | ⟨h0, _⟩ | ⟨h0, _⟩ <;> omega⟩⟩
      have hBV : Below w2.heap.size w2 (w2.alloc (.map #[] 0)) := (Below.refl _ _).alloc (Nat.le_refl _) _
      have hc2 := (hBV.cell (p := ⟨B, 1, none⟩) hBlt).trans hc1
      rw [← hM.out]
      generalize (w2.alloc (.map #[] 0)) = V at *
      have HM0 := Lib.hid hM0
      have HBV := Lib.hid hBV
      clear hM0 hBV hc1 hmm
      go_upto_region 8 with (fail)
      clear hc2
      go_loopw [39] (fun s39 wr => ∃ i : Nat, i ≤ len ∧ s39 = .int .i64 (i : Int) ∧ Hid (MapS wr M ps f i 0) ∧ Hid (∀ i', i' < i → ∀ k, k < i' → ¬ (f i' = f k ∧ meetB (qa ps i') (qa ps k) = true)) ∧ Hid (Below w2.heap.size w2 wr)) (fun s39 _ => len - (intOf s39).toNat)
      case atStart => exact ⟨0, by omega, rfl, HM0, (fun i hi => by omega), HBV⟩
      case round =>
        obtain ⟨i, hi, rfl, hmp, hpr, hB⟩ := hrel
        by_cases hil : i < len
        · have g1 : (i : Int) < (len : Int) := by omega
          have g0 : (0 : Int) ≤ (i : Int) := by omega
          obtain ⟨eb, eo, ea, helt, hec⟩ := HG.out.hg (fun e => by rw [e] at HL; have := HL.out; simp at this; omega)
          have hk0 := hec i (by rw [HL.out]; exact hil)
          obtain ⟨b, o, ep, hb, hc⟩ := HS.out (by omega)
          have hB0 := HB1.out.trans (hB.out.mono HB1.out.size)
          have e0 : wr.cell? ⟨eb, eo + i * 2, none⟩ = some (.int .i64 (qa ps i).1) := (hB0.cell (p := ⟨eb, eo + i * 2, none⟩) helt).trans hk0.1
          have e1 : wr.cell? ⟨eb, eo + i * 2 + 1, none⟩ = some (.int .i64 (qa ps i).2) := (hB0.cell (p := ⟨eb, eo + i * 2 + 1, none⟩) helt).trans hk0.2
          have HH : Hid (∀ W, Below w2.heap.size w2 W → W.cell? ⟨b, o + i, none⟩ = some (.int .i64 (f i))) := fun W hW => ((HB1.out.trans (hW.mono HB1.out.size)).cell (p := ⟨b, o + i, none⟩) hb).trans (hc i hil)
          subst ea
          subst ep
          have hxy : Hid ((qa ps i).1 ≠ (qa ps i).2) := by
            obtain ⟨x, y, e, -, -, h, -⟩ := HE.out.at (show i < ps.length by rw [HL.out]; exact hil)
            rw [Hid, e]; simp only; omega
          have HBADP : Hid (∀ k, k < i → f i = f k → meetB (qa ps i) (qa ps k) = true → ¬ ProperI ps f) := fun k hk h1 h2 h => h i (by rw [HL.out]; exact hil) k hk ⟨h1, h2⟩
          have HI72 := index72 (qa ps i).1 (qa ps i).2
          clear hec hk0 hc hB0
          go_upto_region 11 with (fail)
          obtain ⟨x, hx⟩ : ∃ x, Hid (x = (qa ps i).1) := ⟨_, rfl⟩
          obtain ⟨y, hy⟩ : ∃ y, Hid (y = (qa ps i).2) := ⟨_, rfl⟩
          rw [← hx.out, ← hy.out] at HI72
          rw [← hx.out] at e0
          rw [← hy.out] at e1
          have hBV2 : Below wr.heap.size wr (wr.alloc (.cells #[.int .i64 x, .int .i64 y] 72)) := (Below.refl _ _).alloc (Nat.le_refl _) _
          have hMV : MapS (wr.alloc (.cells #[.int .i64 x, .int .i64 y] 72)) M ps f i 0 := by
            obtain ⟨col, h1, h2⟩ := hmp.out
            exact ⟨col, h1.below hBV2 h1.lt, h2⟩
          have hi0 := fun W => (HI72 W).1
          have hi1 := fun W => (HI72 W).2
          rw [← hx.out, ← hy.out]
          generalize (wr.alloc (.cells #[.int .i64 x, .int .i64 y] 72)) = V2 at *
          have HMV := Lib.hid hMV
          have HBV2 := Lib.hid (hB.out.trans (hBV2.mono hB.out.size))
          clear hBV2 hMV HI72 e0 e1 hmp
          go_loopw [45] (fun s45 wr3 => ∃ t : Nat, t ≤ 2 ∧ s45 = .int .i64 (t : Int) ∧ Hid (MapS wr3 M ps f i t) ∧ Hid (∀ k, k < i → f i = f k → (1 ≤ t → ¬ endAt ps k x) ∧ (2 ≤ t → ¬ endAt ps k y)) ∧ Hid (Below w2.heap.size w2 wr3)) (fun s45 _ => 3 - (intOf s45).toNat)
          case atStart => exact ⟨0, by omega, rfl, HMV, (fun k hk he => ⟨fun h => by omega, fun h => by omega⟩), HBV2⟩
          case round =>
            obtain ⟨t, ht, rfl, hmp, hnt, hB3⟩ := hrel
            have hh := HH.out _ hB3.out
            obtain ⟨col, hMM, hSe⟩ := hmp.out
            rcases (show t = 0 ∨ t = 1 ∨ t = 2 by omega) with rfl | rfl | rfl
            · -- the end x
              have hlk := look_f endKind false (x, f i) wr M col hMM
              cases hcol : col (x, f i) with
              | some bb =>
                obtain rfl : bb = true := hSe.1 _ _ hcol
                rw [hcol] at hlk
                have hlk2 : (Instr.lookup 97 (.map (some M)) (.agg #[.int .i64 x, .int .i64 (f i)]) false).run Tryd.prog wr = .ok (.bool true) wr := hlk
                have HBAD : Hid (¬ ProperI ps f) := by
                  have := (hSe.2 x (f i)).1 (by rw [hcol]; simp)
                  rcases this with ⟨k, hk, h1, h2⟩ | ⟨h1, _⟩ | ⟨h1, _⟩
                  · exact HBADP.out k hk h2 (meetB_end.2 (.inl (by rw [← hx.out]; exact h1)))
                  · exact absurd h1 (by omega)
                  · omega
                generalize f i = fi at *
                clear hlk hcol hMM hSe
                go_wp2
                refine bodyPost_ret (v := .tuple #[.bool false, .int .i64 0]) (by simp [results, Tryd.f35, go_sem]) rfl ?_
                exact ⟨IsPP.no HV.out HBAD.out, HB1.out.trans (hB3.out.mono HB1.out.size)⟩
              | none =>
                rw [hcol] at hlk
                have hlk2 : (Instr.lookup 97 (.map (some M)) (.agg #[.int .i64 x, .int .i64 (f i)]) false).run Tryd.prog wr = .ok (.bool false) wr := hlk
                have HNT : Hid (∀ k, k < i → f i = f k → (1 ≤ 0 + 1 → ¬ endAt ps k x) ∧ (2 ≤ 0 + 1 → ¬ endAt ps k y)) := fun k hk he => by
                  have h0 := hnt.out k hk he
                  have h1 : ¬ endAt ps k x := fun h => by
                    have := (hSe.2 x (f i)).2 (.inl ⟨k, hk, h, he⟩)
                    exact this hcol
                  exact ⟨fun _ => h1, fun h => by omega⟩
                have HS1 : Hid (SeenI ps f i (0 + 1) (setF col (x, f i) (some true))) := by rw [hx.out]; exact hSe.put1
                have HMM := Lib.hid hMM
                have hMlt := hMM.lt
                have HFI : Hid ((ekI (x, f i)) = .agg #[.int .i64 x, .int .i64 (f i)]) := rfl
                clear hlk hcol hMM hSe hmp
                go_upto_block 3 with (fail)
                go_wp2_with (refine wpList_store_f endKind rfl (.tmp 56) (.tmp 62) (.const (.bool true)) rfl M col (x, f i) true rfl rfl rfl HMM.out ?_; intro w8 hM8 hg8; have HM8 : Hid (MapS w8 M ps f i (0 + 1)) := ⟨_, hM8, HS1.out⟩; have HB8 : Hid (Below w2.heap.size w2 w8) := Below.grown hB3.out hg8 hB3.out.size (fun k hk => by cases hk; have := hM.out; omega); clear hM8 hg8)
                exact ⟨⟨0 + 1, by omega, int_eq (by omega), HM8, HNT, HB8⟩, by simp [intOf]⟩
            · -- the end y
              have hlk := look_f endKind false (y, f i) wr M col hMM
              cases hcol : col (y, f i) with
              | some bb =>
                obtain rfl : bb = true := hSe.1 _ _ hcol
                rw [hcol] at hlk
                have hlk2 : (Instr.lookup 97 (.map (some M)) (.agg #[.int .i64 y, .int .i64 (f i)]) false).run Tryd.prog wr = .ok (.bool true) wr := hlk
                have HBAD : Hid (¬ ProperI ps f) := by
                  have := (hSe.2 y (f i)).1 (by rw [hcol]; simp)
                  rcases this with ⟨k, hk, h1, h2⟩ | ⟨_, h1, _⟩ | ⟨h1, _⟩
                  · exact HBADP.out k hk h2 (meetB_end.2 (.inr (by rw [← hy.out]; exact h1)))
                  · exact absurd h1 (by rw [hy.out]; exact hxy.out.symm)
                  · omega
                generalize f i = fi at *
                clear hlk hcol hMM hSe
                go_wp2
                refine bodyPost_ret (v := .tuple #[.bool false, .int .i64 0]) (by simp [results, Tryd.f35, go_sem]) rfl ?_
                exact ⟨IsPP.no HV.out HBAD.out, HB1.out.trans (hB3.out.mono HB1.out.size)⟩
              | none =>
                rw [hcol] at hlk
                have hlk2 : (Instr.lookup 97 (.map (some M)) (.agg #[.int .i64 y, .int .i64 (f i)]) false).run Tryd.prog wr = .ok (.bool false) wr := hlk
                have HNT : Hid (∀ k, k < i → f i = f k → (1 ≤ 1 + 1 → ¬ endAt ps k x) ∧ (2 ≤ 1 + 1 → ¬ endAt ps k y)) := fun k hk he => by
                  have h0 := hnt.out k hk he
                  have h1 : ¬ endAt ps k y := fun h => by
                    have := (hSe.2 y (f i)).2 (.inl ⟨k, hk, h, he⟩)
                    exact this hcol
                  exact ⟨fun _ => h0.1 (by omega), fun _ => h1⟩
                have HS1 : Hid (SeenI ps f i (1 + 1) (setF col (y, f i) (some true))) := by rw [hy.out]; exact hSe.put2
                have HMM := Lib.hid hMM
                have hMlt := hMM.lt
                have HFI : Hid ((ekI (y, f i)) = .agg #[.int .i64 y, .int .i64 (f i)]) := rfl
                clear hlk hcol hMM hSe hmp
                go_upto_block 3 with (fail)
                go_wp2_with (refine wpList_store_f endKind rfl (.tmp 56) (.tmp 62) (.const (.bool true)) rfl M col (y, f i) true rfl rfl rfl HMM.out ?_; intro w8 hM8 hg8; have HM8 : Hid (MapS w8 M ps f i (1 + 1)) := ⟨_, hM8, HS1.out⟩; have HB8 : Hid (Below w2.heap.size w2 w8) := Below.grown hB3.out hg8 hB3.out.size (fun k hk => by cases hk; have := hM.out; omega); clear hM8 hg8)
                exact ⟨⟨1 + 1, by omega, int_eq (by omega), HM8, HNT, HB8⟩, by simp [intOf]⟩
            · have HNX : Hid (∀ i', i' < i + 1 → ∀ k, k < i' → ¬ (f i' = f k ∧ meetB (qa ps i') (qa ps k) = true)) := fun i' hi' k hk hc => by
                by_cases e : i' = i
                · subst e
                  obtain ⟨h1, h2⟩ := hnt.out k hk hc.1
                  rcases meetB_end.1 hc.2 with h | h
                  · exact h1 (by omega) (by rw [hx.out]; exact h)
                  · exact h2 (by omega) (by rw [hy.out]; exact h)
                · exact hpr.out i' (by omega) k hk hc
              have HMN : Hid (MapS wr M ps f (i + 1) 0) := ⟨col, hMM, hSe.next⟩
              clear hMM hSe hmp
              go_wp2
              exact ⟨⟨i + 1, by omega, int_eq (by omega), HMN, HNX, hB3⟩, by simp [intOf]; omega⟩
        · have g1 : ¬ (i : Int) < (len : Int) := by omega
          have HP : Hid (ProperI ps f) := fun i' hi' => hpr.out i' (by rw [HL.out] at hi'; omega)
          go_wp2
          refine bodyPost_ret (v := .tuple #[.bool true, .int .i64 0]) (by simp [results, Tryd.f35, go_sem]) rfl ?_
          exact ⟨IsPP.yes HV.out HP.out, HB1.out.trans (hB.out.mono HB1.out.size)⟩
  · have hne : ((m : Int) != (ps.length : Int)) = true := by rw [bne_iff_ne]; omega
    have HN : Hid (¬ ((∀ j, j < m → 0 ≤ f j) ∧ m = ps.length)) := fun h => hml h.2
    clear hml
    go_enter Tryd.func35, Tryd.ntmps35
    go_wp2_with (go_at_call 52; refine HO.out.mono ?_; rintro e w1 ⟨B, rfl, hBl, hg1, hb1⟩; have HB1 := Lib.hid hb1; clear hBl hg1 hb1)
    refine bodyPost_ret (v := .tuple #[.bool false, .int .i64 70]) (by simp [results, Tryd.f35, go_sem]) rfl ?_
    exact ⟨IsPP.bad HN.out, HB1.out⟩
end Go.Proofs.YtpknnjcbcndbbaaDoor
namespace Go.Proofs.YtpknnjcbcndbbaaDoor
open Go.RowKit Go.Shelf

set_option maxRecDepth 100000 in
set_option maxHeartbeats 1000000 in
theorem Degree_err (n : Int) (a : Option Addr) (cap : Nat) (ps : List (Int × Int)) (w : World) (hl : ps.length ≤ 1099511627776) (hg : Pairs w a ps) (hne : checkP n ps ≠ 0) :
    Calls Tryd.prog 48 #[.int .i64 n, .slice a ps.length cap] w fun e w' => e = .returned (.tuple #[.int .i64 0, .int .i64 (checkP n ps)]) ∧ Below w.heap.size w w' := by
  have HO := Lib.hid (gopen_err n a cap ps w hl hg hne)
  have hb : (checkP n ps != 0) = true := by simpa using hne
  clear hg hne
  generalize checkP n ps = c at *
  go_enter Tryd.func48, Tryd.ntmps48
  go_wp2_with (first
    | (go_at_call 52; refine HO.out.mono ?_; rintro e w1 ⟨rfl, hb1⟩; have HB1 := Lib.hid hb1; clear hb1))
  refine bodyPost_ret (v := .tuple #[.int .i64 0, .int .i64 c]) (by simp [results, Tryd.f48, go_sem]) rfl ?_
  exact ⟨rfl, HB1.out⟩
set_option maxRecDepth 100000 in
set_option maxHeartbeats 1000000 in
theorem Chromatic_err (n : Int) (a : Option Addr) (cap : Nat) (ps : List (Int × Int)) (w : World) (hl : ps.length ≤ 1099511627776) (hg : Pairs w a ps) (hne : checkP n ps ≠ 0) :
    Calls Tryd.prog 46 #[.int .i64 n, .slice a ps.length cap] w fun e w' => e = .returned (.tuple #[.int .i64 0, .slice none 0 0, .int .i64 (checkP n ps)]) ∧ Below w.heap.size w w' := by
  have HO := Lib.hid (gopen_err n a cap ps w hl hg hne)
  have hb : (checkP n ps != 0) = true := by simpa using hne
  clear hg hne
  generalize checkP n ps = c at *
  go_enter Tryd.func46, Tryd.ntmps46
  go_wp2_with (first
    | (go_at_call 52; refine HO.out.mono ?_; rintro e w1 ⟨rfl, hb1⟩; have HB1 := Lib.hid hb1; clear hb1))
  refine bodyPost_ret (v := .tuple #[.int .i64 0, .slice none 0 0, .int .i64 c]) (by simp [results, Tryd.f46, go_sem]) rfl ?_
  exact ⟨rfl, HB1.out⟩
set_option maxRecDepth 100000 in
set_option maxHeartbeats 1000000 in
theorem IsProper_err (n : Int) (a : Option Addr) (cap : Nat) (ps : List (Int × Int)) (w : World) (hl : ps.length ≤ 1099511627776) (hg : Pairs w a ps) (hne : checkP n ps ≠ 0) :
    Calls Tryd.prog 35 #[.int .i64 n, .slice a ps.length cap, .slice none 0 0] w fun e w' => e = .returned (.tuple #[.bool false, .int .i64 (checkP n ps)]) ∧ Below w.heap.size w w' := by
  have HO := Lib.hid (gopen_err n a cap ps w hl hg hne)
  have hb : (checkP n ps != 0) = true := by simpa using hne
  clear hg hne
  generalize checkP n ps = c at *
  go_enter Tryd.func35, Tryd.ntmps35
  go_wp2_with (first
    | (go_at_call 52; refine HO.out.mono ?_; rintro e w1 ⟨rfl, hb1⟩; have HB1 := Lib.hid hb1; clear hb1))
  refine bodyPost_ret (v := .tuple #[.bool false, .int .i64 c]) (by simp [results, Tryd.f35, go_sem]) rfl ?_
  exact ⟨rfl, HB1.out⟩
set_option maxRecDepth 100000 in
set_option maxHeartbeats 1000000 in
theorem Galvin_err (n : Int) (a : Option Addr) (cap : Nat) (ps : List (Int × Int)) (w : World) (hl : ps.length ≤ 1099511627776) (hg : Pairs w a ps) (hne : checkP n ps ≠ 0) :
    Calls Tryd.prog 49 #[.int .i64 n, .slice a ps.length cap, .slice none 0 0] w fun e w' => e = .returned (.tuple #[.slice none 0 0, .int .i64 (checkP n ps)]) ∧ Below w.heap.size w w' := by
  have HO := Lib.hid (gopen_err n a cap ps w hl hg hne)
  have hb : (checkP n ps != 0) = true := by simpa using hne
  clear hg hne
  generalize checkP n ps = c at *
  go_enter Tryd.func49, Tryd.ntmps49
  go_wp2_with (first
    | (go_at_call 52; refine HO.out.mono ?_; rintro e w1 ⟨rfl, hb1⟩; have HB1 := Lib.hid hb1; clear hb1))
  refine bodyPost_ret (v := .tuple #[.slice none 0 0, .int .i64 c]) (by simp [results, Tryd.f49, go_sem]) rfl ?_
  exact ⟨rfl, HB1.out⟩
set_option maxRecDepth 100000 in
set_option maxHeartbeats 1000000 in
theorem FromLists_err (n : Int) (a : Option Addr) (cap : Nat) (ps : List (Int × Int)) (w : World) (hl : ps.length ≤ 1099511627776) (hg : Pairs w a ps) (hne : checkP n ps ≠ 0) :
    Calls Tryd.prog 38 #[.int .i64 n, .slice a ps.length cap, .slice none 0 0] w fun e w' => e = .returned (.tuple #[.slice none 0 0, .bool false, .int .i64 (checkP n ps)]) ∧ Below w.heap.size w w' := by
  have HO := Lib.hid (gopen_err n a cap ps w hl hg hne)
  have hb : (checkP n ps != 0) = true := by simpa using hne
  clear hg hne
  generalize checkP n ps = c at *
  go_enter Tryd.func38, Tryd.ntmps38
  go_wp2_with (first
    | (go_at_call 52; refine HO.out.mono ?_; rintro e w1 ⟨rfl, hb1⟩; have HB1 := Lib.hid hb1; clear hb1))
  refine bodyPost_ret (v := .tuple #[.slice none 0 0, .bool false, .int .i64 c]) (by simp [results, Tryd.f38, go_sem]) rfl ?_
  exact ⟨rfl, HB1.out⟩
set_option maxRecDepth 100000 in
set_option maxHeartbeats 1000000 in
theorem Colours_err (n : Int) (a : Option Addr) (cap : Nat) (ps : List (Int × Int)) (w : World) (hl : ps.length ≤ 1099511627776) (hg : Pairs w a ps) (hne : checkP n ps ≠ 0) :
    Calls Tryd.prog 43 #[.int .i64 n, .slice a ps.length cap, .slice none 0 0] w fun e w' => e = .returned (.tuple #[.slice none 0 0, .bool false, .int .i64 (checkP n ps)]) ∧ Below w.heap.size w w' := by
  have HO := Lib.hid (gopen_err n a cap ps w hl hg hne)
  have hb : (checkP n ps != 0) = true := by simpa using hne
  clear hg hne
  generalize checkP n ps = c at *
  go_enter Tryd.func43, Tryd.ntmps43
  go_wp2_with (first
    | (go_at_call 52; refine HO.out.mono ?_; rintro e w1 ⟨rfl, hb1⟩; have HB1 := Lib.hid hb1; clear hb1))
  refine bodyPost_ret (v := .tuple #[.slice none 0 0, .bool false, .int .i64 c]) (by simp [results, Tryd.f43, go_sem]) rfl ?_
  exact ⟨rfl, HB1.out⟩
set_option maxRecDepth 100000 in
set_option maxHeartbeats 1000000 in
theorem check_any (n : Int) (a : Option Addr) (cap : Nat) (ps : List (Int × Int)) (w : World) (hl : ps.length ≤ 1099511627776) (hg : Pairs w a ps) :
    Calls Tryd.prog 50 #[.int .i64 n, .slice a ps.length cap] w fun e w' => e = .returned (.int .i64 (checkP n ps)) ∧ Below w.heap.size w w' := by
  have HE := Lib.hid (edges_any n a cap ps w hl hg)
  have HC : Hid (checkP n ps = if n < 1 ∨ 16 < n then 1 else if edgesB n ps = true then 0 else 40) := rfl
  clear hg
  generalize edgesB n ps = b at *
  by_cases c1 : n < 1
  · rw [HC.out, if_pos (.inl c1)]
    have d1 : decide (n < 1) = true := decide_eq_true c1
    go_enter Tryd.func50, Tryd.ntmps50
    go_wp2
    go_ret
    exact ⟨rfl, Below.refl _ _⟩
  · by_cases c2 : 16 < n
    · rw [HC.out, if_pos (.inr c2)]
      have d1 : decide (n < 1) = false := decide_eq_false c1
      have d2 : decide (16 < n) = true := decide_eq_true c2
      go_enter Tryd.func50, Tryd.ntmps50
      go_wp2
      go_ret
      exact ⟨rfl, Below.refl _ _⟩
    · rw [HC.out, if_neg (fun h => h.elim c1 c2)]
      have d1 : decide (n < 1) = false := decide_eq_false c1
      have d2 : decide (16 < n) = false := decide_eq_false c2
      cases b with
      | true =>
        rw [if_pos rfl]
        go_enter Tryd.func50, Tryd.ntmps50
        go_wp2_with (go_at_call 74; refine (HE.out).mono ?_; rintro e w1 ⟨rfl, m1, rfl⟩; try dsimp only)
        go_ret
        exact ⟨rfl, below_dr (Below.refl _ _) m1⟩
      | false =>
        rw [if_neg (by simp)]
        go_enter Tryd.func50, Tryd.ntmps50
        go_wp2_with (go_at_call 74; refine (HE.out).mono ?_; rintro e w1 ⟨rfl, m1, rfl⟩; try dsimp only)
        go_ret
        exact ⟨rfl, below_dr (Below.refl _ _) m1⟩
set_option maxRecDepth 100000 in
set_option maxHeartbeats 1000000 in
theorem Degree_okC (n : Nat) (a : Option Addr) (cap : Nat) (ps : List (Int × Int)) (w : World) (hG : Good n ps a w) :
    Calls Tryd.prog 48 #[.int .i64 (n : Int), .slice a ps.length cap] w fun e w' => e = .returned (.tuple #[.int .i64 (dgTo (ofE n ps) 16 : Nat), .int .i64 0]) ∧ Below w.heap.size w w' := by
  have HO := Lib.hid (gopen_ok n a cap ps w hG.hl hG.hg hG.n1 hG.n2 hG.ok)
  have HSM := Lib.hid (ofE_sm hG.n2 hG.ok)
  clear hG
  obtain ⟨g, hg⟩ : ∃ g, Hid (g = ofE n ps) := ⟨_, rfl⟩
  rw [← hg.out] at HO HSM ⊢
  have HDG : Hid (∀ B W, GraphAt W B n a cap ps.length g → Calls Tryd.prog 53 #[.pointer (some ⟨B, 0, none⟩)] W fun e w' => e = .returned (.int .i64 (dgTo g 16 : Nat)) ∧ w' = W) := fun B W h => degree_any B n a cap ps.length g W h HSM.out
  generalize dgTo g 16 = d at *
  go_enter Tryd.func48, Tryd.ntmps48
  go_wp2_with (first
    | (go_at_call 52; refine HO.out.mono ?_; rintro e w1 ⟨B, rfl, hBl, hg1, hb1⟩; have HG1 := Lib.hid hg1; have HB1 := Lib.hid hb1; clear hBl hg1 hb1)
    | (go_at_call 53; refine (HDG.out B _ HG1.out).mono ?_; rintro e w2 ⟨rfl, hw2⟩; subst hw2; try dsimp only))
  refine bodyPost_ret (v := .tuple #[.int .i64 (d : Int), .int .i64 0]) (by simp [results, Tryd.f48, go_sem]) rfl ?_
  exact ⟨rfl, HB1.out⟩
end Go.Proofs.YtpknnjcbcndbbaaDoor
namespace Go.Proofs.YtpknnjcbcndbbaaDoor
open Go.RowKit Go.Shelf

/-- a slice of integers as it comes in -/
structure IntsIn (w : World) (a : Option Addr) (cap : Nat) (xs : List Int) : Prop where
  g : SrcI w a xs.length (fun j => xs[j]?.getD 0)
  fits : xs.length ≤ cap
  capm : cap ≤ maxLen
  nil : a = none → cap = 0
theorem SrcI.take {w : World} {p : Option Addr} {m k : Nat} {f : Nat → Int} (h : SrcI w p m f) (hk : k ≤ m) : SrcI w p k f := fun h0 => by
  obtain ⟨b, o, e, h1, h2⟩ := h (by omega)
  exact ⟨b, o, e, h1, fun j hj => h2 j (by omega)⟩
set_option maxRecDepth 100000 in
set_option maxHeartbeats 2000000 in
theorem list_copy (a : Option Addr) (cap most : Nat) (xs : List Int) (w : World) (hm : most ≤ 1000) (h : IntsIn w a cap xs) :
    Calls Tryd.prog 34 #[.slice a xs.length cap, .int .i64 (most : Int)] w fun e w' => ∃ v, e = .returned v ∧ QRow w' w.heap.size 3 1 v (min xs.length most) (ivI (fun j => xs[j]?.getD 0) (min xs.length most)) ∧ Below w.heap.size w w' := by
  obtain ⟨i0, hi, hz0, hz1, hz2⟩ := info_parts info3
  have HS := Lib.hid ((h.g.take (Nat.min_le_left xs.length most)).src)
  have HONE := Lib.hid (ivI_one (fun j => xs[j]?.getD 0) (min xs.length most))
  have hf := h.fits
  have hcm := h.capm
  have hnil := h.nil
  unfold maxLen at hcm
  obtain ⟨k, hk⟩ : ∃ k, Hid (k = min xs.length most) := ⟨_, rfl⟩
  rw [← hk.out] at HS HONE ⊢
  have hkl : k ≤ xs.length := by rw [hk.out]; exact Nat.min_le_left _ _
  have hkm : k ≤ most := by rw [hk.out]; exact Nat.min_le_right _ _
  have hmin : min (xs.length : Int) (most : Int) = (k : Int) := by rw [hk.out]; omega
  generalize xs.length = len at *
  clear h
  cases a with
  | none =>
    have hc0 : cap = 0 := hnil rfl
    have hk0 : k = 0 := by omega
    clear hnil
    go_enter Tryd.func34, Tryd.ntmps34
    go_wp2
    go_ret
    refine ⟨_, rfl, ?_, Below.refl _ _⟩
    rw [hk0]
    exact QRow.nil _ _ _ _
  | some ad =>
    clear hnil
    go_enter Tryd.func34, Tryd.ntmps34
    go_wp2_with (at_builtin; go_must (refine wpList_append_qq _ rfl (.tmp 6) (.tmp 12) 25 rfl w.heap.size 3 i0 (.int .i64 0) 1 8 Tryd.underlying25 hi hz0 hz1 hz2 rfl (by decide) _ 0 [] rfl (QRow.nil _ _ _ _) (some ad) k cap (ivI (fun j => xs[j]?.getD 0) k) rfl HS.out HONE.out (by unfold maxLen; omega) (by omega) (Nat.le_refl _) ?_); intro v6 w6 hq6 hg6 ho6; have HB6 : Hid (Below w.heap.size w w6) := Below.grown (Below.refl _ w) hg6 (Nat.le_refl _) (fun kk e => by cases e); have HQ6 : Hid (QRow w6 w.heap.size 3 1 v6 k (ivI (fun j => xs[j]?.getD 0) k)) := (by rw [Nat.zero_add, List.nil_append] at hq6; exact hq6); clear hq6 hg6 ho6)
    go_ret
    exact ⟨v6, rfl, HQ6.out, HB6.out⟩
/-- an odd ring is found right -/
theorem nth_lt {l : List Nat} {n i : Nat} (h : ∀ x ∈ l, x < n) (hi : i < l.length) : nth l i < n := by
  unfold nth; rw [List.getElem?_eq_getElem hi]; exact h _ (List.getElem_mem hi)
def ringM (l : List Nat) : Nat → Nat
  | 0 => 0
  | k + 1 => ringM l k ||| pw (nth l k)
theorem ringM_bit (l : List Nat) (x : Nat) : ∀ k, (ringM l k).testBit x = true ↔ ∃ j, j < k ∧ nth l j = x
  | 0 => by simp [ringM]
  | k + 1 => by
    have ih := ringM_bit l x k
    rw [ringM, Nat.testBit_or, pw, Nat.testBit_two_pow, Bool.or_eq_true, ih, decide_eq_true_iff]
    constructor
    · rintro (⟨j, hj, h⟩ | h)
      · exact ⟨j, by omega, h⟩
      · exact ⟨k, by omega, h⟩
    · rintro ⟨j, hj, h⟩
      by_cases e : j = k
      · subst e; exact .inr h
      · exact .inl ⟨j, by omega, h⟩
theorem ringM_sm {l : List Nat} {n : Nat} (h : ∀ x ∈ l, x < n) (hn : n ≤ 16) : ∀ k, k ≤ l.length → Sm (ringM l k)
  | 0, _ => by unfold ringM; exact sm_of (by decide)
  | k + 1, hk => by
    rw [ringM]
    exact sm_or (ringM_sm h hn k (by omega)) (sm_pw (by have := nth_lt h (show k < l.length by omega); omega))
set_option maxRecDepth 100000 in
set_option maxHeartbeats 4000000 in
theorem roddring_true (n : Nat) (a : Option Addr) (cap : Nat) (p : Option Addr) (c : Nat) (g l : List Nat) (w : World) (hl : g.length = n) (hn : n ≤ 16) (hsm : ∀ i : Nat, Sm (g[i]?.getD 0)) (hg : Sets w a g) (hO : OddR g l) (hln : ∀ x ∈ l, x < n) (hs : SrcI w p l.length (fun j => (nth l j : Nat))) :
    Calls Tryd.prog 36 #[.slice a n cap, .slice p l.length c] w fun e w' => e = .returned (.bool true) ∧ Below w.heap.size w w' := by
  have hlen : l.length ≤ 16 := by
    have := nodup_sub l (List.range n) hO.nd (fun x hx => List.mem_range.2 (hln x hx))
    rw [List.length_range] at this; omega
  have hl3 := hO.len
  have hodd := hO.odd
  obtain ⟨b, off, rfl, hb, hc⟩ := hg
  have HC := Lib.hid hc
  have HS := Lib.hid hsm
  have HLN := Lib.hid hl
  have HOD := Lib.hid hO
  have HLT := Lib.hid hln
  obtain ⟨lb, lo, rfl, hlb, hlc⟩ := hs (by omega)
  have HLC := Lib.hid hlc
  clear hc hsm hl hO hln hlc hs
  obtain ⟨m, hm⟩ : ∃ m, Hid (m = l.length) := ⟨_, rfl⟩
  rw [← hm.out] at hlen hl3 hodd HLC ⊢
  have t1 : decide ((m : Int) < 3) = false := decide_eq_false (by omega)
  have t2 : ((m : Int) % 2 == 0) = false := by rw [beq_eq_false_iff_ne]; omega
  go_enter Tryd.func36, Tryd.ntmps36
  go_upto_region 5 with (fail)
  go_loopw [5, 6] (fun s5 s6 wr => ∃ k : Nat, k ≤ m ∧ s6 = .int .i64 (k : Int) ∧ s5 = .int .i64 (ringM l k : Nat) ∧ Hid (wr = w)) (fun _ s6 _ => 40 - (intOf s6).toNat)
  case atStart => exact ⟨0, by omega, rfl, rfl, rfl⟩
  case round =>
    obtain ⟨k, hk, rfl, rfl, hw⟩ := hrel
    rw [hw.out]
    by_cases hkm : k < m
    · have g1 : (k : Int) < (m : Int) := by omega
      have g0 : (0 : Int) ≤ (k : Int) := by omega
      have k1 : w.cell? ⟨lb, lo + k, none⟩ = some (.int .i64 (nth l k : Nat)) := HLC.out k hkm
      have hxn := nth_lt HLT.out (show k < l.length by rw [← hm.out]; exact hkm)
      have hsm := ringM_sm HLT.out hn k (by rw [← hm.out]; omega)
      have HNX : Hid (ringM l (k + 1) = ringM l k ||| pw (nth l k)) := rfl
      have hno : (ringM l k).testBit (nth l k) = false := by
        cases hb : (ringM l k).testBit (nth l k) with
        | false => rfl
        | true =>
          obtain ⟨j, hj, e⟩ := (ringM_bit l _ k).1 hb
          have := nth_nd HOD.out.nd (show j < l.length by rw [← hm.out]; omega) (show k < l.length by rw [← hm.out]; exact hkm) e
          omega
      generalize ringM l k = rm at *
      generalize nth l k = x at *
      have hx0 : (0 : Int) ≤ (x : Int) := by omega
      have t3 : decide ((x : Int) < 0) = false := decide_eq_false (by omega)
      have t4 : decide ((n : Int) ≤ (x : Int)) = false := decide_eq_false (by omega)
      have hx20 : x < 20 := by omega
      have hpx : wrap64 (2 ^ x) = ((pw x : Nat) : Int) := pw_cast _ (by omega)
      have hspx : Sm (pw x) := sm_pw (by omega)
      go_wp2
      exact ⟨⟨k + 1, by omega, int_eq (by omega), by rw [HNX.out], Lib.hid trivial⟩, by simp [intOf]; omega⟩
    · have g1 : ¬ (k : Int) < (m : Int) := by omega
      clear g1
      have g1 : ¬ (k : Int) < (m : Int) := by omega
      go_upto_region 11 with (fail)
      go_loopw [7] (fun s7 wr2 => ∃ i : Nat, i ≤ m ∧ s7 = .int .i64 (i : Int) ∧ Hid (Below w.heap.size w wr2)) (fun s7 _ => 40 - (intOf s7).toNat)
      case atStart => exact ⟨0, by omega, rfl, Below.refl _ _⟩
      case round =>
        obtain ⟨i, hi, rfl, hB⟩ := hrel
        by_cases him : i < m
        · have g2 : (i : Int) < (m : Int) := by omega
          have g0 : (0 : Int) ≤ (i : Int) := by omega
          have hnx : (i + 1) % m < m := Nat.mod_lt _ (by omega)
          have k1 : wr.cell? ⟨lb, lo + i, none⟩ = some (.int .i64 (nth l i : Nat)) := (hB.out.cell (p := ⟨lb, lo + i, none⟩) hlb).trans (HLC.out i him)
          have k2 : wr.cell? ⟨lb, lo + (i + 1) % m, none⟩ = some (.int .i64 (nth l ((i + 1) % m) : Nat)) := (hB.out.cell (p := ⟨lb, lo + (i + 1) % m, none⟩) hlb).trans (HLC.out _ hnx)
          have hxn := nth_lt HLT.out (show i < l.length by rw [← hm.out]; exact him)
          have hyn := nth_lt HLT.out (show (i + 1) % m < l.length by rw [← hm.out]; exact hnx)
          have k3 := (hB.out.cell (p := ⟨b, off + nth l i, none⟩) hb).trans (HC.out (nth l i) (by rw [HLN.out]; exact hxn))
          have hgk := HS.out (nth l i)
          have hbit : (g[nth l i]?.getD 0).testBit (nth l ((i + 1) % m)) = true := by
            have := HOD.out.edge i (by rw [← hm.out]; exact him)
            rw [← hm.out] at this
            exact this
          have hmi : ((i : Int) + 1) % (m : Int) = (((i + 1) % m : Nat) : Int) := by simp
          generalize (i + 1) % m = i2 at *
          generalize g[nth l i]?.getD 0 = z at *
          generalize nth l i = x at *
          generalize nth l i2 = y at *
          have e1 : (x : Int) < (n : Int) := by omega
          have e2 : (0 : Int) ≤ (x : Int) := by omega
          have e3 : (i2 : Int) < (m : Int) := by omega
          have e4 : (0 : Int) ≤ (i2 : Int) := by omega
          have e5 : (0 : Int) ≤ (y : Int) := by omega
          have e6 : y < 20 := by omega
          have e7 : ((m : Nat) : Int) ≠ 0 := by omega
          go_upto_region 13 with (fail)
          go_region
          go_wp2
          exact ⟨⟨i + 1, by omega, int_eq (by omega), hB.out.drew⟩, by simp [intOf]; omega⟩
        · have g2 : ¬ (i : Int) < (m : Int) := by omega
          go_wp2
          go_ret
          exact ⟨rfl, hB.out⟩
end Go.Proofs.YtpknnjcbcndbbaaDoor
namespace Go.Proofs.YtpknnjcbcndbbaaDoor
open Go.ChangeShapes Go.WideShapes Go.ChangeAt Go.RowKit

def slen : Value → Nat
  | .slice _ n _ => n
  | _ => 0
def IntRow (W : World) (N : Nat) (v : Value) (m : Nat) : Prop := ∃ f : Nat → Int, QRow W N 3 1 v m (ivI f m)
theorem QRow.cut {w : World} {base : Nat} {e : TypeId} {size : Nat} {p : Option Addr} {m c k : Nat} {xs : List Value} (h : QRow w base e size (.slice p m c) m xs) (hk : k ≤ m) : QRow w base e size (.slice p k c) k (xs.take (k * size)) := by
  have hks : k * size ≤ m * size := Nat.mul_le_mul_right _ hk
  refine ⟨by rw [List.length_take, h.1]; omega, ?_⟩
  rcases h.2 with ⟨e0, h0⟩ | ⟨g, o, cap, cur, e1, hb, hg, h1, h2, h3, h4⟩
  · cases e0; exact .inl ⟨by rw [show k = 0 by omega], by omega⟩
  · cases e1
    exact .inr ⟨g, o, c, cur, rfl, hb, hg, by omega, h2, h3, fun j hj => by rw [h4 j (by omega), List.getElem?_take, if_pos hj]⟩
theorem QRow.cap {w : World} {base : Nat} {e : TypeId} {size : Nat} {p : Option Addr} {m c : Nat} {xs : List Value} (h : QRow w base e size (.slice p m c) m xs) : m ≤ c ∧ c ≤ maxLen := by
  rcases h.2 with ⟨e0, h0⟩ | ⟨g, o, cap, cur, e1, hb, hg, h1, h2, _⟩
  · cases e0; exact ⟨Nat.le_refl _, by decide⟩
  · cases e1; exact ⟨h1, h2⟩
theorem ivI_take (f : Nat → Int) {k m : Nat} (hk : k ≤ m) : (ivI f m).take k = ivI f k := by
  unfold ivI
  rw [← List.map_take, List.take_range, Nat.min_eq_left hk]
theorem ivI_set (f : Nat → Int) {j m : Nat} (z : Int) : (ivI f m).set j (.int .i64 z) = ivI (fun i => if i = j then z else f i) m := by
  refine List.ext_getElem? fun i => ?_
  rw [List.getElem?_set]
  by_cases hi : i < m
  · rw [ivI_get _ m i hi, ivI_get _ m i hi]
    by_cases e : j = i
    · subst e; rw [ivI_len, if_pos rfl, if_pos hi, if_pos rfl]
    · rw [if_neg e, if_neg (Ne.symm e)]
  · rw [List.getElem?_eq_none (by rw [ivI_len]; omega), List.getElem?_eq_none (by rw [ivI_len]; omega), ivI_len]
    by_cases e : j = i
    · rw [if_pos e, if_neg (by omega)]
    · rw [if_neg e]
theorem ivI_push (f : Nat → Int) (m : Nat) (z : Int) : ivI f m ++ [.int .i64 z] = ivI (fun i => if i = m then z else f i) (m + 1) := by
  refine List.ext_getElem? fun i => ?_
  by_cases hi : i < m
  · rw [List.getElem?_append_left (by rw [ivI_len]; omega), ivI_get _ m i hi, ivI_get _ (m + 1) i (by omega), if_neg (by omega)]
  · rw [List.getElem?_append_right (by rw [ivI_len]; omega), ivI_len]
    by_cases e : i = m
    · subst e; rw [ivI_get _ (i + 1) i (by omega), if_pos rfl, Nat.sub_self]; rfl
    · rw [List.getElem?_eq_none (by simp; omega), List.getElem?_eq_none (by rw [ivI_len]; omega)]
theorem IntRow.take {W : World} {N : Nat} {p : Option Addr} {m c k : Nat} (h : IntRow W N (.slice p m c) m) (hk : k ≤ m) : IntRow W N (.slice p k c) k := by
  obtain ⟨f, h⟩ := h
  have := h.cut hk
  rw [Nat.mul_one, ivI_take f hk] at this
  exact ⟨f, this⟩
theorem IntRow.put {W : World} {N g o m c j : Nat} (h : IntRow W N (.slice (some ⟨g, o, none⟩) m c) m) (hj : j < m) (z : Int) : IntRow (W.setCell ⟨g, o + j, none⟩ (.int .i64 z)) N (.slice (some ⟨g, o, none⟩) m c) m := by
  obtain ⟨f, h⟩ := h
  have := h.set j (by omega) (.int .i64 z)
  rw [ivI_set f z] at this
  exact ⟨_, this⟩
theorem IntRow.lt {W : World} {N : Nat} {v : Value} {m : Nat} (h : IntRow W N v m) : ∀ k, v.ownBlock = some k → N ≤ k ∧ k < W.heap.size := by
  obtain ⟨f, h⟩ := h
  exact h.lt
theorem IntRow.below {W W' : World} {N n : Nat} {v : Value} {m : Nat} (h : IntRow W N v m) (hB : Below n W W') (hn : W.heap.size ≤ n) : IntRow W' N v m := by
  obtain ⟨f, h⟩ := h
  exact ⟨f, h.below hB fun k hk => Nat.lt_of_lt_of_le (h.lt k hk).2 hn⟩
theorem IntRow.cap {W : World} {N : Nat} {p : Option Addr} {m c : Nat} (h : IntRow W N (.slice p m c) m) : m ≤ c ∧ c ≤ maxLen := by
  obtain ⟨f, h⟩ := h
  exact h.cap
theorem IntRow.isSlice {W : World} {N : Nat} {v : Value} {m : Nat} (h : IntRow W N v m) : ∃ p c, v = .slice p m c := by
  obtain ⟨f, h⟩ := h
  exact h.isSlice
theorem open_ints_in {H : Type} {enc : TypeId × Value → H} {W : World} {a : Option Addr} {len cap : Nat} {d : DataW H} {p : List MemPlace}
    (h : ∃ fuel, DataW.trod enc Tryd.prog W 0 (fun _ => true) true fuel 25 (Value.slice a len cap).cells.toList = some (d, p)) : ∃ xs : List Int, IntsIn W a cap xs ∧ len = xs.length := by
  obtain ⟨fuel, hf⟩ := h
  rcases Go.ChangeShapes.open_ints Tryd.underlying25 Tryd.underlying3 cells3 hf with ⟨hcs, _⟩ | ⟨x, l, c, zs, hcs, _, hl, hm, hz, _, hcell, hwz⟩
  · simp [Value.cells] at hcs
    obtain ⟨rfl, rfl, rfl⟩ := hcs
    exact ⟨[], ⟨fun e => absurd rfl e, Nat.le_refl _, by decide, fun _ => rfl⟩, rfl⟩
  · simp [Value.cells] at hcs
    obtain ⟨rfl, rfl, rfl⟩ := hcs
    have hzl : zs.length = cap := by simpa using hz
    have hlen : (zs.take len).length = len := by rw [List.length_take]; omega
    refine ⟨zs.take len, ⟨fun hne => ?_, by rw [hlen]; exact hl, hm, fun e => (by cases e)⟩, hlen.symm⟩
    obtain ⟨b, off, sp⟩ := x
    have hc0 := hcell 0 (by omega)
    have hsp : sp = none := by
      unfold World.cell? at hc0
      cases sp with
      | none => rfl
      | some s =>
        simp [Addr.add] at hc0
        split at hc0 <;> simp_all
    subst hsp
    refine ⟨b, off, rfl, ?_, fun j hj => ?_⟩
    · obtain ⟨o, ho, _⟩ := cells_of_cell hc0
      exact (Array.getElem?_eq_some_iff.1 ho).1
    · rw [hlen] at hj
      have := hcell j (by omega)
      rw [Addr.add_lit] at this
      rw [this]; simp [List.getElem?_take, hj, List.getD_eq_getElem?_getD]
end Go.Proofs.YtpknnjcbcndbbaaDoor
namespace Go.Proofs.YtpknnjcbcndbbaaDoor
open Go.ChangeShapes Go.WideShapes Go.ChangeAt Go.RowKit Go.Shelf

/-- the j-th number of a list -/
def zz (l : List Int) (j : Nat) : Int := l[j]?.getD 0
/-- lists of integers as they lie -/
def LstI (W : World) (la : Option Addr) (m : Nat) (ls : Nat → List Int) : Prop := m ≠ 0 → ∃ b o, la = some ⟨b, o, none⟩ ∧ b < W.heap.size ∧ ∀ i, i < m → ∃ p c, W.cell? ⟨b, o + i, none⟩ = some (.slice p (ls i).length c) ∧ SrcI W p (ls i).length (zz (ls i))
theorem LstI.below {k : Nat} {w W : World} {la : Option Addr} {m : Nat} {ls : Nat → List Int} (h : LstI w la m ls) (hB : Below k w W) (hk : w.heap.size ≤ k) : LstI W la m ls := fun h0 => by
  obtain ⟨b, o, e, h1, h2⟩ := h h0
  refine ⟨b, o, e, Nat.lt_of_lt_of_le h1 hB.size, fun i hi => ?_⟩
  obtain ⟨p, c, h3, h4⟩ := h2 i hi
  exact ⟨p, c, (hB.cell (p := ⟨b, o + i, none⟩) (Nat.lt_of_lt_of_le h1 hk)).trans h3, h4.below hB hk⟩
/-- lists of integers as they come in -/
structure ListsIn (W : World) (la : Option Addr) (cap : Nat) (xs : List (List Int)) : Prop where
  g : xs.length ≠ 0 → ∃ b o, la = some ⟨b, o, none⟩ ∧ b < W.heap.size ∧ ∀ i, i < xs.length → ∃ p c, W.cell? ⟨b, o + i, none⟩ = some (.slice p (xs[i]?.getD []).length c) ∧ IntsIn W p c (xs[i]?.getD [])
  fits : xs.length ≤ cap
  capm : cap ≤ maxLen
  nil : la = none → cap = 0
theorem IntsIn.below {k : Nat} {w W : World} {p : Option Addr} {c : Nat} {xs : List Int} (h : IntsIn w p c xs) (hB : Below k w W) (hk : w.heap.size ≤ k) : IntsIn W p c xs := ⟨h.g.below hB hk, h.fits, h.capm, h.nil⟩
theorem ListsIn.below {k : Nat} {w W : World} {p : Option Addr} {c : Nat} {xs : List (List Int)} (h : ListsIn w p c xs) (hB : Below k w W) (hk : w.heap.size ≤ k) : ListsIn W p c xs := ⟨fun h0 => by
  obtain ⟨b, o, e, h1, h2⟩ := h.g h0
  refine ⟨b, o, e, Nat.lt_of_lt_of_le h1 hB.size, fun i hi => ?_⟩
  obtain ⟨p, c, h3, h4⟩ := h2 i hi
  exact ⟨p, c, (hB.cell (p := ⟨b, o + i, none⟩) (Nat.lt_of_lt_of_le h1 hk)).trans h3, h4.below hB hk⟩, h.fits, h.capm, h.nil⟩
theorem cells25 : Tryd.prog.cellsOf 25 = 1 := by kernel_rfl
set_option maxRecDepth 100000 in
theorem open_lists {H : Type} {enc : TypeId × Value → H} {W : World} {a : Option Addr} {len cap : Nat} {d : DataW H} {p : List MemPlace}
    (h : ∃ fuel, DataW.trod enc Tryd.prog W 0 (fun _ => true) true fuel 58 (Value.slice a len cap).cells.toList = some (d, p)) : ∃ xs : List (List Int), ListsIn W a cap xs ∧ len = xs.length := by
  obtain ⟨fuel, hf⟩ := h
  rcases Go.Deep.open_slice1 Tryd.underlying58 cells25 hf with ⟨hcs, _⟩ | ⟨x, l, c, m, n, V, D, Pl, hcs, hb, hl, hm, hmm, hx, hel⟩
  · simp [Value.cells] at hcs
    obtain ⟨rfl, rfl, rfl⟩ := hcs
    exact ⟨[], ⟨fun e => absurd rfl e, Nat.le_refl _, by decide, fun _ => rfl⟩, rfl⟩
  · simp [Value.cells] at hcs
    obtain ⟨rfl, rfl, rfl⟩ := hcs
    have hlm : len ≤ m := by rw [hmm]; simpa using hl
    have each : ∀ i, i < len → ∃ z : List Int, ∃ p c, W.cell? (x.add i) = some (.slice p z.length c) ∧ IntsIn W p c z := by
      intro i hi
      obtain ⟨h1, h2⟩ := hel i (by omega)
      have hsl : ∃ p l c, V i = .slice p l c := by
        rcases Go.ChangeShapes.open_ints Tryd.underlying25 Tryd.underlying3 cells3 h2 with ⟨hcs, _⟩ | ⟨x, l, c, zs, hcs, _⟩
        · exact ⟨_, _, _, by simpa using hcs⟩
        · exact ⟨_, _, _, by simpa using hcs⟩
      obtain ⟨p, l, c, e⟩ := hsl
      rw [e] at h1 h2
      obtain ⟨z, hz, rfl⟩ := open_ints_in ⟨n, h2⟩
      exact ⟨z, p, c, h1, hz⟩
    obtain ⟨z, hz⟩ := Go.Deep.choose_lt each
    refine ⟨(List.range len).map z, ⟨fun hne => ?_, by simpa using hl, hm, fun e => by cases e⟩, by simp⟩
    obtain ⟨b, off, sp⟩ := x
    have h0 : 0 < len := by have : ((List.range len).map z).length = len := by simp
                            omega
    obtain ⟨p0, c0, hc0, _⟩ := hz 0 h0
    have hsp : sp = none := by
      unfold World.cell? at hc0
      cases sp with
      | none => rfl
      | some s =>
        simp [Addr.add] at hc0
        split at hc0 <;> simp_all
    subst hsp
    refine ⟨b, off, rfl, ?_, fun j hj => ?_⟩
    · obtain ⟨o, ho, _⟩ := cells_of_cell hc0
      exact (Array.getElem?_eq_some_iff.1 ho).1
    · have hj' : j < len := by simpa using hj
      obtain ⟨p, c, h1, h2⟩ := hz j hj'
      have e : ((List.range len).map z)[j]?.getD [] = z j := by simp [hj']
      rw [e]
      rw [Addr.add_lit] at h1
      exact ⟨p, c, h1, h2⟩
/-- a row of rows of integers that the call has made -/
def LRow (W : World) (base : Nat) (v : Value) (m : Nat) (ls : Nat → List Int) : Prop := ∃ xs, QRow W base 25 1 v m xs ∧ ∀ i, i < m → ∃ p c, xs[i]? = some (.slice p (ls i).length c) ∧ QRow W base 3 1 (.slice p (ls i).length c) (ls i).length (ivI (zz (ls i)) (ls i).length)
theorem LRow.lst {W : World} {base : Nat} {p : Option Addr} {c m : Nat} {ls : Nat → List Int} (h : LRow W base (.slice p m c) m ls) : LstI W p m ls := fun hm => by
  obtain ⟨xs, h1, h2⟩ := h
  obtain ⟨b, o, cap, e, _, hb, _, _, hc, _⟩ := h1.at (by omega)
  cases e
  refine ⟨b, o, rfl, hb, fun i hi => ?_⟩
  obtain ⟨p, c, h3, h4⟩ := h2 i hi
  exact ⟨p, c, (hc i (by omega)).trans h3, h4.srcI (ivI_get _ _)⟩
theorem LRow.below {n base : Nat} {w W : World} {v : Value} {m : Nat} {ls : Nat → List Int} (h : LRow w base v m ls) (hB : Below n w W) (hn : w.heap.size ≤ n) : LRow W base v m ls := by
  obtain ⟨xs, h1, h2⟩ := h
  refine ⟨xs, h1.below hB fun k hk => Nat.lt_of_lt_of_le (h1.lt k hk).2 hn, fun i hi => ?_⟩
  obtain ⟨p, c, h3, h4⟩ := h2 i hi
  exact ⟨p, c, h3, h4.below hB fun k hk => Nat.lt_of_lt_of_le (h4.lt k hk).2 hn⟩
theorem LRow.nil (w : World) (base : Nat) (ls : Nat → List Int) : LRow w base (.slice none 0 0) 0 ls := ⟨[], QRow.nil _ _ _ _, fun i hi => by omega⟩
theorem LRow.isSlice {W : World} {base : Nat} {v : Value} {m : Nat} {ls : Nat → List Int} (h : LRow W base v m ls) : ∃ p c, v = .slice p m c := by
  obtain ⟨xs, h1, h2⟩ := h
  exact h1.isSlice
/-- behind an append to it: W the world before, A with the new row, W' after -/
theorem LRow.push {W W' : World} {base : Nat} {v v' : Value} {m : Nat} {ls : Nat → List Int} {xs : List Value} {p : Option Addr} {c : Nat} {l : List Int}
    (h2 : ∀ i, i < m → ∃ p c, xs[i]? = some (.slice p (ls i).length c) ∧ QRow W base 3 1 (.slice p (ls i).length c) (ls i).length (ivI (zz (ls i)) (ls i).length)) (h1 : QRow W base 25 1 v m xs)
    (hq : QRow W base 3 1 (.slice p l.length c) l.length (ivI (zz l) l.length)) (hg : W.grownBy W' v.ownBlock) (h3 : QRow W' base 25 1 v' (m + 1) (xs ++ [.slice p l.length c])) : LRow W' base v' (m + 1) (fun i => if i = m then l else ls i) := by
  have hxl := h1.1
  refine ⟨_, h3, fun i hi => ?_⟩
  by_cases e : i = m
  · subst e
    refine ⟨p, c, ?_, ?_⟩
    · rw [List.getElem?_append_right (by omega)]; simp [hxl]
    · show QRow W' base 3 1 (.slice p (if i = i then l else ls i).length c) (if i = i then l else ls i).length (ivI (zz (if i = i then l else ls i)) (if i = i then l else ls i).length)
      rw [if_pos rfl]
      exact hq.kept hg (ne_or (hq.ne h1 (by decide)))
  · obtain ⟨p', c', h4, h5⟩ := h2 i (by omega)
    refine ⟨p', c', ?_, ?_⟩
    · rw [List.getElem?_append_left (by omega)]; simp only [if_neg e]; exact h4
    · simp only [if_neg e]
      exact h5.kept hg (ne_or (h5.ne h1 (by decide)))
theorem zz_take (xs : List Int) (k : Nat) : ivI (fun j => xs[j]?.getD 0) (min xs.length k) = ivI (zz (xs.take k)) (xs.take k).length := by
  refine List.ext_getElem? fun i => ?_
  have hl : (xs.take k).length = min xs.length k := by rw [List.length_take, Nat.min_comm]
  by_cases hi : i < min xs.length k
  · rw [ivI_get _ _ i hi, ivI_get _ _ i (by omega)]
    unfold zz
    rw [List.getElem?_take, if_pos (by omega)]
  · rw [List.getElem?_eq_none (by rw [ivI_len]; omega), List.getElem?_eq_none (by rw [ivI_len]; omega)]
theorem list_copy' (a : Option Addr) (cap most : Nat) (xs : List Int) (w : World) (hm : most ≤ 1000) (h : IntsIn w a cap xs) :
    Calls Tryd.prog 34 #[.slice a xs.length cap, .int .i64 (most : Int)] w fun e w' => (∃ p c, e = .returned (.slice p (xs.take most).length c) ∧ QRow w' w.heap.size 3 1 (.slice p (xs.take most).length c) (xs.take most).length (ivI (zz (xs.take most)) (xs.take most).length)) ∧ Below w.heap.size w w' :=
  (list_copy a cap most xs w hm h).mono fun e w' ⟨v, h1, h2, h3⟩ => by
    have hl : (xs.take most).length = min xs.length most := by rw [List.length_take, Nat.min_comm]
    rw [zz_take, ← hl] at h2
    obtain ⟨p, c, rfl⟩ := h2.isSlice
    exact ⟨⟨p, c, h1, h2⟩, h3⟩
set_option maxRecDepth 100000 in
set_option maxHeartbeats 2000000 in
theorem lists_copy (a : Option Addr) (cap : Nat) (xs : List (List Int)) (w : World) (h : ListsIn w a cap xs) :
    Calls Tryd.prog 37 #[.slice a xs.length cap] w fun e w' => (∃ p c m ls, e = .returned (.slice p m c) ∧ m ≤ 125 ∧ (∀ i, (ls i).length ≤ 70) ∧ LRow w' w.heap.size (.slice p m c) m ls) ∧ Below w.heap.size w w' := by
  obtain ⟨i1, hi1, hy0, hy1, hy2⟩ := info_parts info25
  have H := Lib.hid h
  have hfit := h.fits
  have hcm := h.capm
  unfold maxLen at hcm
  clear h
  obtain ⟨len, HL⟩ : ∃ len, Hid (xs.length = len) := ⟨_, rfl⟩
  rw [HL.out] at hfit ⊢
  go_enter Tryd.func37, Tryd.ntmps37
  go_upto_region 3 with (fail)
  go_loopw [3, 4] (fun s3 s4 wr => ∃ (i : Nat) (ls : Nat → List Int), i ≤ len ∧ i ≤ 125 ∧ s4 = .int .i64 (i : Int) ∧ Hid (∀ i, (ls i).length ≤ 70) ∧ Hid (LRow wr w.heap.size s3 i ls) ∧ Hid (Below w.heap.size w wr)) (fun _ s4 _ => 200 - (intOf s4).toNat)
  case atStart => exact ⟨0, fun _ => [], by omega, by omega, rfl, (fun _ => by simp), LRow.nil _ _ _, Below.refl _ _⟩
  case round =>
    obtain ⟨i, ls, hi, hi2, rfl, hl7, hR, hB⟩ := hrel
    obtain ⟨p3, c3, rfl⟩ := hR.out.isSlice
    have hsz := hB.out.size
    by_cases hil : i < len
    · have g1 : (i : Int) < (len : Int) := by omega
      have g0 : (0 : Int) ≤ (i : Int) := by omega
      by_cases hi5 : i < 125
      · have g2 : (i : Int) < 125 := by omega
        obtain ⟨b, o, rfl, hb, hc⟩ := (H.out.g (by rw [HL.out]; omega))
        obtain ⟨p, c, h1, h2⟩ := hc i (by rw [HL.out]; exact hil)
        obtain ⟨l, hl⟩ : ∃ l, Hid (l = xs[i]?.getD []) := ⟨_, rfl⟩
        rw [← hl.out] at h1 h2
        have k1 := (hB.out.cell (p := ⟨b, o + i, none⟩) hb).trans h1
        have HLC := Lib.hid (list_copy' p c 70 l wr (by decide) (h2.below hB.out (Nat.le_refl _)))
        have HTL : Hid ((l.take 70).length ≤ 70) := by rw [Hid, List.length_take]; exact Nat.min_le_left _ _
        generalize l.take 70 = t at *
        clear hc h1 h2
        go_wp2_with (first
          | (go_at_call 34; refine (HLC.out).mono ?_; rintro e w4 ⟨⟨p4, c4, rfl, hq4⟩, hB4⟩; have HQ4 := Lib.hid hq4; have HR4 := Lib.hid (hR.out.below hB4 (Nat.le_refl _)); have HB4 := Lib.hid (hB.out.trans (hB4.mono hsz)); have hsz4 := HB4.out.size; obtain ⟨ys, hy, hz⟩ := HR4.out; have HY := Lib.hid hy; have HZ := Lib.hid hz; have HYA : Hid (QRow (w4.alloc (.cells #[.slice p4 t.length c4] 25)) w.heap.size 25 1 (.slice p3 i c3) i ys) := hy.alloc _; have HQA : Hid (QRow (w4.alloc (.cells #[.slice p4 t.length c4] 25)) w.heap.size 3 1 (.slice p4 t.length c4) t.length (ivI (zz t) t.length)) := (hq4.alloc _).mono hsz; have HZA : Hid (∀ i', i' < i → ∃ p c, ys[i']? = some (.slice p (ls i').length c) ∧ QRow (w4.alloc (.cells #[.slice p4 t.length c4] 25)) w.heap.size 3 1 (.slice p (ls i').length c) (ls i').length (ivI (zz (ls i')) (ls i').length)) := (fun i' hi' => by obtain ⟨p, c, a1, a2⟩ := hz i' hi'; exact ⟨p, c, a1, a2.alloc _⟩); have HLT := Lib.hid HYA.out.lt; clear hq4 hB4 hy hz)
          | (at_builtin; go_must (refine wpList_append_q _ rfl (.tmp 15) (.tmp 21) 58 rfl w.heap.size 25 i1 (.slice none 0 0) 1 24 Tryd.underlying58 hi1 hy0 hy1 hy2 rfl (by decide) _ i ys rfl HYA.out ⟨_, 0, none⟩ 1 1 [.slice p4 t.length c4] rfl rfl (cells_new1 _ _ _) (by simp [Value.oneCell']) (by unfold maxLen; omega) (by omega) (by simp; omega) ?_); intro v5 w5 hq5 hg5 ho5; have HR5 : Hid (LRow w5 w.heap.size v5 (i + 1) (fun i' => if i' = i then t else ls i')) := LRow.push HZA.out HYA.out HQA.out hg5 hq5; have HB5 : Hid (Below w.heap.size w w5) := Below.grown (HB4.out.alloc hsz4 _) hg5 (by simp; omega) (fun kk e => (HLT.out kk e).1); clear hq5 hg5 ho5))
        have HL7 : Hid (∀ i', ((fun i' => if i' = i then t else ls i') i').length ≤ 70) := fun i' => by
          show (if i' = i then t else ls i').length ≤ 70
          by_cases e : i' = i
          · rw [if_pos e]; exact HTL.out
          · rw [if_neg e]; exact hl7.out i'
        exact ⟨⟨i + 1, _, by omega, by omega, int_eq (by omega), HL7, HR5, HB5⟩, by simp [intOf]; omega⟩
      · have g2 : ¬ (i : Int) < 125 := by omega
        go_wp2
        go_ret
        exact ⟨⟨p3, c3, i, rfl, hi2, ls, hl7.out, hR.out⟩, hB.out⟩
    · have g1 : ¬ (i : Int) < (len : Int) := by omega
      go_wp2
      go_ret
      exact ⟨⟨p3, c3, i, rfl, hi2, ls, hl7.out, hR.out⟩, hB.out⟩
end Go.Proofs.YtpknnjcbcndbbaaDoor
namespace Go.Proofs.YtpknnjcbcndbbaaDoor
open Go.RowKit Go.Shelf

/-- x is one of the first m values -/
def InI (f : Nat → Int) (m : Nat) (x : Int) : Prop := ∃ j, j < m ∧ f j = x
set_option maxRecDepth 100000 in
theorem has_any (p : Option Addr) (m c : Nat) (x : Int) (f : Nat → Int) (w : World) (hm : m ≤ 1099511627776) (h : SrcI w p m f) :
    Calls Tryd.prog 69 #[.slice p m c, .int .i64 x] w fun e w' => BoolP (InI f m x) e ∧ w' = w := by
  have H := Lib.hid h
  clear h
  go_enter Tryd.func69, Tryd.ntmps69
  go_upto_region 2 with (fail)
  go_loopw [5] (fun s3 wr => ∃ j : Nat, j ≤ m ∧ s3 = .int .i64 (j : Int) ∧ Hid (∀ i, i < j → f i ≠ x) ∧ Hid (wr = w)) (fun s3 _ => m - (intOf s3).toNat)
  case atStart => exact ⟨0, by omega, rfl, (fun i hi => by omega), rfl⟩
  case round =>
    obtain ⟨j, hj, rfl, hp, hw⟩ := hrel
    rw [hw.out]
    by_cases hjm : j < m
    · have g1 : (j : Int) < (m : Int) := by omega
      have g0 : (0 : Int) ≤ (j : Int) := by omega
      obtain ⟨b, o, rfl, hb, hc⟩ := H.out (by omega)
      have k1 := hc j hjm
      clear hc
      by_cases hx : f j = x
      · have HY : Hid (InI f m x) := ⟨j, hjm, hx⟩
        have hb1 : (f j == x) = true := by rw [hx]; simp
        clear hx
        go_wp2
        go_ret
        exact ⟨BoolP.yes HY.out, rfl⟩
      · have hb1 : (f j == x) = false := by rw [beq_eq_false_iff_ne]; exact hx
        have HP : Hid (∀ i, i < j + 1 → f i ≠ x) := fun i hi => by
          by_cases e : i = j
          · subst e; exact hx
          · exact hp.out i (by omega)
        clear hx
        go_wp2
        exact ⟨⟨j + 1, by omega, int_eq (by omega), HP, Lib.hid trivial⟩, by simp [intOf]; omega⟩
    · have g1 : ¬ (j : Int) < (m : Int) := by omega
      have HN : Hid (¬ InI f m x) := fun ⟨i, hi, h⟩ => hp.out i (by omega) h
      go_wp2
      go_ret
      exact ⟨BoolP.no HN.out, rfl⟩
/-- each number is from its list -/
def FromI (f : Nat → Int) (m n : Nat) (ls : Nat → List Int) : Prop := m = n ∧ ∀ i, i < m → f i ∈ ls i
theorem inI_zz {l : List Int} {x : Int} : InI (zz l) l.length x ↔ x ∈ l := by
  constructor
  · rintro ⟨j, hj, rfl⟩
    unfold zz; rw [List.getElem?_eq_getElem hj]; exact List.getElem_mem hj
  · intro h
    obtain ⟨j, hj, e⟩ := List.getElem_of_mem h
    exact ⟨j, hj, by unfold zz; rw [List.getElem?_eq_getElem hj]; exact e⟩
theorem BoolP.dec {P : Prop} {e : Ending} (h : BoolP P e) {b : Bool} (hb : b = true ↔ P) : e = .returned (.bool b) := by
  obtain ⟨b', rfl, h'⟩ := h
  rw [Bool.eq_iff_iff.2 (h'.trans hb.symm)]
theorem bool_of (P : Prop) : ∃ b : Bool, b = true ↔ P := by
  by_cases h : P
  · exact ⟨true, fun _ => h, fun _ => rfl⟩
  · exact ⟨false, (fun h => by cases h), fun h' => absurd h' h⟩
set_option maxRecDepth 100000 in
theorem from_any (p la : Option Addr) (m c n lc : Nat) (f : Nat → Int) (ls : Nat → List Int) (w : World) (hm : m ≤ 1099511627776) (hll : ∀ i, (ls i).length ≤ 1000) (h : SrcI w p m f) (hL : LstI w la n ls) :
    Calls Tryd.prog 41 #[.slice p m c, .slice la n lc] w fun e w' => BoolP (FromI f m n ls) e ∧ Below w.heap.size w w' := by
  have H := Lib.hid h
  have HL := Lib.hid hL
  clear h hL
  by_cases hmn : m = n
  · subst hmn
    have HHA : Hid (∀ W i p c, SrcI W p (ls i).length (zz (ls i)) → Calls Tryd.prog 69 #[.slice p (ls i).length c, .int .i64 (f i)] W fun e w' => BoolP (f i ∈ ls i) e ∧ w' = W) := fun W i p c hs =>
      (has_any p _ c (f i) _ W (by have := hll i; omega) hs).mono fun e w' ⟨⟨b, h1, h2⟩, h3⟩ => ⟨⟨b, h1, h2.trans inI_zz⟩, h3⟩
    have g : ((m : Int) != (m : Int)) = false := by simp
    go_enter Tryd.func41, Tryd.ntmps41
    go_upto_region 4 with (fail)
    clear g
    go_loopw [5] (fun s5 wr => ∃ j : Nat, j ≤ m ∧ s5 = .int .i64 (j : Int) ∧ Hid (∀ i, i < j → f i ∈ ls i) ∧ Hid (Below w.heap.size w wr)) (fun s5 _ => m - (intOf s5).toNat)
    case atStart => exact ⟨0, by omega, rfl, (fun i hi => by omega), Below.refl _ _⟩
    case round =>
      obtain ⟨j, hj, rfl, hp, hB⟩ := hrel
      by_cases hjm : j < m
      · have g1 : (j : Int) < (m : Int) := by omega
        have g0 : (0 : Int) ≤ (j : Int) := by omega
        obtain ⟨b, o, rfl, hb, hc⟩ := H.out (by omega)
        obtain ⟨lb, lo, rfl, hlb, hlc⟩ := HL.out (by omega)
        obtain ⟨lp, lc2, k2, hs⟩ := hlc j hjm
        have hbr : b < wr.heap.size := Nat.lt_of_lt_of_le hb hB.out.size
        have hlbr : lb < wr.heap.size := Nat.lt_of_lt_of_le hlb hB.out.size
        have r0 : ∀ d : BW wr.heap.size wr, d.w.cell? ⟨b, o + j, none⟩ = some (.int .i64 (f j)) := fun d => d.cell hbr ((hB.out.cell (p := ⟨b, o + j, none⟩) hb).trans (hc j hjm))
        have r1 : ∀ d : BW wr.heap.size wr, d.w.cell? ⟨lb, lo + j, none⟩ = some (.slice lp (ls j).length lc2) := fun d => d.cell hlbr ((hB.out.cell (p := ⟨lb, lo + j, none⟩) hlb).trans k2)
        obtain ⟨bv, hbv⟩ := bool_of (f j ∈ ls j)
        have HC : Hid (∀ d : BW wr.heap.size wr, Calls Tryd.prog 69 #[.slice lp (ls j).length lc2, .int .i64 (f j)] d.w fun e w' => e = .returned (.bool bv) ∧ ∃ d' : BW wr.heap.size wr, w' = d'.w) := fun d => Calls.bw ((HHA.out d.w j lp lc2 (hs.below (hB.out.trans (d.b.mono hB.out.size)) (Nat.le_refl _))).mono fun e w' ⟨h1, h2⟩ => ⟨h1.dec hbv, by rw [h2]; exact d.b⟩)
        have HBV := Lib.hid hbv
        have HN : Hid (f j ∈ ls j → ∀ i, i < j + 1 → f i ∈ ls i) := fun h i hi => by
          by_cases e : i = j
          · subst e; exact h
          · exact hp.out i (by omega)
        have HBD : Hid (f j ∉ ls j → ¬ FromI f m m ls) := fun h h' => h (h'.2 j hjm)
        clear hc hlc hs hbv k2 hbr hlbr
        generalize f j = fj at *
        generalize ls j = lj at *
        go_upto_region 6 with (fail)
        refine wp_region_bw (by kernel_rfl) (by kernel_rfl) ?_
        repeat (go_big_quiet_step ((first
          | rfl
          | (go_at_call 69; exact HC.out _))))
        refine wpQuiet_nil ?_
        rintro _ ⟨d, rfl⟩
        have HBDD := Lib.hid (hB.out.trans (d.b.mono hB.out.size))
        clear r0 r1 HC
        generalize d.w = Z at *
        cases bv with
        | true =>
          have HN2 := Lib.hid (HN.out (HBV.out.1 rfl))
          go_wp2
          exact ⟨⟨j + 1, by omega, int_eq (by omega), HN2, HBDD⟩, by simp [intOf]; omega⟩
        | false =>
          have HB2 := Lib.hid (HBD.out fun h => absurd (HBV.out.2 h) (by simp))
          go_wp2
          go_ret
          exact ⟨BoolP.no HB2.out, HBDD.out⟩
      · have g1 : ¬ (j : Int) < (m : Int) := by omega
        have HY : Hid (FromI f m m ls) := ⟨rfl, fun i hi => hp.out i (by omega)⟩
        go_wp2
        go_ret
        exact ⟨BoolP.yes HY.out, hB.out⟩
  · have g : ((m : Int) != (n : Int)) = true := by rw [bne_iff_ne]; omega
    have HN : Hid (¬ FromI f m n ls) := fun h => hmn h.1
    clear hmn
    go_enter Tryd.func41, Tryd.ntmps41
    go_wp2
    go_ret
    exact ⟨BoolP.no HN.out, Below.refl _ _⟩
/-- rising numbers, none greater than 63 -/
def RiseAt (f : Nat → Int) (k : Nat) : Prop := 0 ≤ f k ∧ f k ≤ 63 ∧ (0 < k → f (k - 1) < f k)
def Rise (l : List Int) : Prop := ∀ k, k < l.length → RiseAt (zz l) k
def ListsP (ls : Nat → List Int) (m n : Nat) : Prop := (∀ i, i < m → Rise (ls i)) ∧ m = n
set_option maxRecDepth 100000 in
set_option maxHeartbeats 2000000 in
theorem lists_any (la : Option Addr) (m n lc : Nat) (ls : Nat → List Int) (w : World) (hm : m ≤ 1099511627776) (hll : ∀ i, (ls i).length ≤ 1000) (hL : LstI w la m ls) :
    Calls Tryd.prog 39 #[.slice la m lc, .int .i64 (n : Int)] w fun e w' => BoolP (ListsP ls m n) e ∧ Below w.heap.size w w' := by
  have HL := Lib.hid hL
  clear hL
  go_enter Tryd.func39, Tryd.ntmps39
  go_upto_region 2 with (fail)
  go_loopw [5] (fun s5 wr => ∃ j : Nat, j ≤ m ∧ s5 = .int .i64 (j : Int) ∧ Hid (∀ i, i < j → Rise (ls i)) ∧ Hid (Below w.heap.size w wr)) (fun s5 _ => m - (intOf s5).toNat)
  case atStart => exact ⟨0, by omega, rfl, (fun i hi => by omega), Below.refl _ _⟩
  case round =>
    obtain ⟨j, hj, rfl, hp, hB⟩ := hrel
    by_cases hjm : j < m
    · have g1 : (j : Int) < (m : Int) := by omega
      have g0 : (0 : Int) ≤ (j : Int) := by omega
      obtain ⟨lb, lo, rfl, hlb, hlc⟩ := HL.out (by omega)
      obtain ⟨lp, lc2, k2, hs⟩ := hlc j hjm
      have HS := Lib.hid hs
      have k3 := (hB.out.cell (p := ⟨lb, lo + j, none⟩) hlb).trans k2
      have hl := hll j
      have HN : Hid (Rise (ls j) → ∀ i, i < j + 1 → Rise (ls i)) := fun h i hi => by
        by_cases e : i = j
        · subst e; exact h
        · exact hp.out i (by omega)
      have HBD : Hid (¬ Rise (ls j) → ¬ ListsP ls m n) := fun h h' => h (h'.1 j hjm)
      have HRS : Hid (∀ k, k < (ls j).length → ¬ RiseAt (zz (ls j)) k → ¬ Rise (ls j)) := fun k hk h h' => h (h' k hk)
      have HRY : Hid ((∀ k, k < (ls j).length → RiseAt (zz (ls j)) k) → Rise (ls j)) := id
      generalize zz (ls j) = f at *
      generalize Rise (ls j) = R at *
      generalize (ls j).length = len at *
      clear hlc hs k2
      go_upto_region 6 with (fail)
      clear k3
      obtain ⟨wo, hwo⟩ : ∃ wo : World, Hid (wo = wr) := ⟨_, rfl⟩
      go_loopw [7] (fun s7 wr2 => ∃ k : Nat, k ≤ len ∧ s7 = .int .i64 (k : Int) ∧ Hid (∀ i, i < k → RiseAt f i) ∧ Hid (Below w.heap.size w wr2)) (fun s7 _ => len - (intOf s7).toNat)
      case atStart => exact ⟨0, by omega, rfl, (fun i hi => by omega), hB⟩
      case round =>
        obtain ⟨k, hk, rfl, hpk, hB2⟩ := hrel
        by_cases hkl : k < len
        · have g2 : (k : Int) < (len : Int) := by omega
          have g3 : (0 : Int) ≤ (k : Int) := by omega
          obtain ⟨b, o, rfl, hb, hc⟩ := HS.out (by omega)
          have hbr : b < wr.heap.size := Nat.lt_of_lt_of_le hb hB2.out.size
          have r0 : ∀ d : BW wr.heap.size wr, d.w.cell? ⟨b, o + k, none⟩ = some (.int .i64 (f k)) := fun d => d.cell hbr ((hB2.out.cell (p := ⟨b, o + k, none⟩) hb).trans (hc k hkl))
          have HBX : Hid (¬ RiseAt f k → ¬ ListsP ls m n) := fun h => HBD.out (HRS.out k hkl h)
          have HNX : Hid (RiseAt f k → ∀ i, i < k + 1 → RiseAt f i) := fun h i hi => by
            by_cases e : i = k
            · subst e; exact h
            · exact hpk.out i (by omega)
          by_cases c1 : f k < 0
          · have d1 : decide (f k < 0) = true := decide_eq_true c1
            have HNB := Lib.hid (HBX.out fun h => by have := h.1; omega)
            clear c1 HBX HNX hc hbr
            go_upto_region 8 with (fail)
            refine wp_region_bw (by kernel_rfl) (by kernel_rfl) ?_
            repeat (go_big_quiet_step (rfl))
            refine wpQuiet_nil ?_
            rintro _ ⟨d, rfl⟩
            have HBDD := Lib.hid (hB2.out.trans (d.b.mono hB2.out.size))
            clear r0 d1
            generalize d.w = Z at *
            go_wp2
            go_ret
            exact ⟨BoolP.no HNB.out, HBDD.out⟩
          by_cases c2 : 63 < f k
          · have d1 : decide (f k < 0) = false := decide_eq_false c1
            have d2 : decide (63 < f k) = true := decide_eq_true c2
            have HNB := Lib.hid (HBX.out fun h => by have := h.2.1; omega)
            clear c1 c2 HBX HNX hc hbr
            go_upto_region 8 with (fail)
            refine wp_region_bw (by kernel_rfl) (by kernel_rfl) ?_
            repeat (go_big_quiet_step (rfl))
            refine wpQuiet_nil ?_
            rintro _ ⟨d, rfl⟩
            have HBDD := Lib.hid (hB2.out.trans (d.b.mono hB2.out.size))
            clear r0 d1 d2
            generalize d.w = Z at *
            go_wp2
            go_ret
            exact ⟨BoolP.no HNB.out, HBDD.out⟩
          have d1 : decide (f k < 0) = false := decide_eq_false c1
          have d2 : decide (63 < f k) = false := decide_eq_false c2
          by_cases c3 : k = 0
          · have HNX2 := Lib.hid (HNX.out ⟨by omega, by omega, fun h => by omega⟩)
            have d3 : decide (0 < k) = false := decide_eq_false (by omega)
            clear c1 c2 c3 HBX HNX hc hbr
            go_upto_region 8 with (fail)
            refine wp_region_bw (by kernel_rfl) (by kernel_rfl) ?_
            repeat (go_big_quiet_step (rfl))
            refine wpQuiet_nil ?_
            rintro _ ⟨d, rfl⟩
            have HBDD := Lib.hid (hB2.out.trans (d.b.mono hB2.out.size))
            clear r0 d1 d2 d3
            generalize d.w = Z at *
            go_wp2
            exact ⟨⟨k + 1, by omega, int_eq (by omega), HNX2, HBDD⟩, by simp [intOf]; omega⟩
          have d3 : decide (0 < k) = true := decide_eq_true (by omega)
          have hk1 : (k : Int) - 1 = ((k - 1 : Nat) : Int) := by omega
          have g4 : (0 : Int) ≤ ((k - 1 : Nat) : Int) := by omega
          have g5 : ((k - 1 : Nat) : Int) < (len : Int) := by omega
          have r1 : ∀ d : BW wr.heap.size wr, d.w.cell? ⟨b, o + (k - 1), none⟩ = some (.int .i64 (f (k - 1))) := fun d => d.cell hbr ((hB2.out.cell (p := ⟨b, o + (k - 1), none⟩) hb).trans (hc (k - 1) (by omega)))
          by_cases c4 : f k ≤ f (k - 1)
          · have d4 : decide (f k ≤ f (k - 1)) = true := decide_eq_true c4
            have HNB := Lib.hid (HBX.out fun h => by have := h.2.2 (by omega); omega)
            clear c1 c2 c3 c4 HBX HNX hc hbr
            go_upto_region 8 with (fail)
            refine wp_region_bw (by kernel_rfl) (by kernel_rfl) ?_
            repeat (go_big_quiet_step (rfl))
            refine wpQuiet_nil ?_
            rintro _ ⟨d, rfl⟩
            have HBDD := Lib.hid (hB2.out.trans (d.b.mono hB2.out.size))
            clear r0 r1 d1 d2 d3 d4
            generalize d.w = Z at *
            go_wp2
            go_ret
            exact ⟨BoolP.no HNB.out, HBDD.out⟩
          · have d4 : decide (f k ≤ f (k - 1)) = false := decide_eq_false c4
            have HNX2 := Lib.hid (HNX.out ⟨by omega, by omega, fun h => by omega⟩)
            clear c1 c2 c3 c4 HBX HNX hc hbr
            go_upto_region 8 with (fail)
            refine wp_region_bw (by kernel_rfl) (by kernel_rfl) ?_
            repeat (go_big_quiet_step (rfl))
            refine wpQuiet_nil ?_
            rintro _ ⟨d, rfl⟩
            have HBDD := Lib.hid (hB2.out.trans (d.b.mono hB2.out.size))
            clear r0 r1 d1 d2 d3 d4
            generalize d.w = Z at *
            go_wp2
            exact ⟨⟨k + 1, by omega, int_eq (by omega), HNX2, HBDD⟩, by simp [intOf]; omega⟩
        · have g2 : ¬ (k : Int) < (len : Int) := by omega
          have HN2 := Lib.hid (HN.out (HRY.out fun i hi => hpk.out i (by omega)))
          go_wp2
          exact ⟨⟨j + 1, by omega, int_eq (by omega), HN2, hB2⟩, by simp [intOf]; omega⟩
    · have g1 : ¬ (j : Int) < (m : Int) := by omega
      by_cases hmn : m = n
      · have HY : Hid (ListsP ls m n) := ⟨fun i hi => hp.out i (by omega), hmn⟩
        have g2 : ((m : Int) == (n : Int)) = true := by rw [hmn]; simp
        clear hmn
        go_wp2
        go_ret
        exact ⟨BoolP.yes HY.out, hB.out⟩
      · have HY : Hid (¬ ListsP ls m n) := fun h => hmn h.2
        have g2 : ((m : Int) == (n : Int)) = false := by rw [beq_eq_false_iff_ne]; omega
        clear hmn
        go_wp2
        go_ret
        exact ⟨BoolP.no HY.out, hB.out⟩
end Go.Proofs.YtpknnjcbcndbbaaDoor
namespace Go.Proofs.YtpknnjcbcndbbaaDoor
open Go.RowKit Go.Shelf

def MaskOf (s : Nat) (l : List Int) : Prop := ∀ x : Nat, s.testBit x = true ↔ (x : Int) ∈ l
def mskTo (f : Nat → Int) : Nat → Nat
  | 0 => 0
  | k + 1 => mskTo f k ||| pw (f k).toNat
def lastTo (f : Nat → Int) : Nat → Int
  | 0 => -1
  | k + 1 => f k
theorem mskTo_bit (f : Nat → Int) (x : Nat) : ∀ k, (mskTo f k).testBit x = true ↔ ∃ j, j < k ∧ (f j).toNat = x
  | 0 => by simp [mskTo]
  | k + 1 => by
    have ih := mskTo_bit f x k
    rw [mskTo, Nat.testBit_or, pw, Nat.testBit_two_pow, Bool.or_eq_true, ih, decide_eq_true_iff]
    constructor
    · rintro (⟨j, hj, h⟩ | h)
      · exact ⟨j, by omega, h⟩
      · exact ⟨k, by omega, h⟩
    · rintro ⟨j, hj, h⟩
      by_cases e : j = k
      · subst e; exact .inr h
      · exact .inl ⟨j, by omega, h⟩
theorem mskTo_lt {f : Nat → Int} : ∀ {k}, (∀ j, j < k → RiseAt f j) → mskTo f k < 18446744073709551616
  | 0, _ => by unfold mskTo; decide
  | k + 1, h => by
    rw [mskTo]
    have h1 := mskTo_lt (k := k) fun j hj => h j (by omega)
    have h2 : pw (f k).toNat < 18446744073709551616 := by
      have := (h k (by omega)).2.1
      have h3 : (2 : Nat) ^ (f k).toNat ≤ 2 ^ 63 := Nat.pow_le_pow_right (by decide) (by omega)
      unfold pw; omega
    exact Nat.or_lt_two_pow (n := 64) h1 h2
theorem mask_of {l : List Int} (h : Rise l) : MaskOf (mskTo (zz l) l.length) l := fun x => by
  rw [mskTo_bit, ← inI_zz]
  constructor
  · rintro ⟨j, hj, e⟩
    exact ⟨j, hj, by have := (h j hj).1; omega⟩
  · rintro ⟨j, hj, e⟩
    exact ⟨j, hj, by rw [e]; simp⟩
/-- the values of a row of masks -/
def uvL (L : Nat → Nat) (m : Nat) : List Value := (List.range m).map fun j => .int .u64 (L j : Nat)
theorem uvL_get (L : Nat → Nat) (m : Nat) : ∀ j, j < m → (uvL L m)[j]? = some (.int .u64 (L j : Nat)) := fun j hj => by
  unfold uvL; rw [List.getElem?_map, List.getElem?_range hj]; rfl
theorem uvL_push (L : Nat → Nat) (m : Nat) : uvL L (m + 1) = uvL L m ++ [.int .u64 (L m : Nat)] := by
  unfold uvL; rw [List.range_succ, List.map_append]; rfl
theorem QRow.rowU {W : World} {base : Nat} {p : Option Addr} {m c : Nat} {L : Nat → Nat} (h : QRow W base 83 1 (.slice p m c) m (uvL L m)) : RowU W p m L := fun hm => by
  obtain ⟨b, o, cap, e, _, hb, _, _, hc, _⟩ := h.at (by omega)
  cases e
  exact ⟨b, o, rfl, hb, fun j hj => (hc j (by omega)).trans (uvL_get L m j hj)⟩
/-- what sets answers -/
def SetsA (ls : Nat → List Int) (m n : Nat) (W' : World) (base : Nat) (e : Ending) : Prop :=
  (e = .returned (.tuple #[.slice none 0 0, .int .i64 70]) ∧ ¬ ListsP ls m n) ∨
  (∃ p c, e = .returned (.tuple #[.slice p m c, .int .i64 0]) ∧ ListsP ls m n ∧ RowU W' p m (fun i => mskTo (zz (ls i)) (ls i).length))
set_option maxRecDepth 100000 in
set_option maxHeartbeats 2000000 in
theorem sets_any (la : Option Addr) (m n lc : Nat) (ls : Nat → List Int) (w : World) (hm : m ≤ 1099511627776) (hll : ∀ i, (ls i).length ≤ 1000) (hL : LstI w la m ls) :
    Calls Tryd.prog 67 #[.slice la m lc, .int .i64 (n : Int)] w fun e w' => SetsA ls m n w' w.heap.size e ∧ Below w.heap.size w w' := by
  obtain ⟨i0, hi0, hz0, hz1, hz2⟩ := info_parts info83
  have HL := Lib.hid hL
  clear hL
  obtain ⟨L, hLd⟩ : ∃ L : Nat → Nat, Hid (L = fun i => mskTo (zz (ls i)) (ls i).length) := ⟨_, rfl⟩
  by_cases hmn : m = n
  · subst hmn
    have g : ((m : Int) != (m : Int)) = false := by simp
    go_enter Tryd.func67, Tryd.ntmps67
    go_upto_region 5 with (fail)
    clear g
    go_loopw [6, 19] (fun s6 s19 wr => ∃ j : Nat, j ≤ m ∧ s19 = .int .i64 (j : Int) ∧ Hid (∀ i, i < j → Rise (ls i)) ∧ Hid (QRow wr w.heap.size 83 1 s6 j (uvL L j)) ∧ Hid (Below w.heap.size w wr)) (fun _ s19 _ => m - (intOf s19).toNat)
    case atStart => exact ⟨0, by omega, rfl, (fun i hi => by omega), QRow.nil _ _ _ _, Below.refl _ _⟩
    case round =>
      obtain ⟨j, hj, rfl, hp, hR, hB⟩ := hrel
      obtain ⟨p6, c6, rfl⟩ := hR.out.isSlice
      by_cases hjm : j < m
      · have g1 : (j : Int) < (m : Int) := by omega
        have g0 : (0 : Int) ≤ (j : Int) := by omega
        obtain ⟨lb, lo, rfl, hlb, hlc⟩ := HL.out (by omega)
        obtain ⟨lp, lc2, k2, hs⟩ := hlc j hjm
        have HS := Lib.hid hs
        have k3 := (hB.out.cell (p := ⟨lb, lo + j, none⟩) hlb).trans k2
        have hl := hll j
        have HN : Hid (Rise (ls j) → ∀ i, i < j + 1 → Rise (ls i)) := fun h i hi => by
          by_cases e : i = j
          · subst e; exact h
          · exact hp.out i (by omega)
        have HBD : Hid (¬ Rise (ls j) → ¬ ListsP ls m m) := fun h h' => h (h'.1 j hjm)
        have HRS : Hid (∀ k, k < (ls j).length → ¬ RiseAt (zz (ls j)) k → ¬ Rise (ls j)) := fun k hk h h' => h (h' k hk)
        have HRY : Hid ((∀ k, k < (ls j).length → RiseAt (zz (ls j)) k) → Rise (ls j)) := id
        have HLJ : Hid (L j = mskTo (zz (ls j)) (ls j).length) := by rw [hLd.out]; exact Lib.hid rfl
        have HPU := Lib.hid (uvL_push L j)
        generalize zz (ls j) = f at *
        generalize Rise (ls j) = R at *
        generalize (ls j).length = len at *
        clear hlc hs k2
        go_upto_region 9 with (fail)
        clear k3
        obtain ⟨wo, hwo⟩ : ∃ wo : World, Hid (wo = wr) := ⟨_, rfl⟩
        go_loopw [9, 10, 25] (fun s9 s10 s25 wr2 => ∃ k : Nat, k ≤ len ∧ s25 = .int .i64 (k : Int) ∧ s10 = .int .i64 (lastTo f k) ∧ s9 = .int .u64 (mskTo f k : Nat) ∧ Hid (∀ i, i < k → RiseAt f i) ∧ Hid (wr2 = wo)) (fun _ _ s25 _ => len - (intOf s25).toNat)
        case atStart => exact ⟨0, by omega, rfl, rfl, rfl, (fun i hi => by omega), hwo.out.symm⟩
        case round =>
          obtain ⟨k, hk, rfl, rfl, rfl, hpk, hw2⟩ := hrel
          have hwe := hw2.out.trans hwo.out
          subst hwe
          by_cases hkl : k < len
          · have g2 : (k : Int) < (len : Int) := by omega
            have g3 : (0 : Int) ≤ (k : Int) := by omega
            obtain ⟨b, o, rfl, hb, hc⟩ := HS.out (by omega)
            have k1 := (hB.out.cell (p := ⟨b, o + k, none⟩) hb).trans (hc k hkl)
            have HBX : Hid (¬ RiseAt f k → ¬ ListsP ls m m) := fun h => HBD.out (HRS.out k hkl h)
            have HNX : Hid (RiseAt f k → ∀ i, i < k + 1 → RiseAt f i) := fun h i hi => by
              by_cases e : i = k
              · subst e; exact h
              · exact hpk.out i (by omega)
            have HLA : Hid ((¬ f k ≤ lastTo f k ∧ ¬ 63 < f k) ↔ RiseAt f k) := by
              cases k with
              | zero => exact ⟨fun ⟨h1, h2⟩ => ⟨by have : lastTo f 0 = -1 := rfl; omega, by omega, fun h => by omega⟩, fun h => ⟨by have : lastTo f 0 = -1 := rfl; have := h.1; omega, by have := h.2.1; omega⟩⟩
              | succ k => exact ⟨fun ⟨h1, h2⟩ => ⟨by have : lastTo f (k + 1) = f k := rfl; have := (hpk.out k (by omega)).1; omega, by omega, fun _ => by have : lastTo f (k + 1) = f k := rfl; simp only [Nat.add_sub_cancel]; omega⟩, fun h => ⟨by have : lastTo f (k + 1) = f k := rfl; have := h.2.2 (by omega); simp only [Nat.add_sub_cancel] at this; omega, by have := h.2.1; omega⟩⟩
            have HM1 : Hid (mskTo f (k + 1) = mskTo f k ||| 2 ^ (f k).toNat) := rfl
            have HL1 : Hid (lastTo f (k + 1) = f k) := rfl
            have hmt := mskTo_lt hpk.out
            by_cases c1 : f k ≤ lastTo f k
            · have HNB := Lib.hid (HBX.out fun h => (HLA.out.2 h).1 c1)
              have d1 : decide (f k ≤ lastTo f k) = true := decide_eq_true c1
              clear c1 HBX HNX HLA hc hmt HM1 HL1
              generalize f k = fk at *
              generalize lastTo f k = lk at *
              go_wp2
              refine bodyPost_ret (v := .tuple #[.slice none 0 0, .int .i64 70]) (by simp [results, Tryd.f67, go_sem]) rfl ?_
              exact ⟨.inl ⟨rfl, HNB.out⟩, hB.out⟩
            · have d1 : decide (f k ≤ lastTo f k) = false := decide_eq_false c1
              by_cases c2 : 63 < f k
              · have HNB := Lib.hid (HBX.out fun h => (HLA.out.2 h).2 c2)
                have d2 : decide (63 < f k) = true := decide_eq_true c2
                clear c1 c2 HBX HNX HLA hc hmt HM1 HL1
                generalize f k = fk at *
                generalize lastTo f k = lk at *
                go_wp2
                refine bodyPost_ret (v := .tuple #[.slice none 0 0, .int .i64 70]) (by simp [results, Tryd.f67, go_sem]) rfl ?_
                exact ⟨.inl ⟨rfl, HNB.out⟩, hB.out⟩
              · have d2 : decide (63 < f k) = false := decide_eq_false c2
                have hra := HLA.out.1 ⟨c1, c2⟩
                have HNX2 := Lib.hid (HNX.out hra)
                obtain ⟨x, hx⟩ : ∃ x : Nat, f k = (x : Int) := ⟨(f k).toNat, by have := hra.1; omega⟩
                have hx64 : x < 64 := by have := hra.2.1; omega
                rw [hx] at k1 d1 d2 HM1 HL1
                rw [Int.toNat_natCast] at HM1
                have hwx : IntKind.u64.wrap (x : Int) = (x : Int) := u64_same _ (by omega)
                have hbo := bor64 (mskTo f k) x hmt hx64
                have h2x : (2 : Nat) ^ x < 18446744073709551616 := Nat.pow_lt_pow_right (n := 64) (by decide) hx64
                clear c1 c2 HBX HNX HLA hc hra hx
                obtain ⟨mk, hmk⟩ : ∃ mk, Hid (mk = mskTo f k) := ⟨_, rfl⟩
                rw [← hmk.out] at hbo hmt HM1 ⊢
                obtain ⟨lk, hlk⟩ : ∃ lk, Hid (lk = lastTo f k) := ⟨_, rfl⟩
                rw [← hlk.out] at d1 ⊢
                clear hmk hlk
                go_wp2
                exact ⟨⟨k + 1, by omega, int_eq (by omega), by rw [HL1.out], by rw [HM1.out], HNX2, hw2⟩, by simp [intOf]; omega⟩
          · have g2 : ¬ (k : Int) < (len : Int) := by omega
            have hke : k = len := by omega
            rw [hke] at hpk ⊢
            have HN2 := Lib.hid (HN.out (HRY.out hpk.out))
            have hmt := mskTo_lt hpk.out
            rw [← HLJ.out] at hmt ⊢
            clear hke
            have HALL : Hid (QRow (wr.alloc (.cells #[.int .u64 (L j : Nat)] 83)) w.heap.size 83 1 (.slice p6 j c6) j (uvL L j)) := hR.out.alloc _
            have HLT := Lib.hid hR.out.lt
            have hsz := hB.out.size
            go_wp2_with (at_builtin; go_must (refine wpList_append_q _ rfl (.tmp 43) (.tmp 45) 82 rfl w.heap.size 83 i0 (.int .u64 0) 1 8 Tryd.underlying82 hi0 hz0 hz1 hz2 rfl (by decide) _ j (uvL L j) rfl HALL.out ⟨_, 0, none⟩ 1 1 [.int .u64 (L j : Nat)] rfl rfl (cells_new1 _ _ _) (by simp [Value.oneCell']) (by unfold maxLen; omega) (by omega) (by simp; omega) ?_); intro v7 w7 hq7 hg7 ho7; have HQ7 : Hid (QRow w7 w.heap.size 83 1 v7 (j + 1) (uvL L (j + 1))) := (by rw [HPU.out]; exact hq7); have HB7 : Hid (Below w.heap.size w w7) := Below.grown (hB.out.alloc hsz _) hg7 (by simp; omega) (fun kk e => (HLT.out kk e).1); clear hq7 hg7 ho7)
            exact ⟨⟨j + 1, by omega, int_eq (by omega), HN2, HQ7, HB7⟩, by simp [intOf]; omega⟩
      · have g1 : ¬ (j : Int) < (m : Int) := by omega
        have hje : j = m := by omega
        rw [hje] at hp hR ⊢
        have HRU : Hid (RowU wr p6 m (fun i => mskTo (zz (ls i)) (ls i).length)) := by rw [← hLd.out]; exact hR.out.rowU
        have HLP : Hid (ListsP ls m m) := ⟨hp.out, rfl⟩
        clear hje
        go_wp2
        refine bodyPost_ret (v := .tuple #[.slice p6 m c6, .int .i64 0]) (by simp [results, Tryd.f67, go_sem]) rfl ?_
        exact ⟨.inr ⟨p6, c6, rfl, HLP.out, HRU.out⟩, hB.out⟩
  · have g : ((m : Int) != (n : Int)) = true := by rw [bne_iff_ne]; omega
    have HN : Hid (¬ ListsP ls m n) := fun h => hmn h.2
    clear hmn
    go_enter Tryd.func67, Tryd.ntmps67
    go_wp2
    refine bodyPost_ret (v := .tuple #[.slice none 0 0, .int .i64 70]) (by simp [results, Tryd.f67, go_sem]) rfl ?_
    exact ⟨.inl ⟨rfl, HN.out⟩, Below.refl _ _⟩
end Go.Proofs.YtpknnjcbcndbbaaDoor
namespace Go.Proofs.YtpknnjcbcndbbaaDoor
open Go.RowKit Go.Shelf

/-- the set bits below k, rising -/
def bl (s k : Nat) : List Nat := (List.range k).filter fun j => s.testBit j
def cnt (s : Nat) : Nat := (bl s 64).length
theorem bl_succ (s k : Nat) : bl s (k + 1) = bl s k ++ (if s.testBit k then [k] else []) := by
  unfold bl
  rw [List.range_succ, List.filter_append, List.filter_cons, List.filter_nil]
theorem bl_len_le (s : Nat) : ∀ k, (bl s k).length ≤ k
  | 0 => by simp [bl]
  | k + 1 => by
    have := bl_len_le s k
    rw [bl_succ, List.length_append]
    split <;> simp <;> omega
theorem bl_pw (s x : Nat) (h : s.testBit x = false) : ∀ k, (bl (s ||| pw x) k).length = (bl s k).length + (if x < k then 1 else 0)
  | 0 => by simp [bl]
  | k + 1 => by
    have ih := bl_pw s x h k
    rw [bl_succ, bl_succ, List.length_append, List.length_append, ih, Nat.testBit_or, pw, Nat.testBit_two_pow]
    by_cases e : x = k
    · subst e
      rw [h, if_neg (Nat.lt_irrefl x), if_pos (Nat.lt_succ_self x)]
      simp
    · have e1 : decide (x = k) = false := decide_eq_false e
      rw [e1, Bool.or_false]
      by_cases hk : x < k
      · have h2 : x < k + 1 := by omega
        rw [if_pos hk, if_pos h2]; omega
      · have h2 : ¬ x < k + 1 := by omega
        rw [if_neg hk, if_neg h2]; omega
theorem cnt_pw {s x : Nat} (h : s.testBit x = false) (hx : x < 64) : cnt (s ||| pw x) = cnt s + 1 := by
  unfold cnt; rw [bl_pw s x h, if_pos hx]
theorem bl_mono (s : Nat) {k m : Nat} (h : k ≤ m) : (bl s k).length ≤ (bl s m).length := by
  obtain ⟨d, rfl⟩ := Nat.exists_eq_add_of_le h
  induction d with
  | zero => exact Nat.le_refl _
  | succ d ih =>
    have := ih (by omega)
    rw [← Nat.add_assoc, bl_succ, List.length_append]; omega
theorem bl_run (s a : Nat) : ∀ x, a ≤ x → (∀ y, a ≤ y → y < x → s.testBit y = true) → x - a ≤ (bl s x).length
  | 0, _, _ => by omega
  | x + 1, hx, h => by
    by_cases e : a = x + 1
    · omega
    · have ih := bl_run s a x (by omega) fun y h1 h2 => h y h1 (by omega)
      rw [bl_succ, List.length_append, h x (by omega) (by omega)]
      simp; omega
theorem cnt_run {s a x : Nat} (hx : a ≤ x) (hx64 : x ≤ 64) (h : ∀ y, a ≤ y → y < x → s.testBit y = true) : x ≤ cnt s + a := by
  have h1 := bl_run s a x hx h
  have h2 := bl_mono s hx64
  unfold cnt; omega
theorem cnt_le (s : Nat) : cnt s ≤ 64 := bl_len_le s 64
theorem cnt_zero : cnt 0 = 0 := by decide +kernel
theorem mem_bl {s k x : Nat} : x ∈ bl s k ↔ x < k ∧ s.testBit x = true := by unfold bl; rw [List.mem_filter, List.mem_range]
theorem bl_pair (s k : Nat) : (bl s k).Pairwise (· < ·) := List.Pairwise.filter _ List.pairwise_lt_range
/-- the list in integers -/
def zl (s : Nat) : List Int := (bl s 64).map fun (x : Nat) => (x : Int)
theorem zl_len (s : Nat) : (zl s).length = cnt s := by unfold zl cnt; rw [List.length_map]
theorem zl_zz {s j : Nat} (hj : j < (zl s).length) : ∃ h : j < (bl s 64).length, zz (zl s) j = (((bl s 64)[j]'h : Nat) : Int) := by
  have h : j < (bl s 64).length := by rw [zl_len] at hj; exact hj
  refine ⟨h, ?_⟩
  unfold zz zl
  rw [List.getElem?_map, List.getElem?_eq_getElem h]; rfl
theorem zl_rise (s : Nat) : Rise (zl s) := fun k hk => by
  obtain ⟨h, e⟩ := zl_zz hk
  have h1 := mem_bl.1 (List.getElem_mem h)
  refine ⟨by rw [e]; omega, by rw [e]; omega, fun h0 => ?_⟩
  obtain ⟨h', e'⟩ := zl_zz (s := s) (j := k - 1) (by omega)
  rw [e, e']
  have := List.pairwise_iff_getElem.1 (bl_pair s 64) (k - 1) k h' h (by omega)
  omega
/-- a row of 64 bools -/
def BoolRow (W : World) (B s : Nat) : Prop := ∃ vs, BoxN W B 106 vs ∧ vs.size = 64 ∧ ∀ j, j < 64 → vs[j]? = some (.bool (s.testBit j))
theorem BoolRow.lt {W : World} {B s : Nat} (h : BoolRow W B s) : B < W.heap.size := h.elim fun _ h => h.1.lt
theorem BoolRow.cell {W : World} {B s x : Nat} (h : BoolRow W B s) (hx : x < 64) : W.cell? ⟨B, x, none⟩ = some (.bool (s.testBit x)) := by
  obtain ⟨vs, h1, h2, h3⟩ := h
  rw [h1.cell]; exact h3 x hx
theorem BoolRow.frozen {W : World} {B s : Nat} (h : BoolRow W B s) (x : Nat) : W.frozen? ⟨B, x, none⟩ = false := by
  obtain ⟨vs, h1, _⟩ := h
  exact h1.frozen x
theorem BoolRow.set {W : World} {B s x : Nat} (h : BoolRow W B s) (_ : x < 64) : BoolRow (W.setCell ⟨B, x, none⟩ (.bool true)) B (s ||| pw x) := by
  obtain ⟨vs, h1, h2, h3⟩ := h
  refine ⟨_, h1.set x (.bool true), by simpa using h2, fun j hj => ?_⟩
  rw [Nat.testBit_or, pw, Nat.testBit_two_pow]
  by_cases e : x = j
  · subst e
    rw [Array.getElem?_setIfInBounds_self_of_lt (by omega)]; simp
  · rw [Array.getElem?_setIfInBounds_ne (by omega), h3 j hj]; simp [e]
end Go.Proofs.YtpknnjcbcndbbaaDoor
namespace Go.Proofs.YtpknnjcbcndbbaaDoor
open Go.RowKit Go.Shelf

theorem RowU.congr {W : World} {p : Option Addr} {m : Nat} {L L' : Nat → Nat} (h : RowU W p m L) (e : ∀ i, i < m → L i = L' i) : RowU W p m L' := fun h0 => by
  obtain ⟨lb, lq, e1, h1, h2⟩ := h h0
  exact ⟨lb, lq, e1, h1, fun i hi => by rw [← e i hi]; exact h2 i hi⟩
/-- the lists as lists of naturals -/
def natL (ls : Nat → List Int) (i : Nat) : List Nat := (ls i).map Int.toNat
theorem mem_natL {ls : Nat → List Int} {i : Nat} (h : Rise (ls i)) {x : Nat} : x ∈ natL ls i ↔ (x : Int) ∈ ls i := by
  unfold natL
  rw [List.mem_map]
  constructor
  · rintro ⟨z, hz, rfl⟩
    obtain ⟨j, hj, rfl⟩ := inI_zz.2 hz
    have := (h j hj).1
    rw [Int.toNat_of_nonneg this]; exact hz
  · intro h; exact ⟨x, h, by simp⟩
theorem natL_lt {ls : Nat → List Int} {i : Nat} (h : Rise (ls i)) {x : Nat} (hx : x ∈ natL ls i) : x < 64 := by
  obtain ⟨j, hj, e⟩ := inI_zz.2 ((mem_natL h).1 hx)
  have := (h j hj).2.1
  omega
def maskL (ls : Nat → List Int) (m i : Nat) : Nat := if i < m then mskTo (zz (ls i)) (ls i).length else 0
/-- what FromLists answers -/
def FromP (ps : List (Int × Int)) (ls : Nat → List Int) (m : Nat) (W' : World) (base : Nat) (e : Ending) : Prop :=
  (e = .returned (.tuple #[.slice none 0 0, .bool false, .int .i64 70]) ∧ ¬ ListsP ls m ps.length) ∨
  (e = .returned (.tuple #[.slice none 0 0, .bool false, .int .i64 2]) ∧ ListsP ls m ps.length ∧ 12 < ps.length) ∨
  (e = .returned (.tuple #[.slice none 0 0, .bool false, .int .i64 0]) ∧ ListsP ls m ps.length ∧ ps.length ≤ 12 ∧ ¬ ∃ f, FamF ps (natL ls) f) ∨
  (∃ p c f, e = .returned (.tuple #[.slice p ps.length c, .bool true, .int .i64 0]) ∧ ListsP ls m ps.length ∧ ps.length ≤ 12 ∧ FamF ps (natL ls) f ∧ SrcI W' p ps.length (fun j => (f j : Int)))
set_option maxRecDepth 100000 in
set_option maxHeartbeats 4000000 in
theorem FromLists_ok (n : Nat) (a la : Option Addr) (cap m lc : Nat) (ps : List (Int × Int)) (ls : Nat → List Int) (w : World) (hT : Tab w) (hG : Good n ps a w) (hm : m ≤ 1099511627776) (hll : ∀ i, (ls i).length ≤ 1000) (hL : LstI w la m ls) :
    Calls Tryd.prog 38 #[.int .i64 (n : Int), .slice a ps.length cap, .slice la m lc] w fun e w' => FromP ps ls m w' w.heap.size e ∧ Below w.heap.size w w' := by
  have HO := Lib.hid (gopen_ok n a cap ps w hG.hl hG.hg hG.n1 hG.n2 hG.ok)
  have HG := Lib.hid hG
  have HT := Lib.hid hT
  have hlen := hG.hl
  have HE := Lib.hid (edgesOK hG.n2 hG.ok)
  have HSE : Hid (∀ W, Below w.heap.size w W → Calls Tryd.prog 67 #[.slice la m lc, .int .i64 (ps.length : Int)] W fun e w' => SetsA ls m ps.length w' W.heap.size e ∧ Below W.heap.size W w') := fun W hW => sets_any la m ps.length lc ls W hm hll (hL.below hW (Nat.le_refl _))
  clear hT hG hL
  go_enter Tryd.func38, Tryd.ntmps38
  go_upto_region 4 with (go_at_call 52; refine HO.out.mono ?_; rintro e w1 ⟨B, rfl, hBl, hg1, hb1⟩; have HG1 := Lib.hid hg1; have HB1 := Lib.hid hb1; clear hBl hg1 hb1)
  have HC := Lib.hid (HSE.out w1 HB1.out)
  clear HSE HO
  go_upto_region 5 with (go_at_call 67; refine (HC.out).mono ?_; rintro e w2 ⟨hs2, hB2⟩; have HB2 := Lib.hid hB2; clear hB2; rcases hs2 with ⟨rfl, hn⟩ | ⟨p2, c2, rfl, hl2, hr2⟩)
  · have HN := Lib.hid hn
    clear hn
    go_wp2
    refine bodyPost_ret (v := .tuple #[.slice none 0 0, .bool false, .int .i64 70]) (by simp [results, Tryd.f38, go_sem]) rfl ?_
    exact ⟨.inl ⟨rfl, HN.out⟩, HB1.out.trans (HB2.out.mono HB1.out.size)⟩
  · have HLP := Lib.hid hl2
    have hml := hl2.2
    have HBW := Lib.hid (HB1.out.trans (HB2.out.mono HB1.out.size))
    have HRU : Hid (RowU w2 p2 ps.length (maskL ls m)) := by rw [← hml]; exact hr2.congr fun i hi => by unfold maskL; rw [if_pos hi]
    have HL64 : Hid (∀ i, maskL ls m i < 18446744073709551616) := fun i => by
      unfold maskL
      by_cases h : i < m
      · rw [if_pos h]; exact mskTo_lt (hl2.1 i h)
      · rw [if_neg h]; decide
    have HMK : Hid (∀ i, i < ps.length → ∀ x, x ∈ natL ls i ↔ (maskL ls m i).testBit x = true) := fun i hi x => by
      have hi' : i < m := by omega
      unfold maskL
      rw [if_pos hi', mem_natL (hl2.1 i hi'), mask_of (hl2.1 i hi')]
    have HM64 : Hid (∀ i, i < ps.length → ∀ x, x ∈ natL ls i → x < 64) := fun i hi x hx => natL_lt (hl2.1 i (by omega)) hx
    clear hl2 hr2 HC
    by_cases h12 : 12 < ps.length
    · have g1 : (12 : Int) < (ps.length : Int) := by omega
      go_wp2
      refine bodyPost_ret (v := .tuple #[.slice none 0 0, .bool false, .int .i64 2]) (by simp [results, Tryd.f38, go_sem]) rfl ?_
      exact ⟨.inr (.inl ⟨rfl, HLP.out, h12⟩), HBW.out⟩
    · have g1 : ¬ (12 : Int) < (ps.length : Int) := by omega
      have g2 : decide ((12 : Int) < (ps.length : Int)) = false := decide_eq_false g1
      rw [hml]
      have HCH := Lib.hid (chosen_any B n a p2 cap c2 (ofE n ps) ps (maskL ls m) w2 ⟨HG1.out.below HB2.out (Nat.le_refl _), HG.out.hg.below HBW.out (Nat.le_refl _), HRU.out, HT.out.below HBW.out (Nat.le_refl _), HE.out, hlen, HL64.out⟩)
      go_upto_region 10 with (go_at_call 55; refine (HCH.out).mono ?_; rintro e w3 ⟨hs3, hB3⟩; have HB3 := Lib.hid (HBW.out.trans (hB3.mono HBW.out.size)); clear hB3; rcases hs3 with ⟨rfl, hn⟩ | ⟨v3, us, col, rfl, hq3, hi3, ho3⟩)
      · have HN : Hid (¬ ∃ f, FamF ps (natL ls) f) := fun ⟨f, F⟩ => hn ⟨_, hueOK_of HE.out (fun i hi x hx => ⟨HM64.out i hi x hx, (HMK.out i hi x).1 hx⟩) F⟩
        clear hn
        go_wp2
        refine bodyPost_ret (v := .tuple #[.slice none 0 0, .bool false, .int .i64 0]) (by simp [results, Tryd.f38, go_sem]) rfl ?_
        exact ⟨.inr (.inr (.inl ⟨rfl, HLP.out, by omega, HN.out⟩)), HB3.out⟩
      · obtain ⟨p3, c3, rfl⟩ := hq3.isSlice
        have HF := Lib.hid (fam_of HE.out (fun i hi x hx => (HMK.out i hi x).2 hx) ho3)
        have HS : Hid (SrcI w3 p3 ps.length (hf col ps)) := hq3.srcI (hl_get col ps)
        clear hq3 hi3 ho3
        go_wp2
        refine bodyPost_ret (v := .tuple #[.slice p3 ps.length c3, .bool true, .int .i64 0]) (by simp [results, Tryd.f38, go_sem]) rfl ?_
        exact ⟨.inr (.inr (.inr ⟨p3, c3, _, rfl, HLP.out, by omega, HF.out, HS.out⟩)), HB3.out⟩
end Go.Proofs.YtpknnjcbcndbbaaDoor
namespace Go.Proofs.YtpknnjcbcndbbaaDoor
open Go.RowKit

def FamC (g : List Nat) (n : Nat) (ls : Nat → List Nat) (f : Nat → Nat) : Prop := (∀ i, i < n → f i ∈ ls i) ∧ ∀ i k, i < n → k < n → i ≠ k → adj g i k → f i ≠ f k
def ExtC (g : List Nat) (n : Nat) (ls : Nat → List Nat) (h : Nat → Int) : Prop := ∃ f, FamC g n ls f ∧ ∀ i, i < n → 0 ≤ h i → h i = (f i : Int)
structure PreC (g : List Nat) (n : Nat) (ls : Nat → List Nat) (h : Nat → Int) : Prop where
  own : ∀ i, i < n → h i = -1 ∨ ∃ x, x ∈ ls i ∧ h i = (x : Int)
  prop : ∀ i k, i < n → k < n → i ≠ k → adj g i k → 0 ≤ h i → h i ≠ h k
def FreeC (g : List Nat) (n : Nat) (h : Nat → Int) (i : Nat) (x : Int) : Prop := ∀ k, k < n → k ≠ i → ¬ (h k = x ∧ adj g k i)
section
variable {g : List Nat} {n : Nat} {ls : Nat → List Nat} {h : Nat → Int}
theorem PreC.done (P : PreC g n ls h) (hall : ∀ i, i < n → 0 ≤ h i) : ExtC g n ls h := by
  refine ⟨fun i => (h i).toNat, ⟨fun i hi => ?_, fun i k hi hk hne hm => ?_⟩, fun i hi h0 => by show h i = (((h i).toNat : Nat) : Int); omega⟩
  · show (h i).toNat ∈ ls i
    rcases P.own i hi with e | ⟨x, hx, e⟩
    · have := hall i hi; omega
    · rw [e]; simpa using hx
  · have h1 := P.prop i k hi hk hne hm (hall i hi)
    have h2 := hall i hi
    have h3 := hall k hk
    show (h i).toNat ≠ (h k).toNat
    omega
theorem PreC.start (g : List Nat) (n : Nat) (ls : Nat → List Nat) : PreC g n ls (fun _ => -1) := ⟨fun _ _ => .inl rfl, fun _ _ _ _ _ _ h => absurd h (by decide)⟩
theorem ExtC.start : ExtC g n ls (fun _ => -1) ↔ ∃ f, FamC g n ls f := ⟨fun ⟨f, h1, _⟩ => ⟨f, h1⟩, fun ⟨f, h1⟩ => ⟨f, h1, fun i _ h => absurd (show (0 : Int) ≤ -1 from h) (by decide)⟩⟩
theorem PreC.step (hsym : ∀ i k, adj g i k → adj g k i) (P : PreC g n ls h) {i x : Nat} (hi : i < n) (hx : x ∈ ls i) (hf : FreeC g n h i (x : Int)) : PreC g n ls (setI h i (x : Int)) := by
  refine ⟨fun j hj => ?_, fun j k hj hk hne hm h0 => ?_⟩
  · unfold setI
    by_cases e : j = i
    · rw [if_pos e, e]; exact .inr ⟨x, hx, rfl⟩
    · rw [if_neg e]; exact P.own j hj
  · unfold setI at h0 ⊢
    by_cases e : j = i
    · subst e
      rw [if_pos rfl, if_neg (fun h => hne h.symm)]
      exact fun e => hf k hk (fun h => hne h.symm) ⟨e.symm, hsym _ _ hm⟩
    · rw [if_neg e] at h0 ⊢
      by_cases e2 : k = i
      · subst e2
        rw [if_pos rfl]
        exact fun e3 => hf j hj e ⟨e3, hm⟩
      · rw [if_neg e2]; exact P.prop j k hj hk hne hm h0
theorem ExtC.step (E : ExtC g n ls h) {i : Nat} (hi : i < n) (hn : h i < 0) : ∃ x, x ∈ ls i ∧ FreeC g n h i (x : Int) ∧ ExtC g n ls (setI h i (x : Int)) := by
  obtain ⟨f, ⟨h1, h2⟩, h3⟩ := E
  refine ⟨f i, h1 i hi, fun k hk hne hc => ?_, f, ⟨h1, h2⟩, fun j hj h0 => ?_⟩
  · have := h3 k hk (by omega)
    exact h2 k i hk hi hne hc.2 (by omega)
  · unfold setI at h0 ⊢
    by_cases e : j = i
    · rw [if_pos e, e]
    · rw [if_neg e] at h0 ⊢; exact h3 j hj h0
theorem ExtC.back {i x : Nat} (E : ExtC g n ls (setI h i (x : Int))) (hn : h i < 0) : ExtC g n ls h := by
  obtain ⟨f, h1, h3⟩ := E
  refine ⟨f, h1, fun j hj h0 => ?_⟩
  have := h3 j hj
  unfold setI at this
  by_cases e : j = i
  · subst e; omega
  · rw [if_neg e] at this; exact this h0
end
end Go.Proofs.YtpknnjcbcndbbaaDoor
namespace Go.Proofs.YtpknnjcbcndbbaaDoor
open Go.RowKit Go.Shelf

set_option maxRecDepth 100000 in
set_option maxHeartbeats 2000000 in
theorem ropen_any (n : Nat) (a p : Option Addr) (cap c : Nat) (g : List Nat) (h : Nat → Int) (i : Nat) (x : Int) (w : World) (hl : g.length = n) (hn : n ≤ 16) (U : Und g n) (hsm : ∀ i : Nat, Sm (g[i]?.getD 0)) (hi : i < n) (hg : Sets w a g) (hs : SrcI w p n h) :
    Calls Tryd.prog 92 #[.slice a n cap, .slice p n c, .int .i64 (i : Int), .int .i64 x] w fun e w' => BoolP (FreeC g n h i x) e ∧ w' = w := by
  have H := Lib.hid hs
  have HG := Lib.hid hg
  have HU := Lib.hid U
  have HSM := Lib.hid hsm
  have HLN := Lib.hid hl
  have hi0 : (0 : Int) ≤ (i : Int) := by omega
  have hil : (i : Int) < (n : Int) := by omega
  clear hs hg U hsm hl
  go_enter Tryd.func92, Tryd.ntmps92
  go_upto_region 2 with (fail)
  go_loopw [9] (fun s9 wr => ∃ k : Nat, k ≤ n ∧ s9 = .int .i64 (k : Int) ∧ Hid (∀ k', k' < k → k' ≠ i → ¬ (h k' = x ∧ adj g k' i)) ∧ Hid (wr = w)) (fun s9 _ => n - (intOf s9).toNat)
  case atStart => exact ⟨0, by omega, rfl, (fun k hk => by omega), rfl⟩
  case round =>
    obtain ⟨k, hk, rfl, hp, hw⟩ := hrel
    rw [hw.out]
    by_cases hkl : k < n
    · have g1 : (k : Int) < (n : Int) := by omega
      have g0 : (0 : Int) ≤ (k : Int) := by omega
      have hk20 : k < 20 := by omega
      obtain ⟨gb, go, rfl, hgb, hgc⟩ := HG.out
      obtain ⟨b, o, rfl, hb, hc⟩ := H.out (by omega)
      have k1 := hgc i (by rw [HLN.out]; exact hi)
      have k2 := hc k hkl
      have hgs := HSM.out i
      have HAJ : Hid ((g[i]?.getD 0).testBit k = true ↔ adj g k i) := ⟨fun h => HU.out.sym _ _ h, fun h => HU.out.sym _ _ h⟩
      have HNE : Hid ((g[i]?.getD 0).testBit k = true → k ≠ i) := fun h e => HU.out.ne _ _ h e.symm
      have HNX : Hid ((k ≠ i → ¬ (h k = x ∧ adj g k i)) → ∀ k', k' < k + 1 → k' ≠ i → ¬ (h k' = x ∧ adj g k' i)) := fun h k' hk' => by
        by_cases e : k' = k
        · subst e; exact h
        · exact hp.out k' (by omega)
      have HBAD : Hid (k ≠ i → h k = x → adj g k i → ¬ FreeC g n h i x) := fun h0 h1 h2 h => h k hkl h0 ⟨h1, h2⟩
      clear hgc hc
      generalize g[i]?.getD 0 = gi at *
      cases hbit : gi.testBit k with
      | false =>
        have HN := Lib.hid (HNX.out fun _ h => by have := HAJ.out.2 h.2; rw [hbit] at this; cases this)
        clear HNE HAJ HNX HBAD
        generalize h k = hk0 at *
        go_wp2
        exact ⟨⟨k + 1, by omega, int_eq (by omega), HN, Lib.hid trivial⟩, by simp [intOf]; omega⟩
      | true =>
        by_cases hff : h k = x
        · have e3 : (h k == x) = true := by rw [hff]; simp
          have HB2 := Lib.hid (HBAD.out (HNE.out hbit) hff (HAJ.out.1 hbit))
          clear HNE HAJ HNX HBAD hff
          generalize h k = hk0 at *
          go_wp2
          go_ret
          exact ⟨BoolP.no HB2.out, rfl⟩
        · have e3 : (h k == x) = false := by rw [beq_eq_false_iff_ne]; exact hff
          have HN := Lib.hid (HNX.out fun _ h => hff h.1)
          clear HNE HAJ HNX HBAD hff
          generalize h k = hk0 at *
          go_wp2
          exact ⟨⟨k + 1, by omega, int_eq (by omega), HN, Lib.hid trivial⟩, by simp [intOf]; omega⟩
    · have g1 : ¬ (k : Int) < (n : Int) := by omega
      have HY : Hid (FreeC g n h i x) := fun k' hk' => hp.out k' (by omega)
      go_wp2
      go_ret
      exact ⟨BoolP.yes HY.out, rfl⟩
end Go.Proofs.YtpknnjcbcndbbaaDoor
