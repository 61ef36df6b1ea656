/- The struct Small as it comes in, opened. HueLoose: the walk of the law. -/
import Derived.Test.YtpknnjcbcndbbaaDoorLo
import Derived.ChangeSame
import Derived.Test.YtpknnjcbcndbbaaDoorG1003
import Derived.Test.YtpknnjcbcndbbaaDoorA14
set_option linter.unusedVariables false
set_option linter.unusedSimpArgs false
namespace Go.Proofs.YtpknnjcbcndbbaaDoor
open Go.ChangeShapes Go.WideShapes Go.ChangeAt Go.RowKit

theorem cells71 : Tryd.prog.cellsOf 71 = 3 := by kernel_rfl
theorem cells4 : Tryd.prog.cellsOf 4 = 1 := by kernel_rfl
set_option maxRecDepth 100000 in
theorem open_small {H : Type} {enc : TypeId × Value → H} {W : World} {v : Value} {d : DataW H} {p : List MemPlace} {r : Reach} {base : Nat} (hv : Value.okWide Tryd.prog W r base 71 v)
    (h : ∃ fuel, DataW.trod enc Tryd.prog W 0 (fun _ => true) true fuel 71 v.cells.toList = some (d, p)) : ∃ (x y : Int) (z : Bool), v = .agg #[.int .i64 x, .int .i64 y, .bool z] := by
  simp only [Value.okWide, Tryd.underlying71] at hv
  obtain ⟨cs, rfl, hsz, _⟩ := hv
  rw [cells71] at hsz
  obtain ⟨fuel, hf⟩ := h
  obtain ⟨xs, n, _, _, hl, hlen, hx⟩ := DataW.trod_struct Tryd.underlying71 hf
  obtain ⟨l, rfl⟩ : ∃ l : List Value, cs = l.toArray := ⟨cs.toList, by simp⟩
  match xs, hlen, l, hsz with
  | [y0, y1, y2], _, [v0, v1, v2], _ =>
    have g0 := hx 0 _ rfl
    have g1 := hx 1 _ rfl
    have g2 := hx 2 _ rfl
    simp [cells3, cells4, Value.cells] at g0 g1 g2
    obtain ⟨n0, e0, _⟩ := DataW.trod_int Tryd.underlying3 g0
    obtain ⟨n1, e1, _⟩ := DataW.trod_int Tryd.underlying3 g1
    obtain ⟨b2, e2, _⟩ := DataW.trod_bool Tryd.underlying4 g2
    simp at e0 e1 e2
    exact ⟨n0, n1, b2, by rw [e0, e1, e2]⟩
end Go.Proofs.YtpknnjcbcndbbaaDoor
namespace Go.Proofs.YtpknnjcbcndbbaaDoor
open Go.RowKit Go.Shelf

theorem mod8 (y : Int) : ∃ k : Nat, k < 8 ∧ wrap64 ((IntKind.u64.wrap y).tmod 8) = (k : Int) :=
  ⟨um y 8, um_lt y (by decide), by
    have h := um_lt y (m := 8) (by decide)
    rw [show (8 : Int) = ((8 : Nat) : Int) from rfl, um_eq, IntWalk.wrap64_in _ (by omega)]⟩
theorem loo_most {n : Nat} {ps : List (Int × Int)} (hn1 : 1 ≤ n) (hn : n ≤ 16) (h : edgesB n ps = true) : loo (ofE n ps) n n ≤ n - 1 := by
  obtain ⟨j, hj, e⟩ := loo_at (g := ofE n ps) (n := n) (m := n) (by omega)
  have p1 := (pk_facts (g := ofE n ps) hj).1
  have h1 : wtn (ofE n ps) (pk (ofE n ps) n j) (lf (ofE n ps) n j) ≤ size ((ofE n ps)[pk (ofE n ps) n j]?.getD 0) := szTo_sub (fun x hx => by
    rw [Nat.testBit_and, Bool.and_eq_true] at hx; exact hx.1) 64
  have h2 := dgTo_le (ofE n ps) 16 (pk (ofE n ps) n j) (by omega)
  have h3 := (dg_bounds hn1 hn h).2
  rw [e]; omega
theorem rise_zz {l : List Int} (h : Rise l) : ∀ d i, i + d + 1 < l.length → zz l i < zz l (i + d + 1)
  | 0, i, hi => by
    have := (h (i + 1) hi).2.2 (by omega)
    simpa using this
  | d + 1, i, hi => by
    have h1 := rise_zz h d i (by omega)
    have h2 := (h (i + d + 1 + 1) hi).2.2 (by omega)
    rw [show i + d + 1 + 1 - 1 = i + d + 1 by omega] at h2
    rw [show i + (d + 1) + 1 = i + d + 1 + 1 by omega]
    omega
theorem rise_nodup {ls : Nat → List Int} {i : Nat} (h : Rise (ls i)) : (natL ls i).Nodup := by
  unfold natL List.Nodup
  rw [List.pairwise_map, List.pairwise_iff_getElem]
  intro a b ha hb hab e
  have h1 := rise_zz h (b - a - 1) a (by omega)
  rw [show a + (b - a - 1) + 1 = b by omega] at h1
  have h2 := (h a ha).1
  unfold zz at h1 h2
  rw [List.getElem?_eq_getElem ha, List.getElem?_eq_getElem hb] at h1
  rw [List.getElem?_eq_getElem ha] at h2
  simp only [Option.getD_some] at h1 h2
  omega
set_option maxRecDepth 100000 in
set_option maxHeartbeats 4000000 in
theorem law10 (x y : Int) (z : Bool) (a : Option Addr) (cap : Nat) (ps : List (Int × Int)) (a2 : Option Addr) (cap2 : Nat) (xs : List (List Int)) (w : World) (h : PairsIn w a cap ps) (h2 : ListsIn w a2 cap2 xs) (hT : Tab w) :
    Calls Tryd.prog 10 #[.agg #[.int .i64 x, .int .i64 y, .bool z], .slice a ps.length cap, .slice a2 xs.length cap2] w fun e w' => e = .returned (.bool true) ∧ Below w.heap.size w w' := by
  have HT := Lib.hid hT
  have HTM := Lib.hid (fun W (hW : Below w.heap.size w W) => tame_any x a cap ps 10 W ⟨h.g.below hW (Nat.le_refl _), h.fits, h.capm, h.nil⟩ (by decide) (by decide))
  have HFI := Lib.hid (fun W (m d : Nat) (hW : Below w.heap.size w W) (hm : m ≤ 1099511627776) (hd : d ≤ 16) => filled_any a2 cap2 m d xs W (h2.below hW (Nat.le_refl _)) hm hd)
  obtain ⟨k8, hk8, hmod⟩ := mod8 y
  clear h h2 hT
  have HBX0 : Hid (BoxN (w.alloc (.cells #[.int .i64 x, .int .i64 y, .bool z] 71)) w.heap.size 71 #[.int .i64 x, .int .i64 y, .bool z]) := BoxN.new rfl
  have HB0 : Hid (Below w.heap.size w (w.alloc (.cells #[.int .i64 x, .int .i64 y, .bool z] 71))) := (Below.refl _ _).alloc (Nat.le_refl _) _
  go_enter Tryd.func10, Tryd.ntmps10
  go_upto_region 1 with (fail)
  generalize w.alloc (.cells #[.int .i64 x, .int .i64 y, .bool z] 71) = w0 at *
  have c0 : w0.cell? ⟨w.heap.size, 0, none⟩ = some (.int .i64 x) := HBX0.out.cell 0
  go_upto_region 2 with (go_at_call 14; refine (HTM.out w0 HB0.out).mono ?_; rintro e w1 ⟨m, qs, a1, c1', rfl, hm, hG1, hB1⟩; have HG1 := Lib.hid hG1; have HBB := Lib.hid hB1; have HB1 := Lib.hid (HB0.out.trans (hB1.mono HB0.out.size)); clear hG1 hB1)
  have c1 : Hid (∀ W, Below w0.heap.size w0 W → W.cell? ⟨w.heap.size, 1, none⟩ = some (.int .i64 y)) := fun W hW => (hW.cell (p := ⟨w.heap.size, 1, none⟩) HBX0.out.lt).trans (HBX0.out.cell 1)
  clear HBX0 c0 HTM
  have hn1 := HG1.out.n1
  have hn2 := HG1.out.n2
  have HSM := Lib.hid (ofE_sm HG1.out.n2 HG1.out.ok)
  have HU := Lib.hid (und_ofE HG1.out.ok)
  have hlo := loo_most HG1.out.n1 HG1.out.n2 HG1.out.ok
  have HE := Lib.hid (edgesOK HG1.out.n2 HG1.out.ok)
  have HOR := Lib.hid (Order_ok m a1 c1' qs w1 HG1.out)
  have HCH := Lib.hid (fun W hT hG => Chromatic_ok m a1 c1' qs W hT hG (by omega))
  have HCO := Lib.hid (fun W hG => Core_ok m k8 a1 c1' qs W hG (by omega))
  have HCL := Lib.hid (fun la ml lc ls W hT hG => Colours_ok m a1 la c1' ml lc qs ls W hT hG)
  obtain ⟨g, hg⟩ : ∃ g, Hid (g = ofE m qs) := ⟨_, rfl⟩
  rw [← hg.out] at HSM HU HOR HCH HCO HCL HE hlo
  have HCI := Lib.hid (fun s (h : CoreIs g m k8 s) => core_iff hn1 h)
  have HGR := Lib.hid (fun ls hN hL => greedy_fam (ls := ls) HU.out hn2 hN hL)
  have HCK : Hid (∀ kc, ChrIs g m kc → kc ≤ loo g m m + 1 ∧ 1 ≤ kc) := fun kc hc => by
    refine ⟨Nat.le_of_not_lt fun hlt => ?_, hc.1⟩
    refine hc.2.2 (loo g m m + 1) (by omega) hlt ((colK_fam HU.out).1 ?_)
    exact greedy_fam HU.out hn2 (fun v _ => List.nodup_range) (fun v _ => by rw [List.length_range]; omega)
  obtain ⟨lo, hloe⟩ : ∃ lo, Hid (lo = loo g m m) := ⟨_, rfl⟩
  rw [← hloe.out] at HOR HCI HGR HCK hlo
  obtain ⟨ol, hole⟩ : ∃ ol, Hid (ol = ordL g m) := ⟨_, rfl⟩
  rw [← hole.out] at HOR
  clear hloe hole
  go_upto_region 3 with (go_at_call 22; refine (HOR.out).mono ?_; rintro e w3 ⟨v3, rfl, hq3, hB3⟩; obtain ⟨p3, s3, rfl⟩ := hq3.isSlice; have HB3 := Lib.hid hB3; clear hq3 hB3)
  have HB13 := Lib.hid (HB1.out.trans (HB3.out.mono HB1.out.size))
  have HG3 := Lib.hid (HG1.out.below HB3.out)
  have HC3 := Lib.hid (HCH.out w3 (HT.out.below HB13.out (Nat.le_refl _)) HG3.out)
  clear HOR HCH
  go_upto_region 4 with (go_at_call 46; refine (HC3.out).mono ?_; rintro e w4 ⟨⟨kc, ob, cc, rfl, hki, -, -, -, -⟩, hB4⟩; obtain ⟨hkc, hkc1⟩ := HCK.out kc hki; have HB4 := Lib.hid (HB3.out.trans (hB4.mono HB3.out.size)); clear hki hB4)
  have HB14 := Lib.hid (HB1.out.trans (HB4.out.mono HB1.out.size))
  have HG4 := Lib.hid (HG1.out.below HB4.out)
  have d1 : w4.cell? ⟨w.heap.size, 1, none⟩ = some (.int .i64 y) := c1.out w4 (HBB.out.trans (HB4.out.mono HBB.out.size))
  have HC4 := Lib.hid (HCO.out w4 HG4.out)
  clear c1 HC3 HCO HCK
  go_upto_region 5 with (fail)
  clear d1
  simp only [hmod]
  clear hmod
  go_upto_region 6 with (go_at_call 25; refine (HC4.out).mono ?_; rintro e w5 ⟨⟨s5, rfl, hs5⟩, hB5⟩; have hcore := HCI.out s5 hs5; have HB5 := Lib.hid (HB4.out.trans (hB5.mono HB4.out.size)); clear hs5 hB5)
  have HB15 := Lib.hid (HB1.out.trans (HB5.out.mono HB1.out.size))
  have HG5 := Lib.hid (HG1.out.below HB5.out)
  have HF5 := Lib.hid (HFI.out w5 m (lo + 1) HB15.out (by omega) (by omega))
  rw [show ((lo + 1 : Nat) : Int) = (lo : Int) + 1 by omega] at HF5
  clear HC4 HCI HFI
  go_upto_region 7 with (go_at_call 42; refine (HF5.out).mono ?_; rintro e w6 ⟨⟨p6, s6, ls, rfl, hl6, hri6, hr6⟩, hB6⟩; have HL6 := Lib.hid hl6; have HRI := Lib.hid hri6; have HR6 := Lib.hid hr6.lst; have HB6 := Lib.hid (HB5.out.trans (hB6.mono HB5.out.size)); clear hl6 hri6 hr6 hB6)
  have HB16 := Lib.hid (HB1.out.trans (HB6.out.mono HB1.out.size))
  have HG6 := Lib.hid (HG1.out.below HB6.out)
  have HLP : Hid (ListsP ls m m) := ⟨fun i hi => (HRI.out i hi).1, rfl⟩
  have HFX : Hid (∃ f, FamC g m (natL ls) f) := HGR.out (natL ls) (fun v hv => rise_nodup (HRI.out v hv).1) fun v hv => by
    have := (HRI.out v hv).2
    unfold natL; rw [List.length_map]; omega
  have HC6 := Lib.hid (HCL.out p6 m s6 ls w6 (HT.out.below HB16.out (Nat.le_refl _)) HG6.out (by omega) (fun i => Nat.le_trans (HL6.out i) (by decide)) HR6.out)
  clear HF5 HCL HGR
  go_upto_region 8 with (go_at_call 43; refine (HC6.out).mono ?_; rintro e w7 ⟨hc7, hB7⟩; obtain ⟨p7, s7, f7, rfl, -, -, hF7, hS7⟩ : ∃ p c f, e = .returned (.tuple #[.slice p m c, .bool true, .int .i64 0]) ∧ ListsP ls m m ∧ m ≤ 10 ∧ FamC g m (natL ls) f ∧ SrcI w7 p m (fun j => (f j : Int)) := (by rcases hc7 with ⟨_, hn⟩ | ⟨_, _, hn⟩ | ⟨_, _, _, hn⟩ | hc; exact absurd HLP.out hn; omega; exact absurd HFX.out hn; exact hc); have HF7 := Lib.hid hF7; have HS7 := Lib.hid hS7; have HB7 := Lib.hid (HB6.out.trans (hB7.mono HB6.out.size)); clear hc7 hF7 hS7 hB7)
  have HB17 := Lib.hid (HB1.out.trans (HB7.out.mono HB1.out.size))
  have HG7 := Lib.hid (HG1.out.below HB7.out)
  have t1 : ¬ (lo : Int) + 1 < (kc : Int) := by omega
  have t2 : ¬ (kc : Int) < 1 := by omega
  have t3 : ((m : Int) != (m : Int)) = false := by simp
  obtain ⟨qb, hqb⟩ : ∃ qb, decide (k8 ≤ lo) = qb := ⟨_, rfl⟩
  have t4 : ((s5 : Int) != 0) = qb := by
    rw [← hqb]
    by_cases hq : k8 ≤ lo
    · rw [show decide (k8 ≤ lo) = true by simpa using hq, bne_iff_ne]
      have := hcore.2 hq; omega
    · rw [show decide (k8 ≤ lo) = false by simpa using hq]
      have : s5 = 0 := Classical.byContradiction fun h => hq (hcore.1 h)
      rw [this]; rfl
  have t5 : (qb != qb) = false := by simp
  clear hcore HC6
  go_upto_region 11 with (fail)
  clear t1 t2 t3 t4 t5 hqb
  have HGE := Lib.hid HG7.out.hg
  have HNE : Hid (∀ i (hi : i < qs.length), ∃ x y : Nat, qs[i]? = some ((x : Int), (y : Int)) ∧ x < m ∧ y < m ∧ f7 x ≠ f7 y) := fun i hi => by
    obtain ⟨x, y, e1, p1, p2, p3, p4⟩ := HE.out.edge i hi
    have hb := HU.out.lt x y p3
    exact ⟨x, y, e1, hb.1, hb.2, HF7.out.2 x y hb.1 hb.2 (by omega) p3⟩
  have hlen := HG7.out.hl
  obtain ⟨len, HL⟩ : ∃ len, Hid (qs.length = len) := ⟨_, rfl⟩
  rw [HL.out] at hlen ⊢
  have HAW : Hid (∀ W, Below w7.heap.size w7 W → Calls Tryd.prog 16 #[] W fun e w' => e = .returned (.bool true) ∧ Below W.heap.size W w') := fun W hW => awake_any W (HT.out.below (HB17.out.trans (hW.mono HB17.out.size)) (Nat.le_refl _))
  go_loopw [22] (fun s22 wr => ∃ k : Nat, k ≤ len ∧ s22 = .int .i64 (k : Int) ∧ Hid (Below w7.heap.size w7 wr)) (fun s22 _ => len - (intOf s22).toNat)
  case atStart => exact ⟨0, by omega, rfl, Below.refl _ _⟩
  case round =>
    obtain ⟨k, hk, rfl, hB⟩ := hrel
    by_cases hkl : k < len
    · have g1 : (k : Int) < (len : Int) := by omega
      obtain ⟨x0, y0, e1, hx0, hy0, hne⟩ := HNE.out k (by rw [HL.out]; exact hkl)
      obtain ⟨b, o, e2, hb, hc⟩ := HGE.out (fun e => by rw [e] at e1; simp at e1)
      subst e2
      obtain ⟨q, r, e3, hq, hd⟩ := HS7.out (by omega)
      subst e3
      have hck := hc k (by rw [HL.out]; exact hkl)
      rw [e1] at hck
      have hbr := Nat.lt_of_lt_of_le hb hB.out.size
      have hqr := Nat.lt_of_lt_of_le hq hB.out.size
      have r0 : ∀ d : BW wr.heap.size wr, d.w.cell? ⟨b, o + k * 2, none⟩ = some (.int .i64 (x0 : Int)) := fun d => d.cell hbr ((hB.out.cell (p := ⟨b, o + k * 2, none⟩) hb).trans hck.1)
      have r1 : ∀ d : BW wr.heap.size wr, d.w.cell? ⟨b, o + k * 2 + 1, none⟩ = some (.int .i64 (y0 : Int)) := fun d => d.cell hbr ((hB.out.cell (p := ⟨b, o + k * 2 + 1, none⟩) hb).trans hck.2)
      have r2 : ∀ d : BW wr.heap.size wr, d.w.cell? ⟨q, r + x0, none⟩ = some (.int .i64 (f7 x0 : Nat)) := fun d => d.cell hqr ((hB.out.cell (p := ⟨q, r + x0, none⟩) hq).trans (hd x0 hx0))
      have r3 : ∀ d : BW wr.heap.size wr, d.w.cell? ⟨q, r + y0, none⟩ = some (.int .i64 (f7 y0 : Nat)) := fun d => d.cell hqr ((hB.out.cell (p := ⟨q, r + y0, none⟩) hq).trans (hd y0 hy0))
      have t6 : (((f7 x0 : Nat) : Int) == ((f7 y0 : Nat) : Int)) = false := by rw [beq_eq_false_iff_ne]; omega
      clear hc hd hck
      go_upto_region 13 with (fail)
      have n1 : ((x0 : Int)).toNat = x0 := by omega
      refine wp_region_bw (by kernel_rfl) (by kernel_rfl) ?_
      repeat (go_big_quiet_step (rfl))
      refine wpQuiet_nil ?_
      rintro _ ⟨d, rfl⟩
      have HBDD := Lib.hid (hB.out.trans (d.b.mono hB.out.size))
      clear r0 r1 r2 r3
      generalize d.w = Z at *
      go_wp2
      exact ⟨⟨k + 1, by omega, int_eq (by omega), HBDD⟩, by simp [intOf]; omega⟩
    · have g1 : ¬ (k : Int) < (len : Int) := by omega
      have HA := Lib.hid (HAW.out wr hB.out)
      go_wp2_with (go_at_call 16; refine (HA.out).mono ?_; rintro e w9 ⟨rfl, hB9⟩; have HB9 := Lib.hid (hB.out.trans (hB9.mono hB.out.size)); clear hB9)
      go_ret
      exact ⟨rfl, HB17.out.trans (HB9.out.mono HB17.out.size)⟩
end Go.Proofs.YtpknnjcbcndbbaaDoor
