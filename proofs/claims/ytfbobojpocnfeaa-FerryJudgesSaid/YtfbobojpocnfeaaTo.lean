/- The law's tame: a walk. -/
import Derived.Test.YtfbobojpocnfeaaTn
import Derived.Deep.QuietTactic
import Derived.BigQuiet
namespace Go.Proofs.Ytfbobojpocnfeaa
open Go.RowKit Go.Shelf

/-- what is left of a number's 64 bits, by m -/
def um (z : Int) (m : Nat) : Nat := ((IntKind.u64.wrap z).tmod (m : Int)).toNat
theorem u64_nonneg (z : Int) : 0 ≤ IntKind.u64.wrap z := by rw [IntKind.wrap_u64]; omega
theorem um_eq (z : Int) (m : Nat) : (IntKind.u64.wrap z).tmod (m : Int) = ((um z m : Nat) : Int) := by
  unfold um
  have := Int.tmod_nonneg (m : Int) (u64_nonneg z)
  omega
theorem um_lt (z : Int) {m : Nat} (hm : 1 ≤ m) : um z m < m := by
  have h := um_eq z m
  rw [Int.tmod_eq_emod_of_nonneg (u64_nonneg z)] at h
  have := Int.emod_lt_of_pos (IntKind.u64.wrap z) (show (0 : Int) < (m : Int) by omega)
  omega
set_option maxRecDepth 100000 in
set_option maxHeartbeats 2000000 in
theorem tame_fresh (n : Int) (a : Option Addr) (cap : Nat) (ps : List (Int × Int)) (most : Nat) (w : World) (h : PairsIn w a cap ps) (hm1 : 1 ≤ most) (hm2 : most ≤ 10) :
    Calls Try.prog 10 #[.int .i64 n, .slice a ps.length cap, .int .i64 most] w fun e w' => ∃ (m : Nat) (qs : List (Int × Int)) (a' : Option Addr) (c' : Nat), e = .returned (.tuple #[.int .i64 m, .slice a' qs.length c']) ∧ m ≤ most ∧ Good m qs a' w' ∧ Below w.heap.size w w' ∧ Fresh w.heap.size a' qs := by
  obtain ⟨m, hm⟩ : ∃ m, Hid (m = 1 + um n most) := ⟨_, rfl⟩
  have hu := um_lt n hm1
  have hmm1 : 1 ≤ m := by rw [hm.out]; omega
  have hmm2 : m ≤ most := by rw [hm.out]; omega
  have e0 : wrap64 (1 + wrap64 ((IntKind.u64.wrap n).tmod (most : Int))) = (m : Int) := by
    rw [um_eq, IntWalk.wrap64_in ((um n most : Nat) : Int) (by omega), IntWalk.wrap64_in _ (by omega), hm.out]; omega
  obtain ⟨v0, hv0, hv1, hmk⟩ := make_ints m (by omega)
  have HV0 := Lib.hid hv0
  have HV1 := Lib.hid hv1
  have hl := Nat.le_trans h.fits h.capm
  unfold maxLen at hl
  have hg := h.g
  clear hv0 hv1 h hu
  obtain ⟨len, HL⟩ : ∃ len, Hid (ps.length = len) := ⟨_, rfl⟩
  rw [HL.out] at hl ⊢
  go_enter Try.func10, Try.ntmps10
  go_upto_region 2 with (fail)
  simp only [e0]
  clear e0
  go_wp2
  clear hmk
  go_loopw [9] (fun i wr => ∃ (k : Nat) (vs : Array Value) (g : List Nat), k ≤ len ∧ k ≤ 40 ∧ i = .int .i64 k ∧ Hid (g.length = m) ∧ BoxN wr w.heap.size 3 vs ∧ RowCells vs g ∧ (∀ i : Nat, Sm (g[i]?.getD 0)) ∧ Below w.heap.size w wr) (fun i _ => len - (intOf i).toNat)
  case atStart =>
    refine ⟨0, v0, List.replicate m 0, Nat.zero_le _, by omega, rfl, by simp [Hid], BoxN.new rfl, RowCells.zero HV0.out HV1.out, fun i => ?_, (Below.refl _ _).alloc (Nat.le_refl _) _⟩
    have : (List.replicate m 0)[i]?.getD 0 = 0 := by simp [List.getElem?_replicate]; split <;> rfl
    rw [this]; exact sm_of (by decide)
  case round =>
    obtain ⟨k, vs, g, hk, hk40, rfl, hglen, hbox, hcc, hgsm, hB⟩ := hrel
    by_cases hkl : k < len
    · by_cases hk4 : k < 40
      · have hsz := hbox.lt
        obtain ⟨b, off, rfl, hb, hc⟩ := hg (by intro e; rw [e] at HL; have := HL.out; simp at this; omega)
        have hck := hc k (by rw [HL.out]; exact hkl)
        have hc1 : wr.cell? ⟨b, off + k * 2, none⟩ = some (.int .i64 (ps[k]?.getD (0, 0)).1) := (hB.cell (p := ⟨b, off + k * 2, none⟩) hb).trans hck.1
        have hc2 : wr.cell? ⟨b, off + k * 2 + 1, none⟩ = some (.int .i64 (ps[k]?.getD (0, 0)).2) := (hB.cell (p := ⟨b, off + k * 2 + 1, none⟩) hb).trans hck.2
        generalize (ps[k]?.getD (0, 0)).1 = zx at hc1
        generalize (ps[k]?.getD (0, 0)).2 = zy at hc2
        clear hck hc hg
        obtain ⟨x, hx⟩ : ∃ x, Hid (x = um zx m) := ⟨_, rfl⟩
        obtain ⟨y, hy⟩ : ∃ y, Hid (y = um zy m) := ⟨_, rfl⟩
        have hxm : x < m := by rw [hx.out]; exact um_lt _ hmm1
        have hym : y < m := by rw [hy.out]; exact um_lt _ hmm1
        have ex : IntKind.i64.wrap ((IntKind.u64.wrap zx).tmod (m : Int)) = (x : Int) := by rw [um_eq, ← hx.out, IntWalk.i64_in _ (by omega)]
        have ey : IntKind.i64.wrap ((IntKind.u64.wrap zy).tmod (m : Int)) = (y : Int) := by rw [um_eq, ← hy.out, IntWalk.i64_in _ (by omega)]
        have ex' : wrap64 ((IntKind.u64.wrap zx).tmod (m : Int)) = (x : Int) := by rw [um_eq, ← hx.out, IntWalk.wrap64_in _ (by omega)]
        have ey' : wrap64 ((IntKind.u64.wrap zy).tmod (m : Int)) = (y : Int) := by rw [um_eq, ← hy.out, IntWalk.wrap64_in _ (by omega)]
        have em : IntKind.u64.wrap (m : Int) = (m : Int) := IntWalk.u64_in _ (by omega)
        have hki : ((k : Nat) : Int) < ((len : Nat) : Int) := by omega
        have hk0 : (0 : Int) ≤ ((k : Nat) : Int) := by omega
        have hm0 : ((m : Nat) : Int) ≠ 0 := by omega
        go_wp2
        go_quiet (fail)
        clear ex ey ex' ey' em hc1 hc2
        by_cases hxy : x = y
        · have hxb : (((x : Nat) : Int) != ((y : Nat) : Int)) = false := by rw [hxy]; simp
          clear hxy
          go_wp2
          exact ⟨⟨k + 1, vs, g, by omega, by omega, by go_num, hglen, hbox, hcc, hgsm, below_dr hB nq⟩, by simp [intOf]; omega⟩
        · have hxb : (((x : Nat) : Int) != ((y : Nat) : Int)) = true := by rw [bne_iff_ne]; omega
          have HXY := Lib.hid hxy
          clear hxy
          have l1 := hbox.cell x
          have l2 := hbox.cell y
          rw [hcc.2 x (by rw [hglen.out]; exact hxm)] at l1
          rw [hcc.2 y (by rw [hglen.out]; exact hym)] at l2
          have lf1 := hbox.frozen x
          have lf2 := hbox.frozen y
          have hx20 : x < 20 := by omega
          have hy20 : y < 20 := by omega
          have hxn : ((x : Nat) : Int) < (m : Int) := by omega
          have hynI : ((y : Nat) : Int) < (m : Int) := by omega
          have hgx := hgsm x
          have hgy := hgsm y
          have HG := Lib.hid hgsm
          clear hgsm
          have l2' : ∀ v, (wr.setCell ⟨w.heap.size, x, none⟩ v).cell? ⟨w.heap.size, y, none⟩ = some (.int .i64 ((g[y]?.getD 0 : Nat) : Int)) := fun v =>
            (World.cell?_setCell_other _ _ _ _ (fun e => by have := HXY.out; have := congrArg Addr.off e; simp at this; omega)).trans l2
          have HL2 := Lib.hid l2'
          clear l2 l2'
          go_wp2
          go_region
          have l2'' : ∀ q v, ((wr.drewN q).setCell ⟨w.heap.size, x, none⟩ v).cell? ⟨w.heap.size, y, none⟩ = some (.int .i64 ((g[y]?.getD 0 : Nat) : Int)) := fun q v => HL2.out v
          clear l1
          go_wp2
          go_region
          go_wp2
          refine ⟨⟨k + 1, _, addE g x y, by omega, by omega, by go_num, by rw [Hid, addE_length]; exact hglen.out, (hbox.set x _).set y _, hcc.add x y HXY.out (by rw [hglen.out]; omega) (by rw [hglen.out]; omega), addE_sm g x y HXY.out (by rw [hglen.out]; omega) (by rw [hglen.out]; omega) (by rw [hglen.out]; omega) HG.out, ?_⟩, by simp [intOf]; omega⟩
          exact ((((below_dr hB nq).drew.setCell (p := ⟨w.heap.size, x, none⟩) (Nat.le_refl _) _).setCell (p := ⟨w.heap.size, y, none⟩) (Nat.le_refl _) _).drew)
      · have : k = 40 := by omega
        subst this
        have HLS := Lib.hid (listed_any (some ⟨w.heap.size, 0, none⟩) m g wr (by rw [hglen.out]; omega) hgsm (Sets.ofBox hbox hcc))
        rw [hglen.out] at HLS
        clear hg hgsm
        go_wp2_with (go_at_call 32; refine (HLS.out).mono ?_; rintro e w1 ⟨qs, a', c', rfl, hP, hE, hL, hB1, hF⟩; try dsimp only)
        go_ret2
        exact ⟨m, qs, a', c', rfl, hmm2, ⟨by omega, hP, hmm1, by omega, hE⟩, hB.trans (hB1.mono hB.size), fun hne ad hd => Nat.le_trans hB.size (hF hne ad hd)⟩
    · have : k = len := by omega
      subst this
      have HLS := Lib.hid (listed_any (some ⟨w.heap.size, 0, none⟩) m g wr (by rw [hglen.out]; omega) hgsm (Sets.ofBox hbox hcc))
      rw [hglen.out] at HLS
      clear hg hgsm
      go_wp2_with (go_at_call 32; refine (HLS.out).mono ?_; rintro e w1 ⟨qs, a', c', rfl, hP, hE, hL, hB1, hF⟩; try dsimp only)
      go_ret2
      exact ⟨m, qs, a', c', rfl, hmm2, ⟨by omega, hP, hmm1, by omega, hE⟩, hB.trans (hB1.mono hB.size), fun hne ad hd => Nat.le_trans hB.size (hF hne ad hd)⟩
theorem tame_any (n : Int) (a : Option Addr) (cap : Nat) (ps : List (Int × Int)) (most : Nat) (w : World) (h : PairsIn w a cap ps) (hm1 : 1 ≤ most) (hm2 : most ≤ 10) :
    Calls Try.prog 10 #[.int .i64 n, .slice a ps.length cap, .int .i64 most] w fun e w' => ∃ (m : Nat) (qs : List (Int × Int)) (a' : Option Addr) (c' : Nat), e = .returned (.tuple #[.int .i64 m, .slice a' qs.length c']) ∧ m ≤ most ∧ Good m qs a' w' ∧ Below w.heap.size w w' :=
  (tame_fresh n a cap ps most w h hm1 hm2).mono fun _ _ ⟨m, qs, a', c', h1, h2, h3, h4, _⟩ => ⟨m, qs, a', c', h1, h2, h3, h4⟩
end Go.Proofs.Ytfbobojpocnfeaa
