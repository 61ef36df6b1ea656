/- The document's count of colours, of proper colours: a walk. The document's trial of all colours: walks. Colours from lists: the walk; the document's least number of colours. HueLoose in plain text: a greedy choice along the order never fails; the core of k is empty just if k is beyond the looseness. HueKonig in plain text: the hues at a vertex are at least its degree; with two sides no set has more edges than the degree's hues have room for. Some of a graph's edges; edges that join an even and an odd vertex: plain text, and the law's sided. HueKonig: the walk of the law. -/
import Derived.Test.YtpknnjcbcndbbaaDoorG1101
import Derived.Test.YtpknnjcbcndbbaaDoorH01
import Derived.Test.YtpknnjcbcndbbaaDoorA12
import Derived.Test.YtpknnjcbcndbbaaDoorOd
import Derived.Test.YtpknnjcbcndbbaaDoorA15
import Derived.Test.YtpknnjcbcndbbaaDoorE01
import Derived.Test.YtpknnjcbcndbbaaDoorA17
import Derived.Test.YtpknnjcbcndbbaaDoorA06
set_option linter.unusedVariables false
set_option linter.unusedSimpArgs false
namespace Go.Proofs.YtpknnjcbcndbbaaDoor
open Go.RowKit Go.Shelf

def PropC (g : List Nat) (n : Nat) (h : Nat → Int) : Prop := (∀ i, i < n → 0 ≤ h i) ∧ ∀ i k, i < n → k < n → adj g i k → h i ≠ h k
theorem rcols_len (n m : Nat) (a p : Option Addr) (cap c : Nat) (w : World) (hn : n ≤ 16) (hm : m ≤ 1099511627776) (hne : m ≠ n) :
    Calls Tryd.prog 45 #[.slice a n cap, .slice p m c] w fun e w' => e = .returned (.tuple #[.int .i64 0, .bool false]) ∧ w' = w := by
  have g0 : ((m : Int) != (n : Int)) = true := by rw [bne_iff_ne]; omega
  go_enter Tryd.func45, Tryd.ntmps45
  go_wp2
  refine bodyPost_ret (v := .tuple #[.int .i64 0, .bool false]) (by simp [results, Tryd.f45, go_sem]) rfl ?_
  exact ⟨rfl, rfl⟩
set_option maxRecDepth 100000 in
set_option maxHeartbeats 2000000 in
theorem rcols_any (n : Nat) (a p : Option Addr) (cap c : Nat) (g : List Nat) (h : Nat → Int) (w : World) (hl : g.length = n) (hn : n ≤ 16) (hsm : ∀ i : Nat, Sm (g[i]?.getD 0)) (hg : Sets w a g) (hs : SrcI w p n h) (hp : PropC g n h) :
    Calls Tryd.prog 45 #[.slice a n cap, .slice p n c] w fun e w' => (∃ m : Nat, e = .returned (.tuple #[.int .i64 (m : Int), .bool true])) ∧ Below w.heap.size w w' := by
  have H := Lib.hid hs
  have HG := Lib.hid hg
  have HSM := Lib.hid hsm
  have HLN := Lib.hid hl
  have HP := Lib.hid hp
  clear hs hg hsm hl hp
  have g0 : ((n : Int) != (n : Int)) = false := by simp
  go_enter Tryd.func45, Tryd.ntmps45
  go_upto_region 5 with (fail)
  clear g0
  go_loopw [6, 7] (fun s6 s7 wr => ∃ m i : Nat, i ≤ n ∧ m ≤ i ∧ s7 = .int .i64 (i : Int) ∧ s6 = .int .i64 (m : Int) ∧ Hid (Below w.heap.size w wr)) (fun _ s7 _ => 40 - (intOf s7).toNat)
  case atStart => exact ⟨0, 0, by omega, by omega, rfl, rfl, Below.refl _ _⟩
  case round =>
    obtain ⟨m, i, hi, hmi, rfl, rfl, hB⟩ := hrel
    by_cases hin : i < n
    · have g1 : (i : Int) < (n : Int) := by omega
      have gi0 : (0 : Int) ≤ (i : Int) := by omega
      go_upto_region 9 with (fail)
      obtain ⟨wo, hwo⟩ : ∃ wo, Hid (wo = wr) := ⟨_, rfl⟩
      go_loopw [8, 9] (fun s8 s9 wr2 => ∃ (b : Bool) (k : Nat), k ≤ i ∧ s9 = .int .i64 (k : Int) ∧ s8 = .bool b ∧ Hid (Below w.heap.size w wr2)) (fun _ s9 _ => 40 - (intOf s9).toNat)
      case atStart => exact ⟨true, 0, by omega, rfl, rfl, hB⟩
      case round =>
        clear hB
        obtain ⟨b, k, hk, rfl, rfl, hB⟩ := hrel
        obtain ⟨gb, go, rfl, hgb, hgc⟩ := HG.out
        obtain ⟨pb, po, rfl, hb, hc⟩ := H.out (by omega)
        by_cases hki : k < i
        · have g2 : (k : Int) < (i : Int) := by omega
          have g3 : (0 : Int) ≤ (k : Int) := by omega
          have g4 : (k : Int) < (n : Int) := by omega
          have hk20 : k < 20 := by omega
          have hbr : pb < wr.heap.size := Nat.lt_of_lt_of_le hb hB.out.size
          have hgr : gb < wr.heap.size := Nat.lt_of_lt_of_le hgb hB.out.size
          have c1 := (hB.out.cell (p := ⟨pb, po + k, none⟩) hb).trans (hc k (by omega))
          have c2 := (hB.out.cell (p := ⟨pb, po + i, none⟩) hb).trans (hc i hin)
          have c3 := (hB.out.cell (p := ⟨gb, go + i, none⟩) hgb).trans (hgc i (by rw [HLN.out]; exact hin))
          have hgs := HSM.out i
          have HPX : Hid (h k = h i → (g[i]?.getD 0).testBit k = false) := fun e => by
            cases hb : (g[i]?.getD 0).testBit k with
            | false => rfl
            | true => exact absurd e.symm (HP.out.2 i k hin (by omega) hb)
          clear hc hgc
          generalize g[i]?.getD 0 = gi at *
          have hbit : h k = h i → gi.testBit k = false := HPX.out
          clear HPX
          generalize h k = x at *
          generalize h i = y at *
          by_cases hxy : x = y
          · have e1 : (x != y) = false := by rw [hxy]; simp
            have e2 : (x == y) = true := by rw [hxy]; simp
            have hbf := hbit hxy
            clear hxy hbit
            have r1 : ∀ d : BW wr.heap.size wr, d.w.cell? ⟨pb, po + k, none⟩ = some (.int .i64 x) := fun d => d.cell hbr c1
            have r2 : ∀ d : BW wr.heap.size wr, d.w.cell? ⟨pb, po + i, none⟩ = some (.int .i64 y) := fun d => d.cell hbr c2
            cases b with
            | true =>
              go_upto_region 11 with (fail)
              refine wp_region_bw (by kernel_rfl) (by kernel_rfl) ?_
              repeat (go_big_quiet_step (rfl))
              refine wpQuiet_nil ?_
              rintro _ ⟨d, rfl⟩
              have HBD := Lib.hid (hB.out.trans (d.b.mono hB.out.size))
              have hbr2 : pb < d.w.heap.size := Nat.lt_of_lt_of_le hbr d.b.size
              have hgr2 : gb < d.w.heap.size := Nat.lt_of_lt_of_le hgr d.b.size
              have d1 := d.cell hbr c1
              have d2 := d.cell hbr c2
              have d3 := d.cell hgr c3
              clear r1 r2 c1 c2 c3
              generalize d.w = Z at *
              have r1 : ∀ d : BW Z.heap.size Z, d.w.cell? ⟨pb, po + k, none⟩ = some (.int .i64 x) := fun d => d.cell hbr2 d1
              have r2 : ∀ d : BW Z.heap.size Z, d.w.cell? ⟨pb, po + i, none⟩ = some (.int .i64 y) := fun d => d.cell hbr2 d2
              have r3 : ∀ d : BW Z.heap.size Z, d.w.cell? ⟨gb, go + i, none⟩ = some (.int .i64 (gi : Int)) := fun d => d.cell hgr2 d3
              go_upto_region 12 with (fail)
              refine wp_region_bw (by kernel_rfl) (by kernel_rfl) ?_
              repeat (go_big_quiet_step (rfl))
              refine wpQuiet_nil ?_
              rintro _ ⟨d, rfl⟩
              have HBE := Lib.hid (HBD.out.trans (d.b.mono HBD.out.size))
              clear r1 r2 r3 d1 d2 d3
              generalize d.w = Z2 at *
              go_wp2
              exact ⟨⟨false, k + 1, by omega, int_eq (by omega), rfl, HBE⟩, by simp [intOf]; omega⟩
            | false =>
              go_upto_region 11 with (fail)
              refine wp_region_bw (by kernel_rfl) (by kernel_rfl) ?_
              repeat (go_big_quiet_step (rfl))
              refine wpQuiet_nil ?_
              rintro _ ⟨d, rfl⟩
              have HBD := Lib.hid (hB.out.trans (d.b.mono hB.out.size))
              have hbr2 : pb < d.w.heap.size := Nat.lt_of_lt_of_le hbr d.b.size
              have hgr2 : gb < d.w.heap.size := Nat.lt_of_lt_of_le hgr d.b.size
              have d1 := d.cell hbr c1
              have d2 := d.cell hbr c2
              have d3 := d.cell hgr c3
              clear r1 r2 c1 c2 c3
              generalize d.w = Z at *
              have r1 : ∀ d : BW Z.heap.size Z, d.w.cell? ⟨pb, po + k, none⟩ = some (.int .i64 x) := fun d => d.cell hbr2 d1
              have r2 : ∀ d : BW Z.heap.size Z, d.w.cell? ⟨pb, po + i, none⟩ = some (.int .i64 y) := fun d => d.cell hbr2 d2
              have r3 : ∀ d : BW Z.heap.size Z, d.w.cell? ⟨gb, go + i, none⟩ = some (.int .i64 (gi : Int)) := fun d => d.cell hgr2 d3
              go_upto_region 12 with (fail)
              refine wp_region_bw (by kernel_rfl) (by kernel_rfl) ?_
              repeat (go_big_quiet_step (rfl))
              refine wpQuiet_nil ?_
              rintro _ ⟨d, rfl⟩
              have HBE := Lib.hid (HBD.out.trans (d.b.mono HBD.out.size))
              clear r1 r2 r3 d1 d2 d3
              generalize d.w = Z2 at *
              go_wp2
              exact ⟨⟨false, k + 1, by omega, int_eq (by omega), rfl, HBE⟩, by simp [intOf]; omega⟩
          · have e1 : (x != y) = true := by rw [bne_iff_ne]; exact hxy
            have e2 : (x == y) = false := by rw [beq_eq_false_iff_ne]; exact hxy
            clear hxy hbit
            have r1 : ∀ d : BW wr.heap.size wr, d.w.cell? ⟨pb, po + k, none⟩ = some (.int .i64 x) := fun d => d.cell hbr c1
            have r2 : ∀ d : BW wr.heap.size wr, d.w.cell? ⟨pb, po + i, none⟩ = some (.int .i64 y) := fun d => d.cell hbr c2
            cases b with
            | true =>
              go_upto_region 11 with (fail)
              refine wp_region_bw (by kernel_rfl) (by kernel_rfl) ?_
              repeat (go_big_quiet_step (rfl))
              refine wpQuiet_nil ?_
              rintro _ ⟨d, rfl⟩
              have HBD := Lib.hid (hB.out.trans (d.b.mono hB.out.size))
              have hbr2 : pb < d.w.heap.size := Nat.lt_of_lt_of_le hbr d.b.size
              have hgr2 : gb < d.w.heap.size := Nat.lt_of_lt_of_le hgr d.b.size
              have d1 := d.cell hbr c1
              have d2 := d.cell hbr c2
              have d3 := d.cell hgr c3
              clear r1 r2 c1 c2 c3
              generalize d.w = Z at *
              have r1 : ∀ d : BW Z.heap.size Z, d.w.cell? ⟨pb, po + k, none⟩ = some (.int .i64 x) := fun d => d.cell hbr2 d1
              have r2 : ∀ d : BW Z.heap.size Z, d.w.cell? ⟨pb, po + i, none⟩ = some (.int .i64 y) := fun d => d.cell hbr2 d2
              have r3 : ∀ d : BW Z.heap.size Z, d.w.cell? ⟨gb, go + i, none⟩ = some (.int .i64 (gi : Int)) := fun d => d.cell hgr2 d3
              go_upto_region 12 with (fail)
              refine wp_region_bw (by kernel_rfl) (by kernel_rfl) ?_
              repeat (go_big_quiet_step (rfl))
              refine wpQuiet_nil ?_
              rintro _ ⟨d, rfl⟩
              have HBE := Lib.hid (HBD.out.trans (d.b.mono HBD.out.size))
              clear r1 r2 r3 d1 d2 d3
              generalize d.w = Z2 at *
              go_wp2
              exact ⟨⟨true, k + 1, by omega, int_eq (by omega), rfl, HBE⟩, by simp [intOf]; omega⟩
            | false =>
              go_upto_region 11 with (fail)
              refine wp_region_bw (by kernel_rfl) (by kernel_rfl) ?_
              repeat (go_big_quiet_step (rfl))
              refine wpQuiet_nil ?_
              rintro _ ⟨d, rfl⟩
              have HBD := Lib.hid (hB.out.trans (d.b.mono hB.out.size))
              have hbr2 : pb < d.w.heap.size := Nat.lt_of_lt_of_le hbr d.b.size
              have hgr2 : gb < d.w.heap.size := Nat.lt_of_lt_of_le hgr d.b.size
              have d1 := d.cell hbr c1
              have d2 := d.cell hbr c2
              have d3 := d.cell hgr c3
              clear r1 r2 c1 c2 c3
              generalize d.w = Z at *
              have r1 : ∀ d : BW Z.heap.size Z, d.w.cell? ⟨pb, po + k, none⟩ = some (.int .i64 x) := fun d => d.cell hbr2 d1
              have r2 : ∀ d : BW Z.heap.size Z, d.w.cell? ⟨pb, po + i, none⟩ = some (.int .i64 y) := fun d => d.cell hbr2 d2
              have r3 : ∀ d : BW Z.heap.size Z, d.w.cell? ⟨gb, go + i, none⟩ = some (.int .i64 (gi : Int)) := fun d => d.cell hgr2 d3
              go_upto_region 12 with (fail)
              refine wp_region_bw (by kernel_rfl) (by kernel_rfl) ?_
              repeat (go_big_quiet_step (rfl))
              refine wpQuiet_nil ?_
              rintro _ ⟨d, rfl⟩
              have HBE := Lib.hid (HBD.out.trans (d.b.mono HBD.out.size))
              clear r1 r2 r3 d1 d2 d3
              generalize d.w = Z2 at *
              go_wp2
              exact ⟨⟨false, k + 1, by omega, int_eq (by omega), rfl, HBE⟩, by simp [intOf]; omega⟩
        · have g2 : ¬ (k : Int) < (i : Int) := by omega
          have c2 := (hB.out.cell (p := ⟨pb, po + i, none⟩) hb).trans (hc i hin)
          have hnn := HP.out.1 i hin
          clear hc hgc
          generalize h i = y at *
          have hy : ¬ y < 0 := by omega
          have hyd : decide (y < 0) = false := decide_eq_false hy
          cases b with
          | true =>
            go_wp2
            exact ⟨⟨m + 1, i + 1, by omega, by omega, int_eq (by omega), int_eq (by omega), hB⟩, by simp [intOf]; omega⟩
          | false =>
            go_wp2
            exact ⟨⟨m, i + 1, by omega, by omega, int_eq (by omega), rfl, hB⟩, by simp [intOf]; omega⟩
    · have g1 : ¬ (i : Int) < (n : Int) := by omega
      go_wp2
      refine bodyPost_ret (v := .tuple #[.int .i64 (m : Int), .bool true]) (by simp [results, Tryd.f45, go_sem]) rfl ?_
      exact ⟨⟨m, rfl⟩, hB.out⟩
end Go.Proofs.YtpknnjcbcndbbaaDoor
namespace Go.Proofs.YtpknnjcbcndbbaaDoor
open Go.RowKit Go.Shelf

set_option maxRecDepth 100000 in
set_option maxHeartbeats 8000000 in
theorem coloured_any {a la : Option Addr} {cap lc : Nat} {g : List Nat} {n : Nat} {ls : Nat → List Nat} (hl : g.length = n) (hn : n ≤ 16) (U : Und g n) (hsm : ∀ i : Nat, Sm (g[i]?.getD 0)) (hls : ∀ i, (ls i).length ≤ 64) : ∀ (m : Nat) (W : World) (p : Option Addr) (c : Nat) (h : Nat → Int), unh n h < m → PreC g n ls h → Sets W a g → ListsAt W la n ls → SrcI W p n h →
    Calls Tryd.prog 71 #[.slice a n cap, .slice la n lc, .slice p n c] W fun e w' => BoolP (ExtC g n ls h) e ∧ Below W.heap.size W w' := by
  intro m
  induction m with
  | zero => intro W p c h hu; omega
  | succ m ih =>
    intro W p c h hu hP hE hL hS
    obtain ⟨i0, hi, hz0, hz1, hz2⟩ := info_parts info3
    have IH : Hid (∀ (W : World) (p : Option Addr) (c : Nat) (h2 : Nat → Int), unh n h2 < unh n h → PreC g n ls h2 → Sets W a g → ListsAt W la n ls → SrcI W p n h2 →
        Calls Tryd.prog 71 #[.slice a n cap, .slice la n lc, .slice p n c] W fun e w' => BoolP (ExtC g n ls h2) e ∧ Below W.heap.size W w') := fun W p c h2 h3 h4 h5 h6 h7 => ih W p c h2 (by omega) h4 h5 h6 h7
    have HP := Lib.hid hP
    have HE := Lib.hid hE
    have HL := Lib.hid hL
    have HS := Lib.hid hS
    have HLS := Lib.hid hls
    have HFR : Hid (∀ (i : Nat) (x : Int) W', i < n → Below W.heap.size W W' → Calls Tryd.prog 92 #[.slice a n cap, .slice p n c, .int .i64 (i : Int), .int .i64 x] W' fun e w' => BoolP (FreeC g n h i x) e ∧ Below W'.heap.size W' w') := fun i x W' hi hB => (ropen_any n a p cap c g h i x W' hl hn U hsm hi (hE.keep hB (Nat.le_refl _)) (hS.below hB (Nat.le_refl _))).mono fun e w' ⟨h1, h2⟩ => ⟨h1, by rw [h2]; exact Below.refl _ _⟩
    clear hP hE hL hS hu hls
    go_enter Tryd.func71, Tryd.ntmps71
    go_upto_region 3 with (fail)
    go_loopw [7, 8, 9] (fun s7 s8 s9 wr => ∃ (k : Nat) (bi fw : Int), k ≤ n ∧ s9 = .int .i64 (k : Int) ∧ s7 = .int .i64 bi ∧ s8 = .int .i64 fw ∧ Hid (BestF h k bi fw) ∧ Hid (Below W.heap.size W wr)) (fun _ _ s9 _ => n - (intOf s9).toNat)
    case atStart => exact ⟨0, -1, 1000, by omega, rfl, rfl, rfl, .inl ⟨rfl, rfl, fun j hj => by omega⟩, Below.refl _ _⟩
    case round =>
      obtain ⟨k, bi, fw, hk, rfl, rfl, rfl, hbi, hB⟩ := hrel
      by_cases hkl : k < n
      · have g1 : (k : Int) < (n : Int) := by omega
        have g0 : (0 : Int) ≤ (k : Int) := by omega
        obtain ⟨b, o, ep, hb, hc⟩ := HS.out (by omega)
        have k1 := (hB.out.cell (p := ⟨b, o + k, none⟩) hb).trans (hc k hkl)
        subst ep
        clear hc
        by_cases hneg : 0 ≤ h k
        · have HN := Lib.hid (hbi.out.pass hneg)
          obtain ⟨z, hz⟩ : ∃ z, Hid (z = h k) := ⟨_, rfl⟩
          rw [← hz.out] at k1 hneg
          go_wp2
          exact ⟨⟨k + 1, bi, fw, by omega, int_eq (by omega), rfl, rfl, HN, hB⟩, by simp [intOf]; omega⟩
        · have HNW := Lib.hid (fun f => BestF.new (h := h) (k := k) f (by omega))
          have hlk := HLS.out k
          obtain ⟨z, hz⟩ : ∃ z, Hid (z = h k) := ⟨_, rfl⟩
          rw [← hz.out] at k1 hneg
          obtain ⟨lm, hlm⟩ : ∃ lm, Hid (lm = (ls k).length) := ⟨_, rfl⟩
          rw [← hlm.out] at hlk
          go_upto_region 8 with (fail)
          clear k1
          go_loopw [10, 11] (fun s10 s11 wr2 => ∃ (kk cnt : Nat), kk ≤ lm ∧ cnt ≤ kk ∧ s11 = .int .i64 (kk : Int) ∧ s10 = .int .i64 (cnt : Int) ∧ Hid (Below W.heap.size W wr2)) (fun _ s11 _ => 64 - (intOf s11).toNat)
          case atStart => exact ⟨0, 0, by omega, by omega, rfl, rfl, hB⟩
          case round =>
            obtain ⟨kk, cnt, hkk, hcnt, rfl, rfl, hB2⟩ := hrel
            obtain ⟨lb, lo, ela, hlb, hlc⟩ := HL.out (by omega)
            obtain ⟨p2, c2, hc1, hc2⟩ := hlc k hkl
            subst ela
            rw [← hlm.out] at hc1 hc2
            have k2 := (hB2.out.cell (p := ⟨lb, lo + k, none⟩) hlb).trans hc1
            clear hlc hc1
            by_cases hkm : kk < lm
            · obtain ⟨qb, qo, ep2, hqb, hqc⟩ := hc2 (by omega)
              subst ep2
              have k3 : wr.cell? ⟨qb, qo + kk, none⟩ = some (.int .i64 (nth (ls k) kk : Nat)) := (hB2.out.cell (p := ⟨qb, qo + kk, none⟩) hqb).trans (hqc kk hkm)
              have g2 : (kk : Int) < (lm : Int) := by omega
              have g3 : (0 : Int) ≤ (kk : Int) := by omega
              obtain ⟨x, hx⟩ : ∃ x, Hid (x = nth (ls k) kk) := ⟨_, rfl⟩
              rw [← hx.out] at k3
              have HF := Lib.hid (HFR.out k (x : Int) _ hkl hB2.out)
              clear hqc hc2
              go_upto_if 45 with (go_at_call 92; refine (HF.out).mono ?_; rintro e w5 ⟨⟨b5, rfl, -⟩, hB5⟩; have HB5 := Lib.hid (hB2.out.trans (hB5.mono hB2.out.size)); clear hB5)
              cases b5 with
              | true =>
                go_wp2
                exact ⟨⟨kk + 1, cnt + 1, by omega, by omega, int_eq (by omega), int_eq (by omega), HB5⟩, by simp [intOf]; omega⟩
              | false =>
                go_wp2
                exact ⟨⟨kk + 1, cnt, by omega, by omega, int_eq (by omega), rfl, HB5⟩, by simp [intOf]; omega⟩
            · have g2 : ¬ (kk : Int) < (lm : Int) := by omega
              clear hc2
              by_cases hcf : (cnt : Int) < fw
              · have HN := Lib.hid (HNW.out (cnt : Int))
                go_wp2
                exact ⟨⟨k + 1, _, _, by omega, int_eq (by omega), rfl, rfl, HN, hB2⟩, by simp [intOf]; omega⟩
              · have HN := Lib.hid (hbi.out.leave (l := cnt) (by omega) hcf)
                go_wp2
                exact ⟨⟨k + 1, bi, fw, by omega, int_eq (by omega), rfl, rfl, HN, hB2⟩, by simp [intOf]; omega⟩
      · have g1 : ¬ (k : Int) < (n : Int) := by omega
        have hke : k = n := by omega
        rw [hke] at hbi
        rcases hbi.out with ⟨rfl, hf, hall⟩ | ⟨i, hi', rfl, hneg⟩
        · have HD := Lib.hid (HP.out.done (hall))
          clear hall hf hke
          go_wp2
          go_ret
          exact ⟨BoolP.yes HD.out, hB.out⟩
        · have hil : i < n := by omega
          have hneg2 := Lib.hid hneg
          have i1 : (i : Int) < (n : Int) := by omega
          have i2 : (0 : Int) ≤ (i : Int) := by omega
          have i3 : ¬ (i : Int) < 0 := by omega
          have hlk := HLS.out i
          obtain ⟨lm, hlm⟩ : ∃ lm, Hid (lm = (ls i).length) := ⟨_, rfl⟩
          rw [← hlm.out] at hlk
          clear hneg hke hbi
          go_upto_region 18 with (fail)
          go_loopw [12] (fun s12 wr2 => ∃ kk : Nat, kk ≤ lm ∧ s12 = .int .i64 (kk : Int) ∧ Hid (∀ j, j < kk → FreeC g n h i (nth (ls i) j : Nat) → ¬ ExtC g n ls (setI h i (nth (ls i) j : Nat))) ∧ Hid (Below W.heap.size W wr2)) (fun s12 _ => 100 - (intOf s12).toNat)
          case atStart => exact ⟨0, by omega, rfl, (fun j hj => by omega), hB⟩
          case round =>
            obtain ⟨kk, hkk, rfl, hno, hB2⟩ := hrel
            obtain ⟨lb, lo, ela, hlb, hlc⟩ := HL.out (by omega)
            obtain ⟨p2, c2, hc1, hc2⟩ := hlc i hil
            subst ela
            rw [← hlm.out] at hc1 hc2
            have k2 := (hB2.out.cell (p := ⟨lb, lo + i, none⟩) hlb).trans hc1
            clear hlc hc1
            by_cases hkm : kk < lm
            · obtain ⟨qb, qo, ep2, hqb, hqc⟩ := hc2 (by omega)
              subst ep2
              have k3 : wr.cell? ⟨qb, qo + kk, none⟩ = some (.int .i64 (nth (ls i) kk : Nat)) := (hB2.out.cell (p := ⟨qb, qo + kk, none⟩) hqb).trans (hqc kk hkm)
              have g2 : (kk : Int) < (lm : Int) := by omega
              have g3 : (0 : Int) ≤ (kk : Int) := by omega
              have HMX : Hid (nth (ls i) kk ∈ ls i) := by
                unfold Hid nth
                rw [List.getElem?_eq_getElem (by rw [← hlm.out]; exact hkm)]
                exact List.getElem_mem _
              have HNX : Hid ((FreeC g n h i (nth (ls i) kk : Nat) → ¬ ExtC g n ls (setI h i (nth (ls i) kk : Nat))) → ∀ j, j < kk + 1 → FreeC g n h i (nth (ls i) j : Nat) → ¬ ExtC g n ls (setI h i (nth (ls i) j : Nat))) := fun hh j hj => by
                by_cases e : j = kk
                · subst e; exact hh
                · exact hno.out j (by omega)
              obtain ⟨x, hx⟩ : ∃ x, Hid (x = nth (ls i) kk) := ⟨_, rfl⟩
              rw [← hx.out] at k3 HMX HNX
              have HF := Lib.hid (HFR.out i (x : Int) _ hil hB2.out)
              clear hqc hc2
              go_upto_if 76 with (go_at_call 92; refine (HF.out).mono ?_; rintro e w5 ⟨⟨b5, rfl, hb5⟩, hB5⟩; have HB5 := Lib.hid (hB2.out.trans (hB5.mono hB2.out.size)); have HF5 := Lib.hid hb5; clear hB5 hb5)
              cases b5 with
              | false =>
                have HN : Hid (∀ j, j < kk + 1 → FreeC g n h i (nth (ls i) j : Nat) → ¬ ExtC g n ls (setI h i (nth (ls i) j : Nat))) := HNX.out fun hf => absurd (HF5.out.2 hf) (by simp)
                go_wp2
                exact ⟨⟨kk + 1, by omega, int_eq (by omega), HN, HB5⟩, by simp [intOf]; omega⟩
              | true =>
                have HFF : Hid (FreeC g n h i (x : Int)) := HF5.out.1 rfl
                have hsz5 := HB5.out.size
                obtain ⟨b, o, ep, hb, hc⟩ := HS.out (by omega)
                subst ep
                have HSW := Lib.hid ((HS.out.below HB5.out (Nat.le_refl _)).src)
                have HONE := Lib.hid (ivI_one h n)
                clear hc k2 k3
                go_upto_region 24 with (at_builtin; go_must (refine wpList_append_qq _ rfl (.tmp 77) (.tmp 78) 25 rfl w5.heap.size 3 i0 (.int .i64 0) 1 8 Tryd.underlying25 hi hz0 hz1 hz2 rfl (by decide) _ 0 [] rfl (QRow.nil _ _ _ _) (some ⟨b, o, none⟩) n c (ivI h n) rfl HSW.out HONE.out (by unfold maxLen; omega) (by omega) (Nat.le_refl _) ?_); intro v6 w6 hq6 hg6 ho6; have HB6 : Hid (Below w5.heap.size w5 w6) := Below.grown (Below.refl _ w5) hg6 (Nat.le_refl _) (fun kk e => by cases e); have HQ6 : Hid (QRow w6 w5.heap.size 3 1 v6 n (ivI h n)) := (by rw [Nat.zero_add, List.nil_append] at hq6; exact hq6); clear hq6 hg6 ho6)
                obtain ⟨g6, o6, c6, e6, hb6, hl6, hn6, hm6, hc6, hf6⟩ := HQ6.out.at (by omega)
                subst e6
                have hf7 := hf6 (o6 + i)
                have hc7 := (hc6 i (by omega)).trans (ivI_get h n i hil)
                have HB7 : Hid (Below w5.heap.size w5 (w6.setCell ⟨g6, o6 + i, none⟩ (.int .i64 (x : Int)))) := HB6.out.setCell (p := ⟨g6, o6 + i, none⟩) hb6 _
                have HQ7 := Lib.hid (HQ6.out.set i (by omega) (.int .i64 (x : Int)))
                have HS7 : Hid (SrcI (w6.setCell ⟨g6, o6 + i, none⟩ (.int .i64 (x : Int))) (some ⟨g6, o6, none⟩) n (setI h i (x : Int))) := HQ7.out.srcI fun j hj => by
                  unfold setI
                  by_cases e : j = i
                  · subst e; rw [if_pos rfl, List.getElem?_set_self (by rw [ivI_len]; exact hj)]
                  · rw [if_neg e, List.getElem?_set_ne (fun h => e h.symm)]; exact ivI_get h n j hj
                have hBW := HB5.out.trans (HB7.out.mono HB5.out.size)
                have HBW := Lib.hid hBW
                have HRC := Lib.hid (IH.out (w6.setCell ⟨g6, o6 + i, none⟩ (.int .i64 (x : Int))) (some ⟨g6, o6, none⟩) c6 (setI h i (x : Int)) (unh_set hil hneg2.out x) (HP.out.step U.sym hil HMX.out HFF.out) (HE.out.keep hBW (Nat.le_refl _)) (HL.out.below hBW (Nat.le_refl _)) HS7.out)
                clear hc6 hf6 hBW
                go_upto_if 87 with (go_at_call 71; refine (HRC.out).mono ?_; rintro e w8 ⟨⟨b8, rfl, hb8⟩, hB8⟩; have HB8 := Lib.hid (HBW.out.trans (hB8.mono HBW.out.size)); have HX8 := Lib.hid hb8; clear hB8 hb8)
                cases b8 with
                | true =>
                  have HD : Hid (ExtC g n ls h) := (HX8.out.1 rfl).back hneg2.out
                  go_wp2
                  go_ret
                  exact ⟨BoolP.yes HD.out, HB8.out⟩
                | false =>
                  have HN : Hid (∀ j, j < kk + 1 → FreeC g n h i (nth (ls i) j : Nat) → ¬ ExtC g n ls (setI h i (nth (ls i) j : Nat))) := HNX.out fun _ hE => absurd (HX8.out.2 hE) (by simp)
                  go_wp2
                  exact ⟨⟨kk + 1, by omega, int_eq (by omega), HN, HB8⟩, by simp [intOf]; omega⟩
            · have g2 : ¬ (kk : Int) < (lm : Int) := by omega
              have HNE : Hid (¬ ExtC g n ls h) := fun hE => by
                obtain ⟨x, hx, hf, hx2⟩ := hE.step hil hneg2.out
                obtain ⟨j, hj, rfl⟩ := List.getElem_of_mem hx
                have e : nth (ls i) j = (ls i)[j] := by unfold nth; rw [List.getElem?_eq_getElem hj]; rfl
                refine hno.out j (by rw [← hlm.out] at hj; omega) ?_ ?_
                · rw [e]; exact hf
                · rw [e]; exact hx2
              clear hc2
              go_wp2
              go_ret
              exact ⟨BoolP.no HNE.out, hB2.out⟩
set_option maxRecDepth 100000 in
set_option maxHeartbeats 2000000 in
theorem rcolourable_any {a la : Option Addr} {cap lc : Nat} {g : List Nat} {n : Nat} {ls : Nat → List Nat} (hl : g.length = n) (hn : n ≤ 16) (U : Und g n) (hsm : ∀ i : Nat, Sm (g[i]?.getD 0)) (hls : ∀ i, (ls i).length ≤ 64) (w : World) (hE : Sets w a g) (hL : ListsAt w la n ls) :
    Calls Tryd.prog 44 #[.slice a n cap, .slice la n lc] w fun e w' => BoolP (∃ f, FamC g n ls f) e ∧ Below w.heap.size w w' := by
  obtain ⟨vs0, hv1, hv2, HMK⟩ := make_25b n (by omega)
  have HV1 := Lib.hid hv1
  have HV2 := Lib.hid hv2
  have HP : Hid (∀ W p c, Below w.heap.size w W → SrcI W p n (fun _ => -1) → Calls Tryd.prog 71 #[.slice a n cap, .slice la n lc, .slice p n c] W fun e w' => BoolP (∃ f, FamC g n ls f) e ∧ Below W.heap.size W w') := fun W p c hB hS => by
    have := coloured_any (cap := cap) (lc := lc) hl hn U hsm hls (unh n (fun _ => -1) + 1) W p c (fun _ => -1) (by omega) (PreC.start g n ls) (hE.keep hB (Nat.le_refl _)) (hL.below hB (Nat.le_refl _)) hS
    refine this.mono ?_
    rintro e w' ⟨⟨b, h1, h2⟩, h3⟩
    exact ⟨⟨b, h1, h2.trans ExtC.start⟩, h3⟩
  clear hE hL hv1 hv2
  go_enter Tryd.func44, Tryd.ntmps44
  go_upto_region 3 with (fail)
  obtain ⟨b, hb⟩ : ∃ b, Hid (b = w.heap.size) := ⟨_, rfl⟩
  have hR0 : RowB (w.alloc (.cells vs0 3)) b n (fun _ => 0) := ⟨vs0, BoxN.new hb.out, HV1.out, fun j hj => HV2.out j hj⟩
  have hBV : Below w.heap.size w (w.alloc (.cells vs0 3)) := (Below.refl _ _).alloc (Nat.le_refl _) _
  rw [← hb.out]
  generalize (w.alloc (.cells vs0 3)) = V at *
  have HR0 := Lib.hid hR0
  have HBV := Lib.hid hBV
  clear hR0 hBV HMK
  go_loopw [6] (fun s6 wr => ∃ j : Nat, j ≤ n ∧ s6 = .int .i64 (j : Int) ∧ Hid (RowB wr b n (fun v => if v < j then -1 else 0)) ∧ Hid (Below w.heap.size w wr)) (fun s6 _ => n - (intOf s6).toNat)
  case atStart => exact ⟨0, by omega, rfl, HR0.out.congr fun x _ => by simp, HBV⟩
  case round =>
    obtain ⟨j, hj, rfl, hR, hB⟩ := hrel
    by_cases hjn : j < n
    · have h1 : (j : Int) < (n : Int) := by omega
      have h2 : (0 : Int) ≤ (j : Int) := by omega
      have hf := hR.out.frozen j
      have hc := hR.out.cell hjn
      have HRN : Hid (RowB (wr.setCell ⟨b, j, none⟩ (.int .i64 (-1))) b n (fun v => if v < j + 1 then -1 else 0)) := (hR.out.set hjn (-1)).congr fun x _ => by
        by_cases e : x = j
        · subst e; simp
        · rw [if_neg e]
          by_cases h : x < j
          · rw [if_pos h, if_pos (by omega)]
          · rw [if_neg h, if_neg (by omega)]
      have HAN := Lib.hid (hB.out.setCell (p := ⟨b, j, none⟩) (by simp [hb.out]) (.int .i64 (-1)))
      go_wp2
      exact ⟨⟨j + 1, by omega, int_eq (by omega), HRN, HAN⟩, by simp [intOf]; omega⟩
    · have h1 : ¬ (j : Int) < (n : Int) := by omega
      have hRL : RowB wr b n (fun _ => -1) := hR.out.congr fun x hx => by rw [if_pos (by omega)]
      have HS : Hid (SrcI wr (some ⟨b, 0, none⟩) n (fun _ => -1)) := fun _ => ⟨b, 0, rfl, hRL.lt, fun j hj => by rw [Nat.zero_add]; exact hRL.cell hj⟩
      have HC := Lib.hid (HP.out wr (some ⟨b, 0, none⟩) n hB.out HS.out)
      clear hRL
      go_wp2_with (go_at_call 71; refine (HC.out).mono ?_; rintro e w8 ⟨⟨b8, rfl, hb8⟩, hB8⟩; have HB8 := Lib.hid (hB.out.trans (hB8.mono hB.out.size)); have HX8 := Lib.hid hb8; clear hB8 hb8)
      go_ret
      exact ⟨⟨b8, rfl, HX8.out⟩, HB8.out⟩
end Go.Proofs.YtpknnjcbcndbbaaDoor
namespace Go.Proofs.YtpknnjcbcndbbaaDoor
open Go.RowKit Go.Shelf

theorem famC_of {g : List Nat} {n : Nat} {L : Nat → Nat} {ls : Nat → List Nat} {f : Nat → Nat} (hM : ∀ i, i < n → ∀ x, x ∈ ls i ↔ (L i).testBit x = true) (h : ColOK g n L f) : FamC g n ls f :=
  ⟨fun i hi => (hM i hi _).2 (h.1 i hi), fun i k _ _ _ ha => h.2 i k ha⟩
theorem colOK_of {g : List Nat} {n : Nat} {L : Nat → Nat} {ls : Nat → List Nat} {f : Nat → Nat} (U : Und g n) (hM : ∀ i, i < n → ∀ x, x ∈ ls i ↔ (L i).testBit x = true) (h : FamC g n ls f) : ColOK g n L f :=
  ⟨fun i hi => (hM i hi _).1 (h.1 i hi), fun v w ha => h.2 v w (U.lt _ _ ha).1 (U.lt _ _ ha).2 (U.ne _ _ ha) ha⟩
/-- what Colours answers -/
def ColsA (g : List Nat) (n : Nat) (ls : Nat → List Int) (m : Nat) (W' : World) (e : Ending) : Prop :=
  (e = .returned (.tuple #[.slice none 0 0, .bool false, .int .i64 70]) ∧ ¬ ListsP ls m n) ∨
  (e = .returned (.tuple #[.slice none 0 0, .bool false, .int .i64 2]) ∧ ListsP ls m n ∧ 10 < n) ∨
  (e = .returned (.tuple #[.slice none 0 0, .bool false, .int .i64 0]) ∧ ListsP ls m n ∧ n ≤ 10 ∧ ¬ ∃ f, FamC g n (natL ls) f) ∨
  (∃ p c f, e = .returned (.tuple #[.slice p n c, .bool true, .int .i64 0]) ∧ ListsP ls m n ∧ n ≤ 10 ∧ FamC g n (natL ls) f ∧ SrcI W' p n (fun j => (f j : Int)))
set_option maxRecDepth 100000 in
set_option maxHeartbeats 4000000 in
theorem Colours_ok (n : Nat) (a la : Option Addr) (cap m lc : Nat) (ps : List (Int × Int)) (ls : Nat → List Int) (w : World) (hT : Tab w) (hG : Good n ps a w) (hm : m ≤ 1099511627776) (hll : ∀ i, (ls i).length ≤ 1000) (hL : LstI w la m ls) :
    Calls Tryd.prog 43 #[.int .i64 (n : Int), .slice a ps.length cap, .slice la m lc] w fun e w' => ColsA (ofE n ps) n ls m w' e ∧ Below w.heap.size w w' := by
  have HO := Lib.hid (gopen_ok n a cap ps w hG.hl hG.hg hG.n1 hG.n2 hG.ok)
  have HT := Lib.hid hT
  have hn1 := hG.n1
  have hn2 := hG.n2
  have HU := Lib.hid (und_ofE hG.ok)
  have HSM := Lib.hid (ofE_sm hG.n2 hG.ok)
  have HSE : Hid (∀ W, Below w.heap.size w W → Calls Tryd.prog 67 #[.slice la m lc, .int .i64 (n : Int)] W fun e w' => SetsA ls m n w' W.heap.size e ∧ Below W.heap.size W w') := fun W hW => sets_any la m n lc ls W hm hll (hL.below hW (Nat.le_refl _))
  clear hT hG hL
  obtain ⟨g, hg⟩ : ∃ g, Hid (g = ofE n ps) := ⟨_, rfl⟩
  rw [← hg.out] at HO HU HSM ⊢
  go_enter Tryd.func43, Tryd.ntmps43
  go_upto_region 4 with (go_at_call 52; refine HO.out.mono ?_; rintro e w1 ⟨B, rfl, hBl, hg1, hb1⟩; have HG1 := Lib.hid hg1; have HB1 := Lib.hid hb1; clear hBl hg1 hb1)
  have HC := Lib.hid (HSE.out w1 HB1.out)
  clear HSE HO
  go_upto_region 5 with (go_at_call 67; refine (HC.out).mono ?_; rintro e w2 ⟨hs2, hB2⟩; have HB2 := Lib.hid hB2; clear hB2; rcases hs2 with ⟨rfl, hn⟩ | ⟨p2, c2, rfl, hl2, hr2⟩)
  · have HN := Lib.hid hn
    clear hn
    go_wp2
    refine bodyPost_ret (v := .tuple #[.slice none 0 0, .bool false, .int .i64 70]) (by simp [results, Tryd.f43, go_sem]) rfl ?_
    exact ⟨.inl ⟨rfl, HN.out⟩, HB1.out.trans (HB2.out.mono HB1.out.size)⟩
  · have HLP := Lib.hid hl2
    have hml := hl2.2
    have HBW := Lib.hid (HB1.out.trans (HB2.out.mono HB1.out.size))
    have hru : RowU w2 p2 n (maskL ls m) := by rw [← hml]; exact hr2.congr fun i hi => by unfold maskL; rw [if_pos hi]
    have HL64 : Hid (∀ i, maskL ls m i < 18446744073709551616) := fun i => by
      unfold maskL
      by_cases h : i < m
      · rw [if_pos h]; exact mskTo_lt (hl2.1 i h)
      · rw [if_neg h]; decide
    have HMK : Hid (∀ i, i < n → ∀ x, x ∈ natL ls i ↔ (maskL ls m i).testBit x = true) := fun i hi x => by
      have hi' : i < m := by omega
      unfold maskL
      rw [if_pos hi', mem_natL (hl2.1 i hi'), mask_of (hl2.1 i hi')]
    obtain ⟨lb, lq, rfl, hlb, hlc⟩ := hru (by omega)
    have HRL : Hid (lb < w2.heap.size ∧ ∀ v, v < n → w2.cell? ⟨lb, lq + v, none⟩ = some (.int .u64 (maskL ls m v : Nat))) := ⟨hlb, hlc⟩
    clear hl2 hr2 HC hru hlb hlc
    by_cases h12 : 10 < n
    · have g1 : (10 : Int) < (n : Int) := by omega
      go_wp2
      refine bodyPost_ret (v := .tuple #[.slice none 0 0, .bool false, .int .i64 2]) (by simp [results, Tryd.f43, go_sem]) rfl ?_
      exact ⟨.inr (.inl ⟨rfl, HLP.out, h12⟩), HBW.out⟩
    · have g1 : ¬ (10 : Int) < (n : Int) := by omega
      have g2 : decide ((10 : Int) < (n : Int)) = false := decide_eq_false g1
      rw [hml]
      have HCH := Lib.hid (colours_any B n a cap ps.length g lb lq c2 (maskL ls m) w2 (HT.out.below HBW.out (Nat.le_refl _)) (HG1.out.below HB2.out (Nat.le_refl _)) HSM.out HU.out hn1 hn2 HL64.out HRL.out)
      go_upto_region 10 with (go_at_call 70; refine (HCH.out).mono ?_; rintro e w3 ⟨hs3, hB3⟩; have HB3 := Lib.hid (HBW.out.trans (hB3.mono HBW.out.size)); clear hB3; rcases hs3 with ⟨rfl, hn⟩ | ⟨ob, cc, rfl, -, hr3, -, ho3⟩)
      · have HN : Hid (¬ ∃ f, FamC g n (natL ls) f) := fun ⟨f, F⟩ => hn ⟨f, colOK_of HU.out HMK.out F⟩
        clear hn
        go_wp2
        refine bodyPost_ret (v := .tuple #[.slice none 0 0, .bool false, .int .i64 0]) (by simp [results, Tryd.f43, go_sem]) rfl ?_
        exact ⟨.inr (.inr (.inl ⟨rfl, HLP.out, by omega, HN.out⟩)), HB3.out⟩
      · have HF := Lib.hid (famC_of HMK.out ho3)
        have HS : Hid (SrcI w3 (some ⟨ob, 0, none⟩) n (fun j => (cc j : Int))) := fun _ => ⟨ob, 0, rfl, hr3.lt, fun j hj => by rw [Nat.zero_add]; exact hr3.cell hj⟩
        clear hr3 ho3
        go_wp2
        refine bodyPost_ret (v := .tuple #[.slice (some ⟨ob, 0, none⟩) n n, .bool true, .int .i64 0]) (by simp [results, Tryd.f43, go_sem]) rfl ?_
        exact ⟨.inr (.inr (.inr ⟨_, _, cc, rfl, HLP.out, by omega, HF.out, HS.out⟩)), HB3.out⟩
end Go.Proofs.YtpknnjcbcndbbaaDoor
namespace Go.Proofs.YtpknnjcbcndbbaaDoor
open Go.RowKit

theorem bl_size (s : Nat) : ∀ k, (bl s k).length = szTo s k
  | 0 => by simp [bl, szTo]
  | k + 1 => by
    rw [bl_succ, List.length_append, bl_size s k, szTo, tb]
    cases s.testBit k <;> simp
theorem cnt_size (s : Nat) : cnt s = size s := bl_size s 64
theorem szTo_sub {s t : Nat} (h : ∀ x, s.testBit x = true → t.testBit x = true) : ∀ k, szTo s k ≤ szTo t k
  | 0 => Nat.le_refl _
  | k + 1 => by
    have ih := szTo_sub h k
    have : tb s k ≤ tb t k := by
      unfold tb
      cases hs : s.testBit k with
      | false => simp
      | true => rw [h k hs]; exact Nat.le_refl _
    simp only [szTo]; omega
theorem wtn_sub {g : List Nat} {v s t : Nat} (h : ∀ x, s.testBit x = true → t.testBit x = true) : wtn g v s ≤ wtn g v t :=
  szTo_sub (fun x hx => by
    rw [Nat.testBit_and, Bool.and_eq_true] at hx ⊢
    exact ⟨hx.1, h x hx.2⟩) 64
theorem loo_ge {g : List Nat} {n : Nat} : ∀ {m j : Nat}, j < m → wtn g (pk g n j) (lf g n j) ≤ loo g n m
  | 0, j, h => by omega
  | m + 1, j, h => by
    unfold loo
    by_cases e : j = m
    · subst e; exact Nat.le_max_right _ _
    · exact Nat.le_trans (loo_ge (m := m) (by omega)) (Nat.le_max_left _ _)
theorem loo_at {g : List Nat} {n : Nat} : ∀ {m : Nat}, 0 < m → ∃ j, j < m ∧ loo g n m = wtn g (pk g n j) (lf g n j)
  | 0, h => by omega
  | m + 1, _ => by
    unfold loo
    by_cases h : loo g n m ≤ wtn g (pk g n m) (lf g n m)
    · exact ⟨m, by omega, Nat.max_eq_right h⟩
    · by_cases h0 : m = 0
      · subst h0; exact absurd (Nat.zero_le _) h
      · obtain ⟨j, hj, e⟩ := loo_at (g := g) (n := n) (m := m) (by omega)
        exact ⟨j, by omega, by rw [Nat.max_eq_left (by omega), e]⟩
/-- an element of a that b lacks -/
theorem pick_out {a b : List Nat} (hn : a.Nodup) (hl : b.length < a.length) : ∃ x, x ∈ a ∧ x ∉ b := Classical.byContradiction fun h => by
  have := nodup_sub a b hn fun x hx => Classical.byContradiction fun hb => h ⟨x, hx, hb⟩
  omega
theorem greedy {g : List Nat} {n : Nat} {ls : Nat → List Nat} (U : Und g n) (hn : n ≤ 16) (hN : ∀ v, v < n → (ls v).Nodup) (hL : ∀ v, v < n → loo g n n < (ls v).length) : ∀ d, d ≤ n → ∃ f : Nat → Nat, (∀ v, (lf g n (n - d)).testBit v = true → f v ∈ ls v) ∧ ∀ v w, (lf g n (n - d)).testBit v = true → (lf g n (n - d)).testBit w = true → adj g v w → f v ≠ f w
  | 0, _ => by
    have e : lf g n (n - 0) = 0 := (lf_zero (Nat.le_refl n)).2 rfl
    rw [e]
    exact ⟨fun _ => 0, fun v h => by simp at h, fun v w h => by simp at h⟩
  | d + 1, hd => by
    obtain ⟨f, h1, h2⟩ := greedy U hn hN hL d (by omega)
    obtain ⟨j, hj⟩ : ∃ j, j = n - (d + 1) := ⟨_, rfl⟩
    have hjn : j < n := by omega
    rw [show n - d = j + 1 by omega] at h1 h2
    rw [← hj]
    obtain ⟨p1, p2, -, -⟩ := pk_facts (g := g) hjn
    have hlf : ∀ v, (lf g n (j + 1)).testBit v = true ↔ (lf g n j).testBit v = true ∧ v ≠ pk g n j := fun v => by
      show (ldiff (lf g n j) (pw (bst g n (lf g n j)))).testBit v = true ↔ _
      rw [testBit_ldiff, pw, Nat.testBit_two_pow]
      show _ ↔ _ ∧ v ≠ bst g n (lf g n j)
      by_cases e : bst g n (lf g n j) = v
      · simp [e]
      · simp [e, Ne.symm e]
    have hlen : ((bl ((g[pk g n j]?.getD 0) &&& lf g n j) 64).map f).length < (ls (pk g n j)).length := by
      rw [List.length_map]
      have e1 := bl_size ((g[pk g n j]?.getD 0) &&& lf g n j) 64
      have e2 := loo_ge (g := g) (n := n) hjn
      have e3 := hL _ p1
      have e4 : wtn g (pk g n j) (lf g n j) = szTo ((g[pk g n j]?.getD 0) &&& lf g n j) 64 := rfl
      omega
    obtain ⟨x, hx1, hx2⟩ := pick_out (hN _ p1) hlen
    have hfree : ∀ w, (lf g n j).testBit w = true → adj g (pk g n j) w → f w ≠ x := fun w hw ha e => hx2 (List.mem_map.2 ⟨w, mem_bl.2 ⟨by have := lf_lt j hw; omega, by rw [Nat.testBit_and, hw, Bool.and_true]; exact ha⟩, e⟩)
    refine ⟨fun v => if v = pk g n j then x else f v, fun v hv => ?_, fun v w hv hw ha => ?_⟩
    · show (if v = pk g n j then x else f v) ∈ ls v
      by_cases e : v = pk g n j
      · rw [if_pos e, e]; exact hx1
      · rw [if_neg e]; exact h1 v ((hlf v).2 ⟨hv, e⟩)
    · show (if v = pk g n j then x else f v) ≠ (if w = pk g n j then x else f w)
      have hne := U.ne _ _ ha
      by_cases e : v = pk g n j
      · rw [if_pos e, if_neg (fun e' => hne (by rw [e, e']))]
        exact fun e' => hfree w hw (e ▸ ha) e'.symm
      · rw [if_neg e]
        by_cases e2 : w = pk g n j
        · rw [if_pos e2]; exact hfree v hv (by rw [← e2]; exact U.sym _ _ ha)
        · rw [if_neg e2]; exact h2 v w ((hlf v).2 ⟨hv, e⟩) ((hlf w).2 ⟨hw, e2⟩) ha
theorem greedy_fam {g : List Nat} {n : Nat} {ls : Nat → List Nat} (U : Und g n) (hn : n ≤ 16) (hN : ∀ v, v < n → (ls v).Nodup) (hL : ∀ v, v < n → loo g n n < (ls v).length) : ∃ f, FamC g n ls f := by
  obtain ⟨f, h1, h2⟩ := greedy U hn hN hL n (Nat.le_refl _)
  have e : ∀ v, v < n → (lf g n (n - n)).testBit v = true := fun v hv => by
    rw [Nat.sub_self]; show (full n).testBit v = true
    rw [testBit_full]; simpa using hv
  exact ⟨f, fun i hi => h1 i (e i hi), fun i k hi hk _ ha => h2 i k (e i hi) (e k hk) ha⟩
end Go.Proofs.YtpknnjcbcndbbaaDoor
namespace Go.Proofs.YtpknnjcbcndbbaaDoor
open Go.RowKit

def sumF (f : Nat → Nat) : Nat → Nat
  | 0 => 0
  | k + 1 => sumF f k + f k
theorem sumF_le {f h : Nat → Nat} : ∀ {k : Nat}, (∀ i, i < k → f i ≤ h i) → sumF f k ≤ sumF h k
  | 0, _ => Nat.le_refl _
  | k + 1, H => by
    have := sumF_le (k := k) fun i hi => H i (by omega)
    have := H k (by omega)
    simp only [sumF]; omega
theorem sumF_congr {f h : Nat → Nat} {k : Nat} (H : ∀ i, i < k → f i = h i) : sumF f k = sumF h k :=
  Nat.le_antisymm (sumF_le fun i hi => Nat.le_of_eq (H i hi)) (sumF_le fun i hi => Nat.le_of_eq (H i hi).symm)
theorem sumF_add (f h : Nat → Nat) : ∀ k, sumF (fun i => f i + h i) k = sumF f k + sumF h k
  | 0 => rfl
  | k + 1 => by simp only [sumF]; rw [sumF_add f h k]; omega
theorem sumF_zero : ∀ k, sumF (fun _ => 0) k = 0
  | 0 => rfl
  | k + 1 => by simp only [sumF]; rw [sumF_zero k]
theorem sumF_swap (a : Nat → Nat → Nat) (m : Nat) : ∀ n, sumF (fun i => sumF (a i) m) n = sumF (fun j => sumF (fun i => a i j) n) m
  | 0 => by simp only [sumF]; exact (sumF_zero m).symm
  | n + 1 => by
    simp only [sumF]
    rw [sumF_swap a m n, sumF_add]
theorem sumF_mul (d : Nat) (f : Nat → Nat) : ∀ k, sumF (fun i => d * f i) k = d * sumF f k
  | 0 => rfl
  | k + 1 => by simp only [sumF]; rw [sumF_mul d f k, Nat.mul_add]
theorem sumF_mono {f : Nat → Nat} {m : Nat} : ∀ d, sumF f m ≤ sumF f (m + d)
  | 0 => Nat.le_refl _
  | d + 1 => Nat.le_trans (sumF_mono d) (by show _ ≤ sumF f (m + d) + f (m + d); omega)
theorem szTo_sum (s : Nat) : ∀ k, szTo s k = sumF (tb s) k
  | 0 => rfl
  | k + 1 => by simp only [szTo, sumF]; rw [szTo_sum s k]
theorem sumW_sum (g : List Nat) (s : Nat) : ∀ k, sumW g s k = sumF (fun v => if s.testBit v = true then wtn g v s else 0) k
  | 0 => rfl
  | k + 1 => by simp only [sumW, sumF]; rw [sumW_sum g s k]
/-- the edge from v to x, from the side t, both in s -/
def arc (g : List Nat) (s t v x : Nat) : Nat := if s.testBit v = true ∧ s.testBit x = true ∧ (g[v]?.getD 0).testBit x = true ∧ t.testBit v = true then 1 else 0
theorem two_room {g : List Nat} {n s t d : Nat} (U : Und g n) (hn : n ≤ 16) (T : TwoCol g t) (hd : ∀ v, v < n → size (g[v]?.getD 0) ≤ d) (hs : ∀ v, s.testBit v = true → v < n) (hodd : size s % 2 = 1) : sumW g s n ≤ d * (size s - 1) := by
  -- both directions of each edge
  have h1 : sumW g s n ≤ sumF (fun v => sumF (fun x => arc g s t v x + arc g s t x v) 64) 64 := by
    rw [sumW_sum]
    refine Nat.le_trans (sumF_le (h := fun v => sumF (fun x => arc g s t v x + arc g s t x v) 64) fun v hv => ?_) (by have := sumF_mono (f := fun v => sumF (fun x => arc g s t v x + arc g s t x v) 64) (m := n) (64 - n); rwa [show n + (64 - n) = 64 by omega] at this)
    by_cases hb : s.testBit v = true
    · rw [if_pos hb]
      unfold wtn size
      rw [szTo_sum]
      refine sumF_le fun x _ => ?_
      unfold tb
      rw [Nat.testBit_and]
      by_cases h2 : (g[v]?.getD 0).testBit x = true
      · by_cases h3 : s.testBit x = true
        · have h4 := U.sym v x h2
          have h5 := T v x h2
          rw [h2, h3]
          unfold arc
          by_cases h6 : t.testBit v = true
          · rw [if_pos ⟨hb, h3, h2, h6⟩]; simp
          · have h7 : t.testBit x = true := by
              cases e : t.testBit x with
              | true => rfl
              | false => exact absurd (by rw [e]; simpa using h6) h5
            rw [if_pos (c := s.testBit x = true ∧ s.testBit v = true ∧ (g[x]?.getD 0).testBit v = true ∧ t.testBit x = true) ⟨h3, hb, h4, h7⟩]; simp
        · rw [show s.testBit x = false by simpa using h3]; simp
      · rw [show (g[v]?.getD 0).testBit x = false by simpa using h2]; simp
    · rw [if_neg hb]; exact Nat.zero_le _
  have h2 : sumF (fun v => sumF (fun x => arc g s t v x + arc g s t x v) 64) 64 = 2 * sumF (fun v => sumF (arc g s t v) 64) 64 := by
    rw [sumF_congr (h := fun v => sumF (arc g s t v) 64 + sumF (fun x => arc g s t x v) 64) fun v _ => sumF_add _ _ 64, sumF_add, sumF_swap (fun v x => arc g s t x v) 64 64]
    show sumF (fun v => sumF (arc g s t v) 64) 64 + sumF (fun v => sumF (arc g s t v) 64) 64 = _
    omega
  have h3 : sumF (fun v => sumF (arc g s t v) 64) 64 ≤ d * sumF (fun v => if s.testBit v = true ∧ t.testBit v = true then 1 else 0) 64 := by
    rw [← sumF_mul]
    refine sumF_le fun v _ => ?_
    by_cases hc : s.testBit v = true ∧ t.testBit v = true
    · rw [if_pos hc, Nat.mul_one]
      refine Nat.le_trans ?_ (hd v (hs v hc.1))
      unfold size
      rw [szTo_sum]
      refine sumF_le fun x _ => ?_
      unfold arc tb
      split
      · rename_i h; rw [h.2.2.1]; simp
      · exact Nat.zero_le _
    · have e0 : sumF (arc g s t v) 64 = 0 := (sumF_congr (h := fun _ => 0) fun x _ => by unfold arc; exact if_neg fun h => hc ⟨h.1, h.2.2.2⟩).trans (sumF_zero 64)
      rw [e0]; exact Nat.zero_le _
  have h4 : sumF (fun v => sumF (arc g s t v) 64) 64 ≤ d * sumF (fun x => if s.testBit x = true ∧ ¬ t.testBit x = true then 1 else 0) 64 := by
    rw [sumF_swap, ← sumF_mul]
    refine sumF_le fun x _ => ?_
    by_cases hc : s.testBit x = true ∧ ¬ t.testBit x = true
    · rw [if_pos hc, Nat.mul_one]
      refine Nat.le_trans ?_ (hd x (hs x hc.1))
      unfold size
      rw [szTo_sum]
      refine sumF_le fun v _ => ?_
      unfold arc tb
      split
      · rename_i h; rw [show (g[x]?.getD 0).testBit v = true from U.sym v x h.2.2.1]; simp
      · exact Nat.zero_le _
    · have e0 : sumF (fun i => arc g s t i x) 64 = 0 := (sumF_congr (h := fun _ => 0) fun v _ => by unfold arc; exact if_neg fun h => hc ⟨h.2.1, fun h' => T v x h.2.2.1 (by rw [h', h.2.2.2])⟩).trans (sumF_zero 64)
      rw [e0]; exact Nat.zero_le _
  have h5 : size s = sumF (fun v => if s.testBit v = true ∧ t.testBit v = true then 1 else 0) 64 + sumF (fun x => if s.testBit x = true ∧ ¬ t.testBit x = true then 1 else 0) 64 := by
    rw [← sumF_add]
    unfold size
    rw [szTo_sum]
    refine sumF_congr fun v _ => ?_
    unfold tb
    cases s.testBit v <;> cases t.testBit v <;> simp
  generalize sumF (fun v => if s.testBit v = true ∧ t.testBit v = true then 1 else 0) 64 = A at *
  generalize sumF (fun x => if s.testBit x = true ∧ ¬ t.testBit x = true then 1 else 0) 64 = B at *
  generalize sumF (fun v => sumF (arc g s t v) 64) 64 = e at *
  rw [h2] at h1
  by_cases hAB : A ≤ B
  · have : 2 * A ≤ size s - 1 := by omega
    have h6 := Nat.mul_le_mul_left d this
    have : d * (2 * A) = 2 * (d * A) := by rw [Nat.mul_left_comm]
    omega
  · have : 2 * B ≤ size s - 1 := by omega
    have h6 := Nat.mul_le_mul_left d this
    have : d * (2 * B) = 2 * (d * B) := by rw [Nat.mul_left_comm]
    omega
/-- the hues at a vertex are as many as its edges -/
theorem deg_hues {g : List Nat} {n k : Nat} {us : Nat → Nat} {col : Nat × Nat → Option Nat} (U : Und g n) (H : HInv g us col) (hall : ∀ x y, adj g x y → ∃ h, col (ed x y) = some h ∧ h < k) (u : Nat) : size (g[u]?.getD 0) ≤ k := by
  have hm : ∀ x ∈ bl (g[u]?.getD 0) 64, ∃ h, col (ed u x) = some h ∧ h < k := fun x hx => hall u x (mem_bl.1 hx).2
  have hnd : ((bl (g[u]?.getD 0) 64).map fun x => (col (ed u x)).getD 0).Nodup := by
    unfold List.Nodup
    rw [List.pairwise_map]
    refine List.Pairwise.imp_of_mem ?_ (bl_pair (g[u]?.getD 0) 64)
    intro x y hx hy hxy e
    obtain ⟨h, hx1, -⟩ := hm x hx
    obtain ⟨h', hy1, -⟩ := hm y hy
    rw [hx1, hy1] at e
    simp only [Option.getD_some] at e
    subst e
    have := H.inj u x y h hx1 hy1
    omega
  have := nodup_sub _ (List.range k) hnd fun z hz => by
    obtain ⟨x, hx, rfl⟩ := List.mem_map.1 hz
    obtain ⟨h, hx1, hk⟩ := hm x hx
    rw [hx1, List.mem_range]; exact hk
  rw [List.length_map, List.length_range, bl_size] at this
  exact this
/-- the greatest hue and one -/
def mxH (f : Nat → Int) : Nat → Int
  | 0 => 0
  | j + 1 => max (mxH f j) (f j + 1)
theorem mxH_ge {f : Nat → Int} : ∀ {m j : Nat}, j < m → f j + 1 ≤ mxH f m
  | 0, j, h => by omega
  | m + 1, j, h => by
    unfold mxH
    by_cases e : j = m
    · subst e; omega
    · have := mxH_ge (f := f) (m := m) (j := j) (by omega)
      omega
theorem mxH_le {f : Nat → Int} {D : Int} (h0 : 0 ≤ D) : ∀ {m : Nat}, (∀ j, j < m → f j + 1 ≤ D) → mxH f m ≤ D
  | 0, _ => h0
  | m + 1, h => by
    have := mxH_le h0 (m := m) fun j hj => h j (by omega)
    have := h m (by omega)
    unfold mxH; omega
theorem mxH_nonneg {f : Nat → Int} : ∀ {m : Nat}, 0 ≤ mxH f m
  | 0 => Int.le_refl _
  | m + 1 => by
    have := mxH_nonneg (f := f) (m := m)
    unfold mxH; omega
theorem konig_plain {n : Nat} {ps : List (Int × Int)} {us : Nat → Nat} {col : Nat × Nat → Option Nat} (hn1 : 1 ≤ n) (hn : n ≤ 16) (hok : edgesB n ps = true) (H : HInv (ofE n ps) us col) (hall : ∀ q ∈ ps, col (pr q) ≠ none) : (dgTo (ofE n ps) 16 : Int) ≤ mxH (hf col ps) ps.length := by
  have h0 := mxH_nonneg (f := hf col ps) (m := ps.length)
  have := dgTo_most (ofE n ps) (mxH (hf col ps) ps.length).toNat 16 fun u _ => deg_hues (und_ofE hok) H (k := (mxH (hf col ps) ps.length).toNat) (fun x y ha => by
    obtain ⟨q, hq, hxy⟩ := (adj_ofE hok x y).1 ha
    obtain ⟨j, hj, hjq⟩ := List.getElem_of_mem hq
    have hqa : qa ps j = q := by unfold qa; rw [List.getElem?_eq_getElem hj, hjq]; rfl
    have hb := edgesB_mem hok q hq
    have hed : pr q = ed x y := by
      unfold pr ed
      rcases hxy with ⟨h1, h2⟩ | ⟨h1, h2⟩
      · rw [h1, h2, Nat.min_eq_left (by omega), Nat.max_eq_right (by omega)]
      · rw [h1, h2, Nat.min_eq_right (by omega), Nat.max_eq_left (by omega)]
    obtain ⟨h, hh⟩ := Option.ne_none_iff_exists'.1 (hall q hq)
    refine ⟨h, hed ▸ hh, ?_⟩
    have h1 := mxH_ge (f := hf col ps) hj
    unfold hf at h1
    rw [hqa, hh] at h1
    simp only [Option.getD_some] at h1
    unfold hf at *
    omega) u
  omega
theorem few_upper {ps : List (Int × Int)} {col : Nat × Nat → Option Nat} {D : Nat} (hall : ∀ q ∈ ps, col (pr q) ≠ none) (h : ∀ q ∈ ps, ∀ x, col (pr q) = some x → x < D) : mxH (hf col ps) ps.length ≤ (D : Int) :=
  mxH_le (by omega) fun j hj => by have := hf_below hall h j hj; omega
theorem few_two {m c : Nat} {qs : List (Int × Int)} {a : Option Addr} {w : World} {s : Nat} {col : Nat × Nat → Option Nat} (hT : Tab w) (hG : Good m qs a w) (T : TwoCol (ofE m qs) s)
    (h : (∀ q ∈ qs, ∀ h, col (pr q) = some h → h < dgTo (ofE m qs) 16) ∨ ((∀ q ∈ qs, ∀ h, col (pr q) = some h → h ≤ dgTo (ofE m qs) 16) ∧ ((∃ s, s < pw m ∧ Over (ofE m qs) m (dgTo (ofE m qs) 16) s) ∨ ¬ ∃ col, HueOK (ofE m qs) qs (fun _ => low (dgTo (ofE m qs) 16)) col))) : ∀ q ∈ qs, ∀ h, col (pr q) = some h → h < dgTo (ofE m qs) 16 := by
  rcases h with h | ⟨-, ⟨t, ht, ho⟩ | hn⟩
  · exact h
  · have hdl : ∀ v, v < m → size ((ofE m qs)[v]?.getD 0) ≤ dgTo (ofE m qs) 16 := fun v hv => dgTo_le _ 16 v (by have := hG.n2; omega)
    have hts : ∀ v, t.testBit v = true → v < m := fun v hv => Classical.byContradiction fun hc => by
      have h1 : t < 2 ^ v := Nat.lt_of_lt_of_le ht (Nat.pow_le_pow_right (by decide) (by omega))
      rw [Nat.testBit_lt_two_pow h1] at hv
      cases hv
    have := two_room (und_ofE hG.ok) hG.n2 T hdl hts ho.1
    have := ho.2
    omega
  · refine absurd ?_ hn
    obtain ⟨e, w', _, ⟨hR, -⟩, -⟩ := Konig_ok m a c qs w hT hG []
    rcases hR with ⟨-, hS⟩ | ⟨v, us, col', s', -, -, -, hI, hd, hall⟩
    · rcases hS with ⟨h1, -⟩ | ⟨-, -, h1⟩
      · cases h1
      · exact absurd T (h1 s)
    · refine ⟨col', ⟨us, hI⟩, fun i hi => ?_⟩
      have hm : qa qs i ∈ qs := by unfold qa; rw [List.getElem?_eq_getElem hi]; exact List.getElem_mem hi
      obtain ⟨h, hh⟩ := Option.ne_none_iff_exists'.1 (hall _ hm)
      exact ⟨h, hh, by rw [low_bit]; have := hd _ _ hh; simpa using this⟩
end Go.Proofs.YtpknnjcbcndbbaaDoor
namespace Go.Proofs.YtpknnjcbcndbbaaDoor
open Go.RowKit Go.Shelf

/-- before, by the first number, then by the second -/
def Lx (p q : Int × Int) : Prop := p.1 < q.1 ∨ (p.1 = q.1 ∧ p.2 < q.2)
theorem edgesB_iff {n : Int} {ps : List (Int × Int)} : edgesB n ps = true ↔ (∀ e ∈ ps, 0 ≤ e.1 ∧ e.1 < e.2 ∧ e.2 < n) ∧ ps.Pairwise Lx := by
  constructor
  · intro h
    refine ⟨edgesB_mem h, ?_⟩
    rw [List.pairwise_iff_getElem]
    intro i j hi hj hij
    have := edgesB_lt h (j - i - 1) i (by omega)
    rw [show i + (j - i - 1 + 1) = j by omega, List.getElem?_eq_getElem hi, List.getElem?_eq_getElem hj] at this
    exact this
  · rintro ⟨h1, h2⟩
    unfold edgesB
    rw [List.all_eq_true]
    intro k hk
    rw [List.mem_range] at hk
    have g1 := h1 ps[k] (List.getElem_mem hk)
    unfold badAt
    rw [List.getElem?_eq_getElem hk]
    simp only [Option.getD_some]
    by_cases h0 : 0 < k
    · have g2 := (List.pairwise_iff_getElem.1 h2) (k - 1) k (by omega) hk (by omega)
      rw [List.getElem?_eq_getElem (show k - 1 < ps.length by omega)]
      unfold Lx at g2
      simp only [Option.getD_some]
      simp
      omega
    · simp
      omega
theorem edgesB_sub {n : Int} {ps qs : List (Int × Int)} (hs : qs.Sublist ps) (h : edgesB n ps = true) : edgesB n qs = true := by
  obtain ⟨h1, h2⟩ := edgesB_iff.1 h
  exact edgesB_iff.2 ⟨fun e he => h1 e (hs.subset he), h2.sublist hs⟩
theorem ofE_two {n : Nat} {ps : List (Int × Int)} {s : Nat} (h : edgesB n ps = true) (ho : ∀ e ∈ ps, s.testBit e.1.toNat ≠ s.testBit e.2.toNat) : TwoCol (ofE n ps) s := fun x y ha => by
  obtain ⟨e, he, h1 | h1⟩ := (adj_ofE h x y).1 ha
  · rw [← h1.1, ← h1.2]; exact ho e he
  · rw [← h1.1, ← h1.2]; exact (ho e he).symm
def evens : Nat := 21845
theorem evens_bit {x : Nat} (hx : x < 16) : evens.testBit x = decide (x % 2 = 0) := by
  have : ∀ x, x < 16 → evens.testBit x = decide (x % 2 = 0) := by decide
  exact this x hx
def oddSum (q : Int × Int) : Bool := (q.1 + q.2) % 2 == 1
theorem odd_two {n : Nat} {ps : List (Int × Int)} (hn : n ≤ 16) (h : edgesB n ps = true) (ho : ∀ e ∈ ps, oddSum e = true) : TwoCol (ofE n ps) evens :=
  ofE_two h fun e he => by
    have h1 := edgesB_mem h e he
    have h2 := ho e he
    unfold oddSum at h2
    rw [beq_iff_eq] at h2
    rw [evens_bit (by omega), evens_bit (by omega)]
    intro hc
    rw [decide_eq_decide] at hc
    omega
set_option maxRecDepth 100000 in
set_option maxHeartbeats 2000000 in
theorem sided_any (n : Int) (a : Option Addr) (cap : Nat) (ps : List (Int × Int)) (most : Nat) (w : World) (h : PairsIn w a cap ps) (hm1 : 1 ≤ most) (hm2 : most ≤ 16) :
    Calls Tryd.prog 31 #[.int .i64 n, .slice a ps.length cap, .int .i64 most] w fun e w' => ∃ (m : Nat) (qs : List (Int × Int)) (a' : Option Addr) (c' : Nat), e = .returned (.tuple #[.int .i64 m, .slice a' qs.length c']) ∧ m ≤ most ∧ Good m qs a' w' ∧ TwoCol (ofE m qs) evens ∧ Below w.heap.size w w' := by
  obtain ⟨i0, hi, hz0, hz1, hz2⟩ := info_parts info49
  have HTM := Lib.hid (tame_any n a cap ps most w h hm1 hm2)
  clear h
  go_enter Tryd.func31, Tryd.ntmps31
  go_upto_region 2 with (go_at_call 14; refine (HTM.out).mono ?_; rintro e w1 ⟨m, qs, a1, c1, rfl, hm, hG1, hB1⟩; have HG1 := Lib.hid hG1; have HB1 := Lib.hid hB1; clear hG1 hB1)
  have hlen := HG1.out.hl
  clear HTM
  go_upto_region 4 with (fail)
  go_loopw [9, 10] (fun s9 s10 wr => ∃ (j : Nat) (os : List (Int × Int)), j ≤ qs.length ∧ s10 = .int .i64 (j : Int) ∧ Hid (os = (qs.take j).filter oddSum) ∧ QRow wr w1.heap.size 72 2 s9 os.length (pairCells os) ∧ Hid (Below w1.heap.size w1 wr)) (fun _ s10 _ => qs.length - (intOf s10).toNat)
  case atStart => exact ⟨0, [], by omega, rfl, rfl, QRow.nil _ _ _ _, Below.refl _ _⟩
  case round =>
    obtain ⟨j, os, hj, rfl, hos, hq, hB⟩ := hrel
    obtain ⟨p9, c9, rfl⟩ := hq.isSlice
    by_cases hjl : j < qs.length
    · have h1 : (j : Int) < (qs.length : Int) := by omega
      have h0 : (0 : Int) ≤ (j : Int) := by omega
      obtain ⟨eb, eo, rfl, helt, hec⟩ := HG1.out.hg (fun e => by rw [e] at hjl; simp at hjl)
      have hk0 := hec j hjl
      have he := edgesB_at HG1.out.ok j hjl
      obtain ⟨x, hx⟩ := Int.eq_ofNat_of_zero_le he.1
      obtain ⟨y, hy⟩ := Int.eq_ofNat_of_zero_le (show 0 ≤ (qs[j]?.getD (0, 0)).2 by omega)
      have hn16 := HG1.out.n2
      have hqe : qs[j]?.getD (0, 0) = ((x : Int), (y : Int)) := Prod.ext hx hy
      have htk : (qs.take (j + 1)).filter oddSum = os ++ (if oddSum ((x : Int), (y : Int)) = true then [((x : Int), (y : Int))] else []) := by
        rw [List.take_succ_eq_append_getElem hjl, List.filter_append, hos.out]
        have e : qs[j] = ((x : Int), (y : Int)) := by rw [← hqe, List.getElem?_eq_getElem hjl]; rfl
        rw [e]
        congr 1
        simp only [List.filter_cons, List.filter_nil]
      rw [hqe] at hk0 he
      have hosl : os.length ≤ j := by
        rw [hos.out]
        exact Nat.le_trans (List.length_filter_le _ _) (by rw [List.length_take]; omega)
      have k1 := (hB.out.cell (p := ⟨eb, eo + j * 2, none⟩) helt).trans hk0.1
      have k2 := (hB.out.cell (p := ⟨eb, eo + j * 2 + 1, none⟩) helt).trans hk0.2
      have HTK := Lib.hid htk
      have HQ := Lib.hid hq
      have hsz := hB.out.size
      have hsz1 := HB1.out.size
      have hx16 : x < 16 := by simp only at he; omega
      have hy16 : y < 16 := by simp only at he; omega
      clear hec hk0 he hx hy hqe htk hq
      simp only at k1 k2
      have K1 := Lib.hid k1
      have K2 := Lib.hid k2
      by_cases hod : ((x : Int) + (y : Int)) % 2 = 1
      · have ho : oddSum ((x : Int), (y : Int)) = true := by unfold oddSum; rw [beq_iff_eq]; exact hod
        have HNX : Hid (os ++ [((x : Int), (y : Int))] = (qs.take (j + 1)).filter oddSum) := by rw [Hid, HTK.out, if_pos ho]
        have e1 : (((x : Int) + (y : Int)) % 2 == 1) = true := by rw [beq_iff_eq]; exact hod
        clear ho hod HTK
        go_upto_region 6 with (fail)
        go_region
        clear k1 k2
        have hBD : Below w1.heap.size w1 wr.drew := hB.out.drew
        have HBD := Lib.hid hBD
        have hk1 : wr.drew.cell? ⟨eb, eo + j * 2, none⟩ = some (.int .i64 (x : Int)) := K1.out
        have hk2 : wr.drew.cell? ⟨eb, eo + j * 2 + 1, none⟩ = some (.int .i64 (y : Int)) := K2.out
        have HQD : Hid (QRow wr.drew w1.heap.size 72 2 (.slice p9 os.length c9) os.length (pairCells os)) := HQ.out
        have hszd : w1.heap.size ≤ wr.drew.heap.size := hsz
        generalize wr.drew = Z at *
        have hqa := HQD.out.alloc (.cells #[.int .i64 (x : Int), .int .i64 (y : Int)] 72)
        have HQA := Lib.hid hqa
        have HLT := Lib.hid (fun k e => (hqa.lt k e).1)
        clear hqa hBD
        go_wp2_with (at_builtin; go_must (refine wpList_append_q _ rfl (.tmp 37) (.tmp 42) 22 rfl w1.heap.size 72 i0 _ 2 16 Tryd.underlying22 hi hz0 hz1 hz2 rfl (by decide) _ os.length (pairCells os) rfl HQA.out ⟨Z.heap.size, 0, none⟩ 1 1 [.int .i64 (x : Int), .int .i64 (y : Int)] rfl rfl (cells_newB _ _ _ _) (by simp [Value.oneCell']) (by unfold maxLen; omega) (by omega) (by simp; omega) ?_); intro v' w' hq' hgr hbl; have HQ' : Hid (QRow w' w1.heap.size 72 2 v' (os ++ [((x : Int), (y : Int))]).length (pairCells (os ++ [((x : Int), (y : Int))]))) := (by rw [Hid, List.length_append, pairCells_snoc]; exact hq'); have HB' : Hid (Below w1.heap.size w1 w') := Below.grown (HBD.out.alloc hszd _) hgr (by simp; omega) (fun k hk => HLT.out k hk); clear hq' hgr hbl)
        exact ⟨⟨j + 1, _, by omega, int_eq (by omega), HNX, HQ'.out, HB'⟩, by simp [intOf]; omega⟩
      · have ho : ¬ oddSum ((x : Int), (y : Int)) = true := by unfold oddSum; rw [beq_iff_eq]; exact hod
        have HNX : Hid (os = (qs.take (j + 1)).filter oddSum) := by rw [Hid, HTK.out, if_neg ho, List.append_nil]
        have e1 : (((x : Int) + (y : Int)) % 2 == 1) = false := by rw [beq_eq_false_iff_ne]; exact hod
        clear ho hod HTK
        go_upto_region 6 with (fail)
        go_region
        go_wp2
        exact ⟨⟨j + 1, os, by omega, int_eq (by omega), HNX, HQ.out, hB.out.drew⟩, by simp [intOf]; omega⟩
    · have h1 : ¬ (j : Int) < (qs.length : Int) := by omega
      have hje : j = qs.length := by omega
      have HO : Hid (os = qs.filter oddSum) := by rw [Hid, hos.out, hje, List.take_length]
      have HQ := Lib.hid hq
      clear hq hje
      go_wp2
      refine bodyPost_ret (v := .tuple #[.int .i64 (m : Nat), .slice p9 os.length c9]) (by simp [results, Tryd.f31, go_sem]) rfl ?_
      have hok : edgesB m os = true := by rw [HO.out]; exact edgesB_sub List.filter_sublist HG1.out.ok
      have hle : os.length ≤ qs.length := by rw [HO.out]; exact List.length_filter_le _ _
      refine ⟨m, os, p9, ⟨c9, rfl⟩, hm, ⟨by omega, fun hne => ?_, HG1.out.n1, HG1.out.n2, hok⟩, odd_two HG1.out.n2 hok (fun e he => ?_), HB1.out.trans (hB.out.mono HB1.out.size)⟩
      · obtain ⟨gb, o, cap', e, h1, h2, h3, h4, h5, h6⟩ := HQ.out.at (List.length_pos_iff.2 hne)
        cases e
        refine ⟨gb, o, rfl, h2, fun j hj => ?_⟩
        have := pairCells_get os j hj
        exact ⟨(h5 (j * 2) (by omega)).trans this.1, (h5 (j * 2 + 1) (by omega)).trans this.2⟩
      · rw [HO.out] at he; exact (List.mem_filter.1 he).2
end Go.Proofs.YtpknnjcbcndbbaaDoor
namespace Go.Proofs.YtpknnjcbcndbbaaDoor
open Go.RowKit Go.Shelf

set_option maxRecDepth 100000 in
set_option maxHeartbeats 4000000 in
theorem law11 (n : Int) (a : Option Addr) (cap : Nat) (ps : List (Int × Int)) (z : Bool) (w : World) (h : PairsIn w a cap ps) (hT : Tab w) :
    Calls Tryd.prog 11 #[.int .i64 n, .slice a ps.length cap, .bool z] w fun e w' => e = .returned (.bool true) ∧ Below w.heap.size w w' := by
  have HT := Lib.hid hT
  have HTM := Lib.hid (tame_any n a cap ps 8 w h (by decide) (by decide))
  have HSD := Lib.hid (fun W (hW : Below w.heap.size w W) (k : Nat) => sided_any (k : Int) a cap ps 8 W ⟨h.g.below hW (Nat.le_refl _), h.fits, h.capm, h.nil⟩ (by decide) (by decide))
  clear h hT
  cases z with
  | false =>
    clear HSD
    go_enter Tryd.func11, Tryd.ntmps11
    go_upto_region 4 with (go_at_call 14; refine (HTM.out).mono ?_; rintro e w1 ⟨m, qs, a1, c1, rfl, hm, hG1, hB1⟩; have HG1 := Lib.hid hG1; have HB1 := Lib.hid hB1; clear hG1 hB1)
    clear HTM
    have hn1 := HG1.out.n1
    have hn2 := HG1.out.n2
    have hlen := HG1.out.hl
    have HT1 := Lib.hid (HT.out.below HB1.out (Nat.le_refl _))
    have HE := Lib.hid (edgesOK HG1.out.n2 HG1.out.ok)
    have HU := Lib.hid (und_ofE HG1.out.ok)
    have HDG := Lib.hid (Degree_okC m a1 c1 qs w1 HG1.out)
    have HFW := Lib.hid (fun W hT hG => Fewest_ok m a1 c1 qs W hT hG hm)
    have HSI := Lib.hid (fun W hT hG => Sides_ok m a1 c1 qs W hT hG)
    have HOD := Lib.hid (fun W hT hG => OddRing_ok m a1 c1 qs W hT hG)
    have HIP : Hid (∀ W p c f, Below w1.heap.size w1 W → SrcI W p qs.length f → (∀ j, 0 ≤ f j) → ProperI qs f → Calls Tryd.prog 35 #[.int .i64 (m : Int), .slice a1 qs.length c1, .slice p qs.length c] W fun e w' => e = .returned (.tuple #[.bool true, .int .i64 0]) ∧ Below W.heap.size W w') := fun W p c f hW hs h0 hp => by
      refine (IsProper_ok m a1 p c1 qs.length c qs f W (HG1.out.below hW) hlen hs).mono ?_
      rintro e w' ⟨⟨b, c, rfl, h⟩, hB⟩
      rcases h with ⟨_, _, hn⟩ | ⟨rfl, _, hb⟩
      · exact absurd ⟨fun j _ => h0 j, rfl⟩ hn
      · rw [hb.2 hp]; exact ⟨rfl, hB⟩
    have HKP := Lib.hid (fun us col H hall => konig_plain (us := us) (col := col) hn1 hn2 HG1.out.ok H hall)
    have HTW := Lib.hid (fun s col T h => few_two (c := c1) (s := s) (col := col) HT1.out HG1.out T h)
    have HSV := Lib.hid (fun W (hW : Below w1.heap.size w1 W) => HG1.out.below hW)
    have HTB : Hid (∀ W, Below w1.heap.size w1 W → Tab W) := fun W hW => HT1.out.below hW (Nat.le_refl _)
    obtain ⟨len, HL⟩ : ∃ len, Hid (qs.length = len) := ⟨_, rfl⟩
    rw [HL.out] at HDG HFW HSI HOD HIP HKP hlen ⊢
    obtain ⟨g, hg⟩ : ∃ g, Hid (g = ofE m qs) := ⟨_, rfl⟩
    rw [← hg.out] at HE HU HDG HFW HSI HOD HKP HTW
    obtain ⟨d, hd⟩ : ∃ d, Hid (d = dgTo g 16) := ⟨_, rfl⟩
    rw [← hd.out] at HDG HKP HTW
    have hd64 : d ≤ 64 := by rw [hd.out]; exact dgTo_le64 g 16
    go_upto_region 5 with (go_at_call 48; refine HDG.out.mono ?_; rintro e w2 ⟨rfl, hB2⟩; have HB2 := Lib.hid hB2; clear hB2)
    have HF2 := Lib.hid (HFW.out w2 (HTB.out _ HB2.out) (HSV.out _ HB2.out))
    clear HDG HFW
    go_upto_region 6 with (go_at_call 15; refine HF2.out.mono ?_; rintro e w3 ⟨⟨v3, us, col, rfl, hq3, hi3, ha3, hb3⟩, hB3⟩; obtain ⟨p3, c3, rfl⟩ := hq3.isSlice; have HQ3 := Lib.hid hq3; have HI3 := Lib.hid hi3; have HA3 := Lib.hid ha3; have HF3 := Lib.hid hb3; have HB3 := Lib.hid (HB2.out.trans (hB3.mono HB2.out.size)); clear hq3 hi3 ha3 hb3 hB3)
    rw [HL.out]
    rw [← hd.out] at HF3
    have HS3 := Lib.hid (HQ3.out.srcI (hl_get col qs))
    have HS4 := Lib.hid (HSI.out w3 (HTB.out _ HB3.out) (HSV.out _ HB3.out))
    clear HF2 HSI
    go_upto_region 7 with (go_at_call 32; refine HS4.out.mono ?_; rintro e w4 ⟨⟨s4, two, rfl, hs4⟩, hB4⟩; have HR4 := Lib.hid hs4; have HX4 := Lib.hid hB4; have HB4 := Lib.hid (HB3.out.trans (hB4.mono HB3.out.size)); clear hs4 hB4)
    have HO4 := Lib.hid (HOD.out w4 (HTB.out _ HB4.out) (HSV.out _ HB4.out))
    clear HS4 HOD
    go_upto_region 8 with (go_at_call 33; refine HO4.out.mono ?_; rintro e w5 ⟨⟨v5, l5, s5, is5, rfl, hs5, hq5, -, -⟩, hB5⟩; obtain ⟨p5, c5, rfl⟩ := hq5.isSlice; have HR5 := Lib.hid hs5; have HX5 := Lib.hid (HX4.out.trans (hB5.mono HX4.out.size)); have HB5 := Lib.hid (HB4.out.trans (hB5.mono HB4.out.size)); clear hs5 hq5 hB5)
    have htw : two = !is5 := (SidesR.unique HU.out HR4.out HR5.out).2
    obtain ⟨f, hf⟩ : ∃ f, Hid (f = Go.Proofs.YtpknnjcbcndbbaaDoor.hf col qs) := ⟨_, rfl⟩
    have b1 : (d : Int) ≤ mxH f len := by rw [hf.out]; exact HKP.out us col HI3.out HA3.out
    have b2 : mxH f len ≤ (d : Int) + 1 := by
      rw [hf.out, ← HL.out]
      refine few_upper (D := d + 1) HA3.out fun q hq x hx => ?_
      rcases HF3.out with h | ⟨h, -⟩
      · have := h q hq x hx; have := hd.out; omega
      · have := h q hq x hx; have := hd.out; omega
    have b3 : two = true → mxH f len = (d : Int) := fun h2 => by
      subst h2
      rcases HR4.out with ⟨-, T, -⟩ | ⟨h, -⟩
      · have h3 := HTW.out s4 col T HF3.out
        have h4 := few_upper (D := d) HA3.out h3
        rw [← hf.out, HL.out] at h4
        exact Int.le_antisymm h4 b1
      · cases h
    have HSF : Hid (SrcI w5 p3 len f) := by
      have := HS3.out
      rw [HL.out, ← hf.out] at this
      exact this.below HX5.out (Nat.le_refl _)
    have HPF : Hid (ProperI qs f) := by rw [hf.out]; exact proper_of HE.out HI3.out HA3.out
    have HNN : Hid (∀ j, 0 ≤ f j) := by rw [hf.out]; exact hf_nonneg col qs
    have HBW5 := Lib.hid (HB1.out.trans (HB5.out.mono HB1.out.size))
    have t1 : ((len : Int) != (len : Int)) = false := by simp
    have t2 : (two == is5) = false := by rw [htw]; cases is5 <;> rfl
    clear hf HF3 HI3 HA3 HR4 HR5 HTW HKP HO4 HS3 HQ3 HE HSV hg HG1 HT1 hd
    go_upto_region 12 with (fail)
    clear t1 t2
    go_loopw [18, 19] (fun s18 s19 wr => ∃ k : Nat, k ≤ len ∧ s19 = .int .i64 (k : Int) ∧ s18 = .int .i64 (mxH f k) ∧ Hid (wr = w5)) (fun _ s19 _ => len - (intOf s19).toNat)
    case atStart => exact ⟨0, by omega, rfl, rfl, rfl⟩
    case round =>
      obtain ⟨k, hk, rfl, rfl, hwr⟩ := hrel
      have hwe := hwr.out
      subst hwe
      by_cases hkl : k < len
      · have g1 : (k : Int) < (len : Int) := by omega
        obtain ⟨b, o, e3, hb, hc⟩ := HSF.out (by omega)
        subst e3
        have r0 := hc k hkl
        have hfk : f k + 1 ≤ (d : Int) + 1 := by have := mxH_ge (f := f) hkl; omega
        have hf0 := HNN.out k
        have hwx : wrap64 (f k + 1) = f k + 1 := IntWalk.wrap64_in _ (by omega)
        have hmx : mxH f (k + 1) = max (mxH f k) (f k + 1) := rfl
        have HMX := Lib.hid hmx
        clear hc hmx
        go_wp2
        exact ⟨⟨k + 1, by omega, int_eq (by omega), int_eq HMX.out.symm, True.intro⟩, by simp [intOf]; omega⟩
      · have g1 : ¬ (k : Int) < (len : Int) := by omega
        obtain rfl : k = len := by omega
        have HC := Lib.hid (HIP.out wr p3 c3 f HB5.out HSF.out HNN.out HPF.out)
        have HAW : Hid (∀ W, Below wr.heap.size wr W → Calls Tryd.prog 16 #[] W fun e w' => e = .returned (.bool true) ∧ Below W.heap.size W w') := fun W hW => awake_any W (HT.out.below (HBW5.out.trans (hW.mono HBW5.out.size)) (Nat.le_refl _))
        generalize mxH f k = M at *
        have HEND : Hid (∀ W, Below wr.heap.size wr W → Below w.heap.size w W) := fun W hW => HBW5.out.trans (hW.mono HBW5.out.size)
        have t3 : (M == (d : Int)) = true ∨ two = false := by
          cases two with
          | true => left; rw [b3 rfl]; simp
          | false => right; rfl
        clear b3 htw HIP
        rcases t3 with t3 | rfl
        · cases two with
          | true =>
            go_wp2_with (first
              | (go_at_call 35; refine (HC.out).mono ?_; rintro e w6 ⟨rfl, hB6⟩; have HB6 := Lib.hid hB6; clear hB6; try dsimp only)
              | (go_at_call 16; refine (HAW.out _ HB6.out).mono ?_; rintro e w7 ⟨rfl, hB7⟩; have HB7 := Lib.hid (HB6.out.trans (hB7.mono HB6.out.size)); clear hB7))
            go_ret
            exact ⟨rfl, HEND.out _ HB7.out⟩
          | false =>
            go_wp2_with (first
              | (go_at_call 35; refine (HC.out).mono ?_; rintro e w6 ⟨rfl, hB6⟩; have HB6 := Lib.hid hB6; clear hB6; try dsimp only)
              | (go_at_call 16; refine (HAW.out _ HB6.out).mono ?_; rintro e w7 ⟨rfl, hB7⟩; have HB7 := Lib.hid (HB6.out.trans (hB7.mono HB6.out.size)); clear hB7))
            go_ret
            exact ⟨rfl, HEND.out _ HB7.out⟩
        · go_wp2_with (first
            | (go_at_call 35; refine (HC.out).mono ?_; rintro e w6 ⟨rfl, hB6⟩; have HB6 := Lib.hid hB6; clear hB6; try dsimp only)
            | (go_at_call 16; refine (HAW.out _ HB6.out).mono ?_; rintro e w7 ⟨rfl, hB7⟩; have HB7 := Lib.hid (HB6.out.trans (hB7.mono HB6.out.size)); clear hB7))
          go_ret
          exact ⟨rfl, HEND.out _ HB7.out⟩
  | true =>
    go_enter Tryd.func11, Tryd.ntmps11
    go_upto_region 3 with (go_at_call 14; refine (HTM.out).mono ?_; rintro e w0 ⟨m0, qs0, a0, c0, rfl, -, -, hB0⟩; have HB0 := Lib.hid hB0; clear hB0)
    have HS := Lib.hid (HSD.out w0 HB0.out m0)
    clear HTM HSD
    go_upto_region 4 with (go_at_call 31; refine HS.out.mono ?_; rintro e w1 ⟨m, qs, a1, c1, rfl, hm, hG1, -, hB1⟩; have HG1 := Lib.hid hG1; have HB1 := Lib.hid (HB0.out.trans (hB1.mono HB0.out.size)); clear hG1 hB1)
    clear HS
    have hn1 := HG1.out.n1
    have hn2 := HG1.out.n2
    have hlen := HG1.out.hl
    have HT1 := Lib.hid (HT.out.below HB1.out (Nat.le_refl _))
    have HE := Lib.hid (edgesOK HG1.out.n2 HG1.out.ok)
    have HU := Lib.hid (und_ofE HG1.out.ok)
    have HDG := Lib.hid (Degree_okC m a1 c1 qs w1 HG1.out)
    have HFW := Lib.hid (fun W hT hG => Fewest_ok m a1 c1 qs W hT hG hm)
    have HSI := Lib.hid (fun W hT hG => Sides_ok m a1 c1 qs W hT hG)
    have HOD := Lib.hid (fun W hT hG => OddRing_ok m a1 c1 qs W hT hG)
    have HIP : Hid (∀ W p c f, Below w1.heap.size w1 W → SrcI W p qs.length f → (∀ j, 0 ≤ f j) → ProperI qs f → Calls Tryd.prog 35 #[.int .i64 (m : Int), .slice a1 qs.length c1, .slice p qs.length c] W fun e w' => e = .returned (.tuple #[.bool true, .int .i64 0]) ∧ Below W.heap.size W w') := fun W p c f hW hs h0 hp => by
      refine (IsProper_ok m a1 p c1 qs.length c qs f W (HG1.out.below hW) hlen hs).mono ?_
      rintro e w' ⟨⟨b, c, rfl, h⟩, hB⟩
      rcases h with ⟨_, _, hn⟩ | ⟨rfl, _, hb⟩
      · exact absurd ⟨fun j _ => h0 j, rfl⟩ hn
      · rw [hb.2 hp]; exact ⟨rfl, hB⟩
    have HKP := Lib.hid (fun us col H hall => konig_plain (us := us) (col := col) hn1 hn2 HG1.out.ok H hall)
    have HTW := Lib.hid (fun s col T h => few_two (c := c1) (s := s) (col := col) HT1.out HG1.out T h)
    have HSV := Lib.hid (fun W (hW : Below w1.heap.size w1 W) => HG1.out.below hW)
    have HTB : Hid (∀ W, Below w1.heap.size w1 W → Tab W) := fun W hW => HT1.out.below hW (Nat.le_refl _)
    obtain ⟨len, HL⟩ : ∃ len, Hid (qs.length = len) := ⟨_, rfl⟩
    rw [HL.out] at HDG HFW HSI HOD HIP HKP hlen ⊢
    obtain ⟨g, hg⟩ : ∃ g, Hid (g = ofE m qs) := ⟨_, rfl⟩
    rw [← hg.out] at HE HU HDG HFW HSI HOD HKP HTW
    obtain ⟨d, hd⟩ : ∃ d, Hid (d = dgTo g 16) := ⟨_, rfl⟩
    rw [← hd.out] at HDG HKP HTW
    have hd64 : d ≤ 64 := by rw [hd.out]; exact dgTo_le64 g 16
    go_upto_region 5 with (go_at_call 48; refine HDG.out.mono ?_; rintro e w2 ⟨rfl, hB2⟩; have HB2 := Lib.hid hB2; clear hB2)
    have HF2 := Lib.hid (HFW.out w2 (HTB.out _ HB2.out) (HSV.out _ HB2.out))
    clear HDG HFW
    go_upto_region 6 with (go_at_call 15; refine HF2.out.mono ?_; rintro e w3 ⟨⟨v3, us, col, rfl, hq3, hi3, ha3, hb3⟩, hB3⟩; obtain ⟨p3, c3, rfl⟩ := hq3.isSlice; have HQ3 := Lib.hid hq3; have HI3 := Lib.hid hi3; have HA3 := Lib.hid ha3; have HF3 := Lib.hid hb3; have HB3 := Lib.hid (HB2.out.trans (hB3.mono HB2.out.size)); clear hq3 hi3 ha3 hb3 hB3)
    rw [HL.out]
    rw [← hd.out] at HF3
    have HS3 := Lib.hid (HQ3.out.srcI (hl_get col qs))
    have HS4 := Lib.hid (HSI.out w3 (HTB.out _ HB3.out) (HSV.out _ HB3.out))
    clear HF2 HSI
    go_upto_region 7 with (go_at_call 32; refine HS4.out.mono ?_; rintro e w4 ⟨⟨s4, two, rfl, hs4⟩, hB4⟩; have HR4 := Lib.hid hs4; have HX4 := Lib.hid hB4; have HB4 := Lib.hid (HB3.out.trans (hB4.mono HB3.out.size)); clear hs4 hB4)
    have HO4 := Lib.hid (HOD.out w4 (HTB.out _ HB4.out) (HSV.out _ HB4.out))
    clear HS4 HOD
    go_upto_region 8 with (go_at_call 33; refine HO4.out.mono ?_; rintro e w5 ⟨⟨v5, l5, s5, is5, rfl, hs5, hq5, -, -⟩, hB5⟩; obtain ⟨p5, c5, rfl⟩ := hq5.isSlice; have HR5 := Lib.hid hs5; have HX5 := Lib.hid (HX4.out.trans (hB5.mono HX4.out.size)); have HB5 := Lib.hid (HB4.out.trans (hB5.mono HB4.out.size)); clear hs5 hq5 hB5)
    have htw : two = !is5 := (SidesR.unique HU.out HR4.out HR5.out).2
    obtain ⟨f, hf⟩ : ∃ f, Hid (f = Go.Proofs.YtpknnjcbcndbbaaDoor.hf col qs) := ⟨_, rfl⟩
    have b1 : (d : Int) ≤ mxH f len := by rw [hf.out]; exact HKP.out us col HI3.out HA3.out
    have b2 : mxH f len ≤ (d : Int) + 1 := by
      rw [hf.out, ← HL.out]
      refine few_upper (D := d + 1) HA3.out fun q hq x hx => ?_
      rcases HF3.out with h | ⟨h, -⟩
      · have := h q hq x hx; have := hd.out; omega
      · have := h q hq x hx; have := hd.out; omega
    have b3 : two = true → mxH f len = (d : Int) := fun h2 => by
      subst h2
      rcases HR4.out with ⟨-, T, -⟩ | ⟨h, -⟩
      · have h3 := HTW.out s4 col T HF3.out
        have h4 := few_upper (D := d) HA3.out h3
        rw [← hf.out, HL.out] at h4
        exact Int.le_antisymm h4 b1
      · cases h
    have HSF : Hid (SrcI w5 p3 len f) := by
      have := HS3.out
      rw [HL.out, ← hf.out] at this
      exact this.below HX5.out (Nat.le_refl _)
    have HPF : Hid (ProperI qs f) := by rw [hf.out]; exact proper_of HE.out HI3.out HA3.out
    have HNN : Hid (∀ j, 0 ≤ f j) := by rw [hf.out]; exact hf_nonneg col qs
    have HBW5 := Lib.hid (HB1.out.trans (HB5.out.mono HB1.out.size))
    have t1 : ((len : Int) != (len : Int)) = false := by simp
    have t2 : (two == is5) = false := by rw [htw]; cases is5 <;> rfl
    clear hf HF3 HI3 HA3 HR4 HR5 HTW HKP HO4 HS3 HQ3 HE HSV hg HG1 HT1 hd
    go_upto_region 12 with (fail)
    clear t1 t2
    go_loopw [18, 19] (fun s18 s19 wr => ∃ k : Nat, k ≤ len ∧ s19 = .int .i64 (k : Int) ∧ s18 = .int .i64 (mxH f k) ∧ Hid (wr = w5)) (fun _ s19 _ => len - (intOf s19).toNat)
    case atStart => exact ⟨0, by omega, rfl, rfl, rfl⟩
    case round =>
      obtain ⟨k, hk, rfl, rfl, hwr⟩ := hrel
      have hwe := hwr.out
      subst hwe
      by_cases hkl : k < len
      · have g1 : (k : Int) < (len : Int) := by omega
        obtain ⟨b, o, e3, hb, hc⟩ := HSF.out (by omega)
        subst e3
        have r0 := hc k hkl
        have hfk : f k + 1 ≤ (d : Int) + 1 := by have := mxH_ge (f := f) hkl; omega
        have hf0 := HNN.out k
        have hwx : wrap64 (f k + 1) = f k + 1 := IntWalk.wrap64_in _ (by omega)
        have hmx : mxH f (k + 1) = max (mxH f k) (f k + 1) := rfl
        have HMX := Lib.hid hmx
        clear hc hmx
        go_wp2
        exact ⟨⟨k + 1, by omega, int_eq (by omega), int_eq HMX.out.symm, True.intro⟩, by simp [intOf]; omega⟩
      · have g1 : ¬ (k : Int) < (len : Int) := by omega
        obtain rfl : k = len := by omega
        have HC := Lib.hid (HIP.out wr p3 c3 f HB5.out HSF.out HNN.out HPF.out)
        have HAW : Hid (∀ W, Below wr.heap.size wr W → Calls Tryd.prog 16 #[] W fun e w' => e = .returned (.bool true) ∧ Below W.heap.size W w') := fun W hW => awake_any W (HT.out.below (HBW5.out.trans (hW.mono HBW5.out.size)) (Nat.le_refl _))
        generalize mxH f k = M at *
        have HEND : Hid (∀ W, Below wr.heap.size wr W → Below w.heap.size w W) := fun W hW => HBW5.out.trans (hW.mono HBW5.out.size)
        have t3 : (M == (d : Int)) = true ∨ two = false := by
          cases two with
          | true => left; rw [b3 rfl]; simp
          | false => right; rfl
        clear b3 htw HIP
        rcases t3 with t3 | rfl
        · cases two with
          | true =>
            go_wp2_with (first
              | (go_at_call 35; refine (HC.out).mono ?_; rintro e w6 ⟨rfl, hB6⟩; have HB6 := Lib.hid hB6; clear hB6; try dsimp only)
              | (go_at_call 16; refine (HAW.out _ HB6.out).mono ?_; rintro e w7 ⟨rfl, hB7⟩; have HB7 := Lib.hid (HB6.out.trans (hB7.mono HB6.out.size)); clear hB7))
            go_ret
            exact ⟨rfl, HEND.out _ HB7.out⟩
          | false =>
            go_wp2_with (first
              | (go_at_call 35; refine (HC.out).mono ?_; rintro e w6 ⟨rfl, hB6⟩; have HB6 := Lib.hid hB6; clear hB6; try dsimp only)
              | (go_at_call 16; refine (HAW.out _ HB6.out).mono ?_; rintro e w7 ⟨rfl, hB7⟩; have HB7 := Lib.hid (HB6.out.trans (hB7.mono HB6.out.size)); clear hB7))
            go_ret
            exact ⟨rfl, HEND.out _ HB7.out⟩
        · go_wp2_with (first
            | (go_at_call 35; refine (HC.out).mono ?_; rintro e w6 ⟨rfl, hB6⟩; have HB6 := Lib.hid hB6; clear hB6; try dsimp only)
            | (go_at_call 16; refine (HAW.out _ HB6.out).mono ?_; rintro e w7 ⟨rfl, hB7⟩; have HB7 := Lib.hid (HB6.out.trans (hB7.mono HB6.out.size)); clear hB7))
          go_ret
          exact ⟨rfl, HEND.out _ HB7.out⟩
end Go.Proofs.YtpknnjcbcndbbaaDoor
