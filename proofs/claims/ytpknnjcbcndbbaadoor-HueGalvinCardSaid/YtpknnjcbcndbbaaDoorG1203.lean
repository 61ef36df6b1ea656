/- The struct Small as it comes in, opened. Colours from lists as the document reads them, in plain text. The document's test of a colour: a walk. The document's count of colours, of proper colours: a walk. The document's trial of all colours: walks. Colours from lists: the walk; the document's least number of colours. HueLoose in plain text: a greedy choice along the order never fails; the core of k is empty just if k is beyond the looseness. HueKonig in plain text: the hues at a vertex are at least its degree; with two sides no set has more edges than the degree's hues have room for. HueGalvin in plain text: the stable pairing under way; kernels; Galvin's theorem. -/
import Derived.Test.YtpknnjcbcndbbaaDoorLo
import Derived.ChangeSame
import Derived.Test.YtpknnjcbcndbbaaDoorH01
import Derived.Test.YtpknnjcbcndbbaaDoorA15
import Derived.Test.YtpknnjcbcndbbaaDoorE01
import Derived.Test.YtpknnjcbcndbbaaDoorG1201
import Derived.Test.YtpknnjcbcndbbaaDoorA12
import Derived.Test.YtpknnjcbcndbbaaDoorOd
import Derived.Test.YtpknnjcbcndbbaaDoorA17
import Derived.Test.YtpknnjcbcndbbaaDoorA09
set_option linter.unusedVariables false
set_option linter.unusedSimpArgs false
namespace Go.Proofs.YtpknnjcbcndbbaaDoor
open Go.ChangeShapes Go.WideShapes Go.ChangeAt Go.RowKit

theorem cells71 : Tryd.prog.cellsOf 71 = 3 := by kernel_rfl
theorem cells4 : Tryd.prog.cellsOf 4 = 1 := by kernel_rfl
set_option maxRecDepth 100000 in
theorem open_small {H : Type} {enc : TypeId × Value → H} {W : World} {v : Value} {d : DataW H} {p : List MemPlace} {r : Reach} {base : Nat} (hv : Value.okWide Tryd.prog W r base 71 v)
    (h : ∃ fuel, DataW.trod enc Tryd.prog W 0 (fun _ => true) true fuel 71 v.cells.toList = some (d, p)) : ∃ (x y : Int) (z : Bool), v = .agg #[.int .i64 x, .int .i64 y, .bool z] := by
  simp only [Value.okWide, Tryd.underlying71] at hv
  obtain ⟨cs, rfl, hsz, _⟩ := hv
  rw [cells71] at hsz
  obtain ⟨fuel, hf⟩ := h
  obtain ⟨xs, n, _, _, hl, hlen, hx⟩ := DataW.trod_struct Tryd.underlying71 hf
  obtain ⟨l, rfl⟩ : ∃ l : List Value, cs = l.toArray := ⟨cs.toList, by simp⟩
  match xs, hlen, l, hsz with
  | [y0, y1, y2], _, [v0, v1, v2], _ =>
    have g0 := hx 0 _ rfl
    have g1 := hx 1 _ rfl
    have g2 := hx 2 _ rfl
    simp [cells3, cells4, Value.cells] at g0 g1 g2
    obtain ⟨n0, e0, _⟩ := DataW.trod_int Tryd.underlying3 g0
    obtain ⟨n1, e1, _⟩ := DataW.trod_int Tryd.underlying3 g1
    obtain ⟨b2, e2, _⟩ := DataW.trod_bool Tryd.underlying4 g2
    simp at e0 e1 e2
    exact ⟨n0, n1, b2, by rw [e0, e1, e2]⟩
end Go.Proofs.YtpknnjcbcndbbaaDoor
namespace Go.Proofs.YtpknnjcbcndbbaaDoor
open Go.RowKit

def FamC (g : List Nat) (n : Nat) (ls : Nat → List Nat) (f : Nat → Nat) : Prop := (∀ i, i < n → f i ∈ ls i) ∧ ∀ i k, i < n → k < n → i ≠ k → adj g i k → f i ≠ f k
def ExtC (g : List Nat) (n : Nat) (ls : Nat → List Nat) (h : Nat → Int) : Prop := ∃ f, FamC g n ls f ∧ ∀ i, i < n → 0 ≤ h i → h i = (f i : Int)
structure PreC (g : List Nat) (n : Nat) (ls : Nat → List Nat) (h : Nat → Int) : Prop where
  own : ∀ i, i < n → h i = -1 ∨ ∃ x, x ∈ ls i ∧ h i = (x : Int)
  prop : ∀ i k, i < n → k < n → i ≠ k → adj g i k → 0 ≤ h i → h i ≠ h k
def FreeC (g : List Nat) (n : Nat) (h : Nat → Int) (i : Nat) (x : Int) : Prop := ∀ k, k < n → k ≠ i → ¬ (h k = x ∧ adj g k i)
section
variable {g : List Nat} {n : Nat} {ls : Nat → List Nat} {h : Nat → Int}
theorem PreC.done (P : PreC g n ls h) (hall : ∀ i, i < n → 0 ≤ h i) : ExtC g n ls h := by
  refine ⟨fun i => (h i).toNat, ⟨fun i hi => ?_, fun i k hi hk hne hm => ?_⟩, fun i hi h0 => by show h i = (((h i).toNat : Nat) : Int); omega⟩
  · show (h i).toNat ∈ ls i
    rcases P.own i hi with e | ⟨x, hx, e⟩
    · have := hall i hi; omega
    · rw [e]; simpa using hx
  · have h1 := P.prop i k hi hk hne hm (hall i hi)
    have h2 := hall i hi
    have h3 := hall k hk
    show (h i).toNat ≠ (h k).toNat
    omega
theorem PreC.start (g : List Nat) (n : Nat) (ls : Nat → List Nat) : PreC g n ls (fun _ => -1) := ⟨fun _ _ => .inl rfl, fun _ _ _ _ _ _ h => absurd h (by decide)⟩
theorem ExtC.start : ExtC g n ls (fun _ => -1) ↔ ∃ f, FamC g n ls f := ⟨fun ⟨f, h1, _⟩ => ⟨f, h1⟩, fun ⟨f, h1⟩ => ⟨f, h1, fun i _ h => absurd (show (0 : Int) ≤ -1 from h) (by decide)⟩⟩
theorem PreC.step (hsym : ∀ i k, adj g i k → adj g k i) (P : PreC g n ls h) {i x : Nat} (hi : i < n) (hx : x ∈ ls i) (hf : FreeC g n h i (x : Int)) : PreC g n ls (setI h i (x : Int)) := by
  refine ⟨fun j hj => ?_, fun j k hj hk hne hm h0 => ?_⟩
  · unfold setI
    by_cases e : j = i
    · rw [if_pos e, e]; exact .inr ⟨x, hx, rfl⟩
    · rw [if_neg e]; exact P.own j hj
  · unfold setI at h0 ⊢
    by_cases e : j = i
    · subst e
      rw [if_pos rfl, if_neg (fun h => hne h.symm)]
      exact fun e => hf k hk (fun h => hne h.symm) ⟨e.symm, hsym _ _ hm⟩
    · rw [if_neg e] at h0 ⊢
      by_cases e2 : k = i
      · subst e2
        rw [if_pos rfl]
        exact fun e3 => hf j hj e ⟨e3, hm⟩
      · rw [if_neg e2]; exact P.prop j k hj hk hne hm h0
theorem ExtC.step (E : ExtC g n ls h) {i : Nat} (hi : i < n) (hn : h i < 0) : ∃ x, x ∈ ls i ∧ FreeC g n h i (x : Int) ∧ ExtC g n ls (setI h i (x : Int)) := by
  obtain ⟨f, ⟨h1, h2⟩, h3⟩ := E
  refine ⟨f i, h1 i hi, fun k hk hne hc => ?_, f, ⟨h1, h2⟩, fun j hj h0 => ?_⟩
  · have := h3 k hk (by omega)
    exact h2 k i hk hi hne hc.2 (by omega)
  · unfold setI at h0 ⊢
    by_cases e : j = i
    · rw [if_pos e, e]
    · rw [if_neg e] at h0 ⊢; exact h3 j hj h0
theorem ExtC.back {i x : Nat} (E : ExtC g n ls (setI h i (x : Int))) (hn : h i < 0) : ExtC g n ls h := by
  obtain ⟨f, h1, h3⟩ := E
  refine ⟨f, h1, fun j hj h0 => ?_⟩
  have := h3 j hj
  unfold setI at this
  by_cases e : j = i
  · subst e; omega
  · rw [if_neg e] at this; exact this h0
end
end Go.Proofs.YtpknnjcbcndbbaaDoor
namespace Go.Proofs.YtpknnjcbcndbbaaDoor
open Go.RowKit Go.Shelf

set_option maxRecDepth 100000 in
set_option maxHeartbeats 2000000 in
theorem ropen_any (n : Nat) (a p : Option Addr) (cap c : Nat) (g : List Nat) (h : Nat → Int) (i : Nat) (x : Int) (w : World) (hl : g.length = n) (hn : n ≤ 16) (U : Und g n) (hsm : ∀ i : Nat, Sm (g[i]?.getD 0)) (hi : i < n) (hg : Sets w a g) (hs : SrcI w p n h) :
    Calls Tryd.prog 92 #[.slice a n cap, .slice p n c, .int .i64 (i : Int), .int .i64 x] w fun e w' => BoolP (FreeC g n h i x) e ∧ w' = w := by
  have H := Lib.hid hs
  have HG := Lib.hid hg
  have HU := Lib.hid U
  have HSM := Lib.hid hsm
  have HLN := Lib.hid hl
  have hi0 : (0 : Int) ≤ (i : Int) := by omega
  have hil : (i : Int) < (n : Int) := by omega
  clear hs hg U hsm hl
  go_enter Tryd.func92, Tryd.ntmps92
  go_upto_region 2 with (fail)
  go_loopw [9] (fun s9 wr => ∃ k : Nat, k ≤ n ∧ s9 = .int .i64 (k : Int) ∧ Hid (∀ k', k' < k → k' ≠ i → ¬ (h k' = x ∧ adj g k' i)) ∧ Hid (wr = w)) (fun s9 _ => n - (intOf s9).toNat)
  case atStart => exact ⟨0, by omega, rfl, (fun k hk => by omega), rfl⟩
  case round =>
    obtain ⟨k, hk, rfl, hp, hw⟩ := hrel
    rw [hw.out]
    by_cases hkl : k < n
    · have g1 : (k : Int) < (n : Int) := by omega
      have g0 : (0 : Int) ≤ (k : Int) := by omega
      have hk20 : k < 20 := by omega
      obtain ⟨gb, go, rfl, hgb, hgc⟩ := HG.out
      obtain ⟨b, o, rfl, hb, hc⟩ := H.out (by omega)
      have k1 := hgc i (by rw [HLN.out]; exact hi)
      have k2 := hc k hkl
      have hgs := HSM.out i
      have HAJ : Hid ((g[i]?.getD 0).testBit k = true ↔ adj g k i) := ⟨fun h => HU.out.sym _ _ h, fun h => HU.out.sym _ _ h⟩
      have HNE : Hid ((g[i]?.getD 0).testBit k = true → k ≠ i) := fun h e => HU.out.ne _ _ h e.symm
      have HNX : Hid ((k ≠ i → ¬ (h k = x ∧ adj g k i)) → ∀ k', k' < k + 1 → k' ≠ i → ¬ (h k' = x ∧ adj g k' i)) := fun h k' hk' => by
        by_cases e : k' = k
        · subst e; exact h
        · exact hp.out k' (by omega)
      have HBAD : Hid (k ≠ i → h k = x → adj g k i → ¬ FreeC g n h i x) := fun h0 h1 h2 h => h k hkl h0 ⟨h1, h2⟩
      clear hgc hc
      generalize g[i]?.getD 0 = gi at *
      cases hbit : gi.testBit k with
      | false =>
        have HN := Lib.hid (HNX.out fun _ h => by have := HAJ.out.2 h.2; rw [hbit] at this; cases this)
        clear HNE HAJ HNX HBAD
        generalize h k = hk0 at *
        go_wp2
        exact ⟨⟨k + 1, by omega, int_eq (by omega), HN, Lib.hid trivial⟩, by simp [intOf]; omega⟩
      | true =>
        by_cases hff : h k = x
        · have e3 : (h k == x) = true := by rw [hff]; simp
          have HB2 := Lib.hid (HBAD.out (HNE.out hbit) hff (HAJ.out.1 hbit))
          clear HNE HAJ HNX HBAD hff
          generalize h k = hk0 at *
          go_wp2
          go_ret
          exact ⟨BoolP.no HB2.out, rfl⟩
        · have e3 : (h k == x) = false := by rw [beq_eq_false_iff_ne]; exact hff
          have HN := Lib.hid (HNX.out fun _ h => hff h.1)
          clear HNE HAJ HNX HBAD hff
          generalize h k = hk0 at *
          go_wp2
          exact ⟨⟨k + 1, by omega, int_eq (by omega), HN, Lib.hid trivial⟩, by simp [intOf]; omega⟩
    · have g1 : ¬ (k : Int) < (n : Int) := by omega
      have HY : Hid (FreeC g n h i x) := fun k' hk' => hp.out k' (by omega)
      go_wp2
      go_ret
      exact ⟨BoolP.yes HY.out, rfl⟩
end Go.Proofs.YtpknnjcbcndbbaaDoor
namespace Go.Proofs.YtpknnjcbcndbbaaDoor
open Go.RowKit Go.Shelf

def PropC (g : List Nat) (n : Nat) (h : Nat → Int) : Prop := (∀ i, i < n → 0 ≤ h i) ∧ ∀ i k, i < n → k < n → adj g i k → h i ≠ h k
theorem rcols_len (n m : Nat) (a p : Option Addr) (cap c : Nat) (w : World) (hn : n ≤ 16) (hm : m ≤ 1099511627776) (hne : m ≠ n) :
    Calls Tryd.prog 45 #[.slice a n cap, .slice p m c] w fun e w' => e = .returned (.tuple #[.int .i64 0, .bool false]) ∧ w' = w := by
  have g0 : ((m : Int) != (n : Int)) = true := by rw [bne_iff_ne]; omega
  go_enter Tryd.func45, Tryd.ntmps45
  go_wp2
  refine bodyPost_ret (v := .tuple #[.int .i64 0, .bool false]) (by simp [results, Tryd.f45, go_sem]) rfl ?_
  exact ⟨rfl, rfl⟩
set_option maxRecDepth 100000 in
set_option maxHeartbeats 2000000 in
theorem rcols_any (n : Nat) (a p : Option Addr) (cap c : Nat) (g : List Nat) (h : Nat → Int) (w : World) (hl : g.length = n) (hn : n ≤ 16) (hsm : ∀ i : Nat, Sm (g[i]?.getD 0)) (hg : Sets w a g) (hs : SrcI w p n h) (hp : PropC g n h) :
    Calls Tryd.prog 45 #[.slice a n cap, .slice p n c] w fun e w' => (∃ m : Nat, e = .returned (.tuple #[.int .i64 (m : Int), .bool true])) ∧ Below w.heap.size w w' := by
  have H := Lib.hid hs
  have HG := Lib.hid hg
  have HSM := Lib.hid hsm
  have HLN := Lib.hid hl
  have HP := Lib.hid hp
  clear hs hg hsm hl hp
  have g0 : ((n : Int) != (n : Int)) = false := by simp
  go_enter Tryd.func45, Tryd.ntmps45
  go_upto_region 5 with (fail)
  clear g0
  go_loopw [6, 7] (fun s6 s7 wr => ∃ m i : Nat, i ≤ n ∧ m ≤ i ∧ s7 = .int .i64 (i : Int) ∧ s6 = .int .i64 (m : Int) ∧ Hid (Below w.heap.size w wr)) (fun _ s7 _ => 40 - (intOf s7).toNat)
  case atStart => exact ⟨0, 0, by omega, by omega, rfl, rfl, Below.refl _ _⟩
  case round =>
    obtain ⟨m, i, hi, hmi, rfl, rfl, hB⟩ := hrel
    by_cases hin : i < n
    · have g1 : (i : Int) < (n : Int) := by omega
      have gi0 : (0 : Int) ≤ (i : Int) := by omega
      go_upto_region 9 with (fail)
      obtain ⟨wo, hwo⟩ : ∃ wo, Hid (wo = wr) := ⟨_, rfl⟩
      go_loopw [8, 9] (fun s8 s9 wr2 => ∃ (b : Bool) (k : Nat), k ≤ i ∧ s9 = .int .i64 (k : Int) ∧ s8 = .bool b ∧ Hid (Below w.heap.size w wr2)) (fun _ s9 _ => 40 - (intOf s9).toNat)
      case atStart => exact ⟨true, 0, by omega, rfl, rfl, hB⟩
      case round =>
        clear hB
        obtain ⟨b, k, hk, rfl, rfl, hB⟩ := hrel
        obtain ⟨gb, go, rfl, hgb, hgc⟩ := HG.out
        obtain ⟨pb, po, rfl, hb, hc⟩ := H.out (by omega)
        by_cases hki : k < i
        · have g2 : (k : Int) < (i : Int) := by omega
          have g3 : (0 : Int) ≤ (k : Int) := by omega
          have g4 : (k : Int) < (n : Int) := by omega
          have hk20 : k < 20 := by omega
          have hbr : pb < wr.heap.size := Nat.lt_of_lt_of_le hb hB.out.size
          have hgr : gb < wr.heap.size := Nat.lt_of_lt_of_le hgb hB.out.size
          have c1 := (hB.out.cell (p := ⟨pb, po + k, none⟩) hb).trans (hc k (by omega))
          have c2 := (hB.out.cell (p := ⟨pb, po + i, none⟩) hb).trans (hc i hin)
          have c3 := (hB.out.cell (p := ⟨gb, go + i, none⟩) hgb).trans (hgc i (by rw [HLN.out]; exact hin))
          have hgs := HSM.out i
          have HPX : Hid (h k = h i → (g[i]?.getD 0).testBit k = false) := fun e => by
            cases hb : (g[i]?.getD 0).testBit k with
            | false => rfl
            | true => exact absurd e.symm (HP.out.2 i k hin (by omega) hb)
          clear hc hgc
          generalize g[i]?.getD 0 = gi at *
          have hbit : h k = h i → gi.testBit k = false := HPX.out
          clear HPX
          generalize h k = x at *
          generalize h i = y at *
          by_cases hxy : x = y
          · have e1 : (x != y) = false := by rw [hxy]; simp
            have e2 : (x == y) = true := by rw [hxy]; simp
            have hbf := hbit hxy
            clear hxy hbit
            have r1 : ∀ d : BW wr.heap.size wr, d.w.cell? ⟨pb, po + k, none⟩ = some (.int .i64 x) := fun d => d.cell hbr c1
            have r2 : ∀ d : BW wr.heap.size wr, d.w.cell? ⟨pb, po + i, none⟩ = some (.int .i64 y) := fun d => d.cell hbr c2
            cases b with
            | true =>
              go_upto_region 11 with (fail)
              refine wp_region_bw (by kernel_rfl) (by kernel_rfl) ?_
              repeat (go_big_quiet_step (rfl))
              refine wpQuiet_nil ?_
              rintro _ ⟨d, rfl⟩
              have HBD := Lib.hid (hB.out.trans (d.b.mono hB.out.size))
              have hbr2 : pb < d.w.heap.size := Nat.lt_of_lt_of_le hbr d.b.size
              have hgr2 : gb < d.w.heap.size := Nat.lt_of_lt_of_le hgr d.b.size
              have d1 := d.cell hbr c1
              have d2 := d.cell hbr c2
              have d3 := d.cell hgr c3
              clear r1 r2 c1 c2 c3
              generalize d.w = Z at *
              have r1 : ∀ d : BW Z.heap.size Z, d.w.cell? ⟨pb, po + k, none⟩ = some (.int .i64 x) := fun d => d.cell hbr2 d1
              have r2 : ∀ d : BW Z.heap.size Z, d.w.cell? ⟨pb, po + i, none⟩ = some (.int .i64 y) := fun d => d.cell hbr2 d2
              have r3 : ∀ d : BW Z.heap.size Z, d.w.cell? ⟨gb, go + i, none⟩ = some (.int .i64 (gi : Int)) := fun d => d.cell hgr2 d3
              go_upto_region 12 with (fail)
              refine wp_region_bw (by kernel_rfl) (by kernel_rfl) ?_
              repeat (go_big_quiet_step (rfl))
              refine wpQuiet_nil ?_
              rintro _ ⟨d, rfl⟩
              have HBE := Lib.hid (HBD.out.trans (d.b.mono HBD.out.size))
              clear r1 r2 r3 d1 d2 d3
              generalize d.w = Z2 at *
              go_wp2
              exact ⟨⟨false, k + 1, by omega, int_eq (by omega), rfl, HBE⟩, by simp [intOf]; omega⟩
            | false =>
              go_upto_region 11 with (fail)
              refine wp_region_bw (by kernel_rfl) (by kernel_rfl) ?_
              repeat (go_big_quiet_step (rfl))
              refine wpQuiet_nil ?_
              rintro _ ⟨d, rfl⟩
              have HBD := Lib.hid (hB.out.trans (d.b.mono hB.out.size))
              have hbr2 : pb < d.w.heap.size := Nat.lt_of_lt_of_le hbr d.b.size
              have hgr2 : gb < d.w.heap.size := Nat.lt_of_lt_of_le hgr d.b.size
              have d1 := d.cell hbr c1
              have d2 := d.cell hbr c2
              have d3 := d.cell hgr c3
              clear r1 r2 c1 c2 c3
              generalize d.w = Z at *
              have r1 : ∀ d : BW Z.heap.size Z, d.w.cell? ⟨pb, po + k, none⟩ = some (.int .i64 x) := fun d => d.cell hbr2 d1
              have r2 : ∀ d : BW Z.heap.size Z, d.w.cell? ⟨pb, po + i, none⟩ = some (.int .i64 y) := fun d => d.cell hbr2 d2
              have r3 : ∀ d : BW Z.heap.size Z, d.w.cell? ⟨gb, go + i, none⟩ = some (.int .i64 (gi : Int)) := fun d => d.cell hgr2 d3
              go_upto_region 12 with (fail)
              refine wp_region_bw (by kernel_rfl) (by kernel_rfl) ?_
              repeat (go_big_quiet_step (rfl))
              refine wpQuiet_nil ?_
              rintro _ ⟨d, rfl⟩
              have HBE := Lib.hid (HBD.out.trans (d.b.mono HBD.out.size))
              clear r1 r2 r3 d1 d2 d3
              generalize d.w = Z2 at *
              go_wp2
              exact ⟨⟨false, k + 1, by omega, int_eq (by omega), rfl, HBE⟩, by simp [intOf]; omega⟩
          · have e1 : (x != y) = true := by rw [bne_iff_ne]; exact hxy
            have e2 : (x == y) = false := by rw [beq_eq_false_iff_ne]; exact hxy
            clear hxy hbit
            have r1 : ∀ d : BW wr.heap.size wr, d.w.cell? ⟨pb, po + k, none⟩ = some (.int .i64 x) := fun d => d.cell hbr c1
            have r2 : ∀ d : BW wr.heap.size wr, d.w.cell? ⟨pb, po + i, none⟩ = some (.int .i64 y) := fun d => d.cell hbr c2
            cases b with
            | true =>
              go_upto_region 11 with (fail)
              refine wp_region_bw (by kernel_rfl) (by kernel_rfl) ?_
              repeat (go_big_quiet_step (rfl))
              refine wpQuiet_nil ?_
              rintro _ ⟨d, rfl⟩
              have HBD := Lib.hid (hB.out.trans (d.b.mono hB.out.size))
              have hbr2 : pb < d.w.heap.size := Nat.lt_of_lt_of_le hbr d.b.size
              have hgr2 : gb < d.w.heap.size := Nat.lt_of_lt_of_le hgr d.b.size
              have d1 := d.cell hbr c1
              have d2 := d.cell hbr c2
              have d3 := d.cell hgr c3
              clear r1 r2 c1 c2 c3
              generalize d.w = Z at *
              have r1 : ∀ d : BW Z.heap.size Z, d.w.cell? ⟨pb, po + k, none⟩ = some (.int .i64 x) := fun d => d.cell hbr2 d1
              have r2 : ∀ d : BW Z.heap.size Z, d.w.cell? ⟨pb, po + i, none⟩ = some (.int .i64 y) := fun d => d.cell hbr2 d2
              have r3 : ∀ d : BW Z.heap.size Z, d.w.cell? ⟨gb, go + i, none⟩ = some (.int .i64 (gi : Int)) := fun d => d.cell hgr2 d3
              go_upto_region 12 with (fail)
              refine wp_region_bw (by kernel_rfl) (by kernel_rfl) ?_
              repeat (go_big_quiet_step (rfl))
              refine wpQuiet_nil ?_
              rintro _ ⟨d, rfl⟩
              have HBE := Lib.hid (HBD.out.trans (d.b.mono HBD.out.size))
              clear r1 r2 r3 d1 d2 d3
              generalize d.w = Z2 at *
              go_wp2
              exact ⟨⟨true, k + 1, by omega, int_eq (by omega), rfl, HBE⟩, by simp [intOf]; omega⟩
            | false =>
              go_upto_region 11 with (fail)
              refine wp_region_bw (by kernel_rfl) (by kernel_rfl) ?_
              repeat (go_big_quiet_step (rfl))
              refine wpQuiet_nil ?_
              rintro _ ⟨d, rfl⟩
              have HBD := Lib.hid (hB.out.trans (d.b.mono hB.out.size))
              have hbr2 : pb < d.w.heap.size := Nat.lt_of_lt_of_le hbr d.b.size
              have hgr2 : gb < d.w.heap.size := Nat.lt_of_lt_of_le hgr d.b.size
              have d1 := d.cell hbr c1
              have d2 := d.cell hbr c2
              have d3 := d.cell hgr c3
              clear r1 r2 c1 c2 c3
              generalize d.w = Z at *
              have r1 : ∀ d : BW Z.heap.size Z, d.w.cell? ⟨pb, po + k, none⟩ = some (.int .i64 x) := fun d => d.cell hbr2 d1
              have r2 : ∀ d : BW Z.heap.size Z, d.w.cell? ⟨pb, po + i, none⟩ = some (.int .i64 y) := fun d => d.cell hbr2 d2
              have r3 : ∀ d : BW Z.heap.size Z, d.w.cell? ⟨gb, go + i, none⟩ = some (.int .i64 (gi : Int)) := fun d => d.cell hgr2 d3
              go_upto_region 12 with (fail)
              refine wp_region_bw (by kernel_rfl) (by kernel_rfl) ?_
              repeat (go_big_quiet_step (rfl))
              refine wpQuiet_nil ?_
              rintro _ ⟨d, rfl⟩
              have HBE := Lib.hid (HBD.out.trans (d.b.mono HBD.out.size))
              clear r1 r2 r3 d1 d2 d3
              generalize d.w = Z2 at *
              go_wp2
              exact ⟨⟨false, k + 1, by omega, int_eq (by omega), rfl, HBE⟩, by simp [intOf]; omega⟩
        · have g2 : ¬ (k : Int) < (i : Int) := by omega
          have c2 := (hB.out.cell (p := ⟨pb, po + i, none⟩) hb).trans (hc i hin)
          have hnn := HP.out.1 i hin
          clear hc hgc
          generalize h i = y at *
          have hy : ¬ y < 0 := by omega
          have hyd : decide (y < 0) = false := decide_eq_false hy
          cases b with
          | true =>
            go_wp2
            exact ⟨⟨m + 1, i + 1, by omega, by omega, int_eq (by omega), int_eq (by omega), hB⟩, by simp [intOf]; omega⟩
          | false =>
            go_wp2
            exact ⟨⟨m, i + 1, by omega, by omega, int_eq (by omega), rfl, hB⟩, by simp [intOf]; omega⟩
    · have g1 : ¬ (i : Int) < (n : Int) := by omega
      go_wp2
      refine bodyPost_ret (v := .tuple #[.int .i64 (m : Int), .bool true]) (by simp [results, Tryd.f45, go_sem]) rfl ?_
      exact ⟨⟨m, rfl⟩, hB.out⟩
end Go.Proofs.YtpknnjcbcndbbaaDoor
namespace Go.Proofs.YtpknnjcbcndbbaaDoor
open Go.RowKit Go.Shelf

set_option maxRecDepth 100000 in
set_option maxHeartbeats 8000000 in
theorem coloured_any {a la : Option Addr} {cap lc : Nat} {g : List Nat} {n : Nat} {ls : Nat → List Nat} (hl : g.length = n) (hn : n ≤ 16) (U : Und g n) (hsm : ∀ i : Nat, Sm (g[i]?.getD 0)) (hls : ∀ i, (ls i).length ≤ 64) : ∀ (m : Nat) (W : World) (p : Option Addr) (c : Nat) (h : Nat → Int), unh n h < m → PreC g n ls h → Sets W a g → ListsAt W la n ls → SrcI W p n h →
    Calls Tryd.prog 71 #[.slice a n cap, .slice la n lc, .slice p n c] W fun e w' => BoolP (ExtC g n ls h) e ∧ Below W.heap.size W w' := by
  intro m
  induction m with
  | zero => intro W p c h hu; omega
  | succ m ih =>
    intro W p c h hu hP hE hL hS
    obtain ⟨i0, hi, hz0, hz1, hz2⟩ := info_parts info3
    have IH : Hid (∀ (W : World) (p : Option Addr) (c : Nat) (h2 : Nat → Int), unh n h2 < unh n h → PreC g n ls h2 → Sets W a g → ListsAt W la n ls → SrcI W p n h2 →
        Calls Tryd.prog 71 #[.slice a n cap, .slice la n lc, .slice p n c] W fun e w' => BoolP (ExtC g n ls h2) e ∧ Below W.heap.size W w') := fun W p c h2 h3 h4 h5 h6 h7 => ih W p c h2 (by omega) h4 h5 h6 h7
    have HP := Lib.hid hP
    have HE := Lib.hid hE
    have HL := Lib.hid hL
    have HS := Lib.hid hS
    have HLS := Lib.hid hls
    have HFR : Hid (∀ (i : Nat) (x : Int) W', i < n → Below W.heap.size W W' → Calls Tryd.prog 92 #[.slice a n cap, .slice p n c, .int .i64 (i : Int), .int .i64 x] W' fun e w' => BoolP (FreeC g n h i x) e ∧ Below W'.heap.size W' w') := fun i x W' hi hB => (ropen_any n a p cap c g h i x W' hl hn U hsm hi (hE.keep hB (Nat.le_refl _)) (hS.below hB (Nat.le_refl _))).mono fun e w' ⟨h1, h2⟩ => ⟨h1, by rw [h2]; exact Below.refl _ _⟩
    clear hP hE hL hS hu hls
    go_enter Tryd.func71, Tryd.ntmps71
    go_upto_region 3 with (fail)
    go_loopw [7, 8, 9] (fun s7 s8 s9 wr => ∃ (k : Nat) (bi fw : Int), k ≤ n ∧ s9 = .int .i64 (k : Int) ∧ s7 = .int .i64 bi ∧ s8 = .int .i64 fw ∧ Hid (BestF h k bi fw) ∧ Hid (Below W.heap.size W wr)) (fun _ _ s9 _ => n - (intOf s9).toNat)
    case atStart => exact ⟨0, -1, 1000, by omega, rfl, rfl, rfl, .inl ⟨rfl, rfl, fun j hj => by omega⟩, Below.refl _ _⟩
    case round =>
      obtain ⟨k, bi, fw, hk, rfl, rfl, rfl, hbi, hB⟩ := hrel
      by_cases hkl : k < n
      · have g1 : (k : Int) < (n : Int) := by omega
        have g0 : (0 : Int) ≤ (k : Int) := by omega
        obtain ⟨b, o, ep, hb, hc⟩ := HS.out (by omega)
        have k1 := (hB.out.cell (p := ⟨b, o + k, none⟩) hb).trans (hc k hkl)
        subst ep
        clear hc
        by_cases hneg : 0 ≤ h k
        · have HN := Lib.hid (hbi.out.pass hneg)
          obtain ⟨z, hz⟩ : ∃ z, Hid (z = h k) := ⟨_, rfl⟩
          rw [← hz.out] at k1 hneg
          go_wp2
          exact ⟨⟨k + 1, bi, fw, by omega, int_eq (by omega), rfl, rfl, HN, hB⟩, by simp [intOf]; omega⟩
        · have HNW := Lib.hid (fun f => BestF.new (h := h) (k := k) f (by omega))
          have hlk := HLS.out k
          obtain ⟨z, hz⟩ : ∃ z, Hid (z = h k) := ⟨_, rfl⟩
          rw [← hz.out] at k1 hneg
          obtain ⟨lm, hlm⟩ : ∃ lm, Hid (lm = (ls k).length) := ⟨_, rfl⟩
          rw [← hlm.out] at hlk
          go_upto_region 8 with (fail)
          clear k1
          go_loopw [10, 11] (fun s10 s11 wr2 => ∃ (kk cnt : Nat), kk ≤ lm ∧ cnt ≤ kk ∧ s11 = .int .i64 (kk : Int) ∧ s10 = .int .i64 (cnt : Int) ∧ Hid (Below W.heap.size W wr2)) (fun _ s11 _ => 64 - (intOf s11).toNat)
          case atStart => exact ⟨0, 0, by omega, by omega, rfl, rfl, hB⟩
          case round =>
            obtain ⟨kk, cnt, hkk, hcnt, rfl, rfl, hB2⟩ := hrel
            obtain ⟨lb, lo, ela, hlb, hlc⟩ := HL.out (by omega)
            obtain ⟨p2, c2, hc1, hc2⟩ := hlc k hkl
            subst ela
            rw [← hlm.out] at hc1 hc2
            have k2 := (hB2.out.cell (p := ⟨lb, lo + k, none⟩) hlb).trans hc1
            clear hlc hc1
            by_cases hkm : kk < lm
            · obtain ⟨qb, qo, ep2, hqb, hqc⟩ := hc2 (by omega)
              subst ep2
              have k3 : wr.cell? ⟨qb, qo + kk, none⟩ = some (.int .i64 (nth (ls k) kk : Nat)) := (hB2.out.cell (p := ⟨qb, qo + kk, none⟩) hqb).trans (hqc kk hkm)
              have g2 : (kk : Int) < (lm : Int) := by omega
              have g3 : (0 : Int) ≤ (kk : Int) := by omega
              obtain ⟨x, hx⟩ : ∃ x, Hid (x = nth (ls k) kk) := ⟨_, rfl⟩
              rw [← hx.out] at k3
              have HF := Lib.hid (HFR.out k (x : Int) _ hkl hB2.out)
              clear hqc hc2
              go_upto_if 45 with (go_at_call 92; refine (HF.out).mono ?_; rintro e w5 ⟨⟨b5, rfl, -⟩, hB5⟩; have HB5 := Lib.hid (hB2.out.trans (hB5.mono hB2.out.size)); clear hB5)
              cases b5 with
              | true =>
                go_wp2
                exact ⟨⟨kk + 1, cnt + 1, by omega, by omega, int_eq (by omega), int_eq (by omega), HB5⟩, by simp [intOf]; omega⟩
              | false =>
                go_wp2
                exact ⟨⟨kk + 1, cnt, by omega, by omega, int_eq (by omega), rfl, HB5⟩, by simp [intOf]; omega⟩
            · have g2 : ¬ (kk : Int) < (lm : Int) := by omega
              clear hc2
              by_cases hcf : (cnt : Int) < fw
              · have HN := Lib.hid (HNW.out (cnt : Int))
                go_wp2
                exact ⟨⟨k + 1, _, _, by omega, int_eq (by omega), rfl, rfl, HN, hB2⟩, by simp [intOf]; omega⟩
              · have HN := Lib.hid (hbi.out.leave (l := cnt) (by omega) hcf)
                go_wp2
                exact ⟨⟨k + 1, bi, fw, by omega, int_eq (by omega), rfl, rfl, HN, hB2⟩, by simp [intOf]; omega⟩
      · have g1 : ¬ (k : Int) < (n : Int) := by omega
        have hke : k = n := by omega
        rw [hke] at hbi
        rcases hbi.out with ⟨rfl, hf, hall⟩ | ⟨i, hi', rfl, hneg⟩
        · have HD := Lib.hid (HP.out.done (hall))
          clear hall hf hke
          go_wp2
          go_ret
          exact ⟨BoolP.yes HD.out, hB.out⟩
        · have hil : i < n := by omega
          have hneg2 := Lib.hid hneg
          have i1 : (i : Int) < (n : Int) := by omega
          have i2 : (0 : Int) ≤ (i : Int) := by omega
          have i3 : ¬ (i : Int) < 0 := by omega
          have hlk := HLS.out i
          obtain ⟨lm, hlm⟩ : ∃ lm, Hid (lm = (ls i).length) := ⟨_, rfl⟩
          rw [← hlm.out] at hlk
          clear hneg hke hbi
          go_upto_region 18 with (fail)
          go_loopw [12] (fun s12 wr2 => ∃ kk : Nat, kk ≤ lm ∧ s12 = .int .i64 (kk : Int) ∧ Hid (∀ j, j < kk → FreeC g n h i (nth (ls i) j : Nat) → ¬ ExtC g n ls (setI h i (nth (ls i) j : Nat))) ∧ Hid (Below W.heap.size W wr2)) (fun s12 _ => 100 - (intOf s12).toNat)
          case atStart => exact ⟨0, by omega, rfl, (fun j hj => by omega), hB⟩
          case round =>
            obtain ⟨kk, hkk, rfl, hno, hB2⟩ := hrel
            obtain ⟨lb, lo, ela, hlb, hlc⟩ := HL.out (by omega)
            obtain ⟨p2, c2, hc1, hc2⟩ := hlc i hil
            subst ela
            rw [← hlm.out] at hc1 hc2
            have k2 := (hB2.out.cell (p := ⟨lb, lo + i, none⟩) hlb).trans hc1
            clear hlc hc1
            by_cases hkm : kk < lm
            · obtain ⟨qb, qo, ep2, hqb, hqc⟩ := hc2 (by omega)
              subst ep2
              have k3 : wr.cell? ⟨qb, qo + kk, none⟩ = some (.int .i64 (nth (ls i) kk : Nat)) := (hB2.out.cell (p := ⟨qb, qo + kk, none⟩) hqb).trans (hqc kk hkm)
              have g2 : (kk : Int) < (lm : Int) := by omega
              have g3 : (0 : Int) ≤ (kk : Int) := by omega
              have HMX : Hid (nth (ls i) kk ∈ ls i) := by
                unfold Hid nth
                rw [List.getElem?_eq_getElem (by rw [← hlm.out]; exact hkm)]
                exact List.getElem_mem _
              have HNX : Hid ((FreeC g n h i (nth (ls i) kk : Nat) → ¬ ExtC g n ls (setI h i (nth (ls i) kk : Nat))) → ∀ j, j < kk + 1 → FreeC g n h i (nth (ls i) j : Nat) → ¬ ExtC g n ls (setI h i (nth (ls i) j : Nat))) := fun hh j hj => by
                by_cases e : j = kk
                · subst e; exact hh
                · exact hno.out j (by omega)
              obtain ⟨x, hx⟩ : ∃ x, Hid (x = nth (ls i) kk) := ⟨_, rfl⟩
              rw [← hx.out] at k3 HMX HNX
              have HF := Lib.hid (HFR.out i (x : Int) _ hil hB2.out)
              clear hqc hc2
              go_upto_if 76 with (go_at_call 92; refine (HF.out).mono ?_; rintro e w5 ⟨⟨b5, rfl, hb5⟩, hB5⟩; have HB5 := Lib.hid (hB2.out.trans (hB5.mono hB2.out.size)); have HF5 := Lib.hid hb5; clear hB5 hb5)
              cases b5 with
              | false =>
                have HN : Hid (∀ j, j < kk + 1 → FreeC g n h i (nth (ls i) j : Nat) → ¬ ExtC g n ls (setI h i (nth (ls i) j : Nat))) := HNX.out fun hf => absurd (HF5.out.2 hf) (by simp)
                go_wp2
                exact ⟨⟨kk + 1, by omega, int_eq (by omega), HN, HB5⟩, by simp [intOf]; omega⟩
              | true =>
                have HFF : Hid (FreeC g n h i (x : Int)) := HF5.out.1 rfl
                have hsz5 := HB5.out.size
                obtain ⟨b, o, ep, hb, hc⟩ := HS.out (by omega)
                subst ep
                have HSW := Lib.hid ((HS.out.below HB5.out (Nat.le_refl _)).src)
                have HONE := Lib.hid (ivI_one h n)
                clear hc k2 k3
                go_upto_region 24 with (at_builtin; go_must (refine wpList_append_qq _ rfl (.tmp 77) (.tmp 78) 25 rfl w5.heap.size 3 i0 (.int .i64 0) 1 8 Tryd.underlying25 hi hz0 hz1 hz2 rfl (by decide) _ 0 [] rfl (QRow.nil _ _ _ _) (some ⟨b, o, none⟩) n c (ivI h n) rfl HSW.out HONE.out (by unfold maxLen; omega) (by omega) (Nat.le_refl _) ?_); intro v6 w6 hq6 hg6 ho6; have HB6 : Hid (Below w5.heap.size w5 w6) := Below.grown (Below.refl _ w5) hg6 (Nat.le_refl _) (fun kk e => by cases e); have HQ6 : Hid (QRow w6 w5.heap.size 3 1 v6 n (ivI h n)) := (by rw [Nat.zero_add, List.nil_append] at hq6; exact hq6); clear hq6 hg6 ho6)
                obtain ⟨g6, o6, c6, e6, hb6, hl6, hn6, hm6, hc6, hf6⟩ := HQ6.out.at (by omega)
                subst e6
                have hf7 := hf6 (o6 + i)
                have hc7 := (hc6 i (by omega)).trans (ivI_get h n i hil)
                have HB7 : Hid (Below w5.heap.size w5 (w6.setCell ⟨g6, o6 + i, none⟩ (.int .i64 (x : Int)))) := HB6.out.setCell (p := ⟨g6, o6 + i, none⟩) hb6 _
                have HQ7 := Lib.hid (HQ6.out.set i (by omega) (.int .i64 (x : Int)))
                have HS7 : Hid (SrcI (w6.setCell ⟨g6, o6 + i, none⟩ (.int .i64 (x : Int))) (some ⟨g6, o6, none⟩) n (setI h i (x : Int))) := HQ7.out.srcI fun j hj => by
                  unfold setI
                  by_cases e : j = i
                  · subst e; rw [if_pos rfl, List.getElem?_set_self (by rw [ivI_len]; exact hj)]
                  · rw [if_neg e, List.getElem?_set_ne (fun h => e h.symm)]; exact ivI_get h n j hj
                have hBW := HB5.out.trans (HB7.out.mono HB5.out.size)
                have HBW := Lib.hid hBW
                have HRC := Lib.hid (IH.out (w6.setCell ⟨g6, o6 + i, none⟩ (.int .i64 (x : Int))) (some ⟨g6, o6, none⟩) c6 (setI h i (x : Int)) (unh_set hil hneg2.out x) (HP.out.step U.sym hil HMX.out HFF.out) (HE.out.keep hBW (Nat.le_refl _)) (HL.out.below hBW (Nat.le_refl _)) HS7.out)
                clear hc6 hf6 hBW
                go_upto_if 87 with (go_at_call 71; refine (HRC.out).mono ?_; rintro e w8 ⟨⟨b8, rfl, hb8⟩, hB8⟩; have HB8 := Lib.hid (HBW.out.trans (hB8.mono HBW.out.size)); have HX8 := Lib.hid hb8; clear hB8 hb8)
                cases b8 with
                | true =>
                  have HD : Hid (ExtC g n ls h) := (HX8.out.1 rfl).back hneg2.out
                  go_wp2
                  go_ret
                  exact ⟨BoolP.yes HD.out, HB8.out⟩
                | false =>
                  have HN : Hid (∀ j, j < kk + 1 → FreeC g n h i (nth (ls i) j : Nat) → ¬ ExtC g n ls (setI h i (nth (ls i) j : Nat))) := HNX.out fun _ hE => absurd (HX8.out.2 hE) (by simp)
                  go_wp2
                  exact ⟨⟨kk + 1, by omega, int_eq (by omega), HN, HB8⟩, by simp [intOf]; omega⟩
            · have g2 : ¬ (kk : Int) < (lm : Int) := by omega
              have HNE : Hid (¬ ExtC g n ls h) := fun hE => by
                obtain ⟨x, hx, hf, hx2⟩ := hE.step hil hneg2.out
                obtain ⟨j, hj, rfl⟩ := List.getElem_of_mem hx
                have e : nth (ls i) j = (ls i)[j] := by unfold nth; rw [List.getElem?_eq_getElem hj]; rfl
                refine hno.out j (by rw [← hlm.out] at hj; omega) ?_ ?_
                · rw [e]; exact hf
                · rw [e]; exact hx2
              clear hc2
              go_wp2
              go_ret
              exact ⟨BoolP.no HNE.out, hB2.out⟩
set_option maxRecDepth 100000 in
set_option maxHeartbeats 2000000 in
theorem rcolourable_any {a la : Option Addr} {cap lc : Nat} {g : List Nat} {n : Nat} {ls : Nat → List Nat} (hl : g.length = n) (hn : n ≤ 16) (U : Und g n) (hsm : ∀ i : Nat, Sm (g[i]?.getD 0)) (hls : ∀ i, (ls i).length ≤ 64) (w : World) (hE : Sets w a g) (hL : ListsAt w la n ls) :
    Calls Tryd.prog 44 #[.slice a n cap, .slice la n lc] w fun e w' => BoolP (∃ f, FamC g n ls f) e ∧ Below w.heap.size w w' := by
  obtain ⟨vs0, hv1, hv2, HMK⟩ := make_25b n (by omega)
  have HV1 := Lib.hid hv1
  have HV2 := Lib.hid hv2
  have HP : Hid (∀ W p c, Below w.heap.size w W → SrcI W p n (fun _ => -1) → Calls Tryd.prog 71 #[.slice a n cap, .slice la n lc, .slice p n c] W fun e w' => BoolP (∃ f, FamC g n ls f) e ∧ Below W.heap.size W w') := fun W p c hB hS => by
    have := coloured_any (cap := cap) (lc := lc) hl hn U hsm hls (unh n (fun _ => -1) + 1) W p c (fun _ => -1) (by omega) (PreC.start g n ls) (hE.keep hB (Nat.le_refl _)) (hL.below hB (Nat.le_refl _)) hS
    refine this.mono ?_
    rintro e w' ⟨⟨b, h1, h2⟩, h3⟩
    exact ⟨⟨b, h1, h2.trans ExtC.start⟩, h3⟩
  clear hE hL hv1 hv2
  go_enter Tryd.func44, Tryd.ntmps44
  go_upto_region 3 with (fail)
  obtain ⟨b, hb⟩ : ∃ b, Hid (b = w.heap.size) := ⟨_, rfl⟩
  have hR0 : RowB (w.alloc (.cells vs0 3)) b n (fun _ => 0) := ⟨vs0, BoxN.new hb.out, HV1.out, fun j hj => HV2.out j hj⟩
  have hBV : Below w.heap.size w (w.alloc (.cells vs0 3)) := (Below.refl _ _).alloc (Nat.le_refl _) _
  rw [← hb.out]
  generalize (w.alloc (.cells vs0 3)) = V at *
  have HR0 := Lib.hid hR0
  have HBV := Lib.hid hBV
  clear hR0 hBV HMK
  go_loopw [6] (fun s6 wr => ∃ j : Nat, j ≤ n ∧ s6 = .int .i64 (j : Int) ∧ Hid (RowB wr b n (fun v => if v < j then -1 else 0)) ∧ Hid (Below w.heap.size w wr)) (fun s6 _ => n - (intOf s6).toNat)
  case atStart => exact ⟨0, by omega, rfl, HR0.out.congr fun x _ => by simp, HBV⟩
  case round =>
    obtain ⟨j, hj, rfl, hR, hB⟩ := hrel
    by_cases hjn : j < n
    · have h1 : (j : Int) < (n : Int) := by omega
      have h2 : (0 : Int) ≤ (j : Int) := by omega
      have hf := hR.out.frozen j
      have hc := hR.out.cell hjn
      have HRN : Hid (RowB (wr.setCell ⟨b, j, none⟩ (.int .i64 (-1))) b n (fun v => if v < j + 1 then -1 else 0)) := (hR.out.set hjn (-1)).congr fun x _ => by
        by_cases e : x = j
        · subst e; simp
        · rw [if_neg e]
          by_cases h : x < j
          · rw [if_pos h, if_pos (by omega)]
          · rw [if_neg h, if_neg (by omega)]
      have HAN := Lib.hid (hB.out.setCell (p := ⟨b, j, none⟩) (by simp [hb.out]) (.int .i64 (-1)))
      go_wp2
      exact ⟨⟨j + 1, by omega, int_eq (by omega), HRN, HAN⟩, by simp [intOf]; omega⟩
    · have h1 : ¬ (j : Int) < (n : Int) := by omega
      have hRL : RowB wr b n (fun _ => -1) := hR.out.congr fun x hx => by rw [if_pos (by omega)]
      have HS : Hid (SrcI wr (some ⟨b, 0, none⟩) n (fun _ => -1)) := fun _ => ⟨b, 0, rfl, hRL.lt, fun j hj => by rw [Nat.zero_add]; exact hRL.cell hj⟩
      have HC := Lib.hid (HP.out wr (some ⟨b, 0, none⟩) n hB.out HS.out)
      clear hRL
      go_wp2_with (go_at_call 71; refine (HC.out).mono ?_; rintro e w8 ⟨⟨b8, rfl, hb8⟩, hB8⟩; have HB8 := Lib.hid (hB.out.trans (hB8.mono hB.out.size)); have HX8 := Lib.hid hb8; clear hB8 hb8)
      go_ret
      exact ⟨⟨b8, rfl, HX8.out⟩, HB8.out⟩
end Go.Proofs.YtpknnjcbcndbbaaDoor
namespace Go.Proofs.YtpknnjcbcndbbaaDoor
open Go.RowKit Go.Shelf

theorem famC_of {g : List Nat} {n : Nat} {L : Nat → Nat} {ls : Nat → List Nat} {f : Nat → Nat} (hM : ∀ i, i < n → ∀ x, x ∈ ls i ↔ (L i).testBit x = true) (h : ColOK g n L f) : FamC g n ls f :=
  ⟨fun i hi => (hM i hi _).2 (h.1 i hi), fun i k _ _ _ ha => h.2 i k ha⟩
theorem colOK_of {g : List Nat} {n : Nat} {L : Nat → Nat} {ls : Nat → List Nat} {f : Nat → Nat} (U : Und g n) (hM : ∀ i, i < n → ∀ x, x ∈ ls i ↔ (L i).testBit x = true) (h : FamC g n ls f) : ColOK g n L f :=
  ⟨fun i hi => (hM i hi _).1 (h.1 i hi), fun v w ha => h.2 v w (U.lt _ _ ha).1 (U.lt _ _ ha).2 (U.ne _ _ ha) ha⟩
/-- what Colours answers -/
def ColsA (g : List Nat) (n : Nat) (ls : Nat → List Int) (m : Nat) (W' : World) (e : Ending) : Prop :=
  (e = .returned (.tuple #[.slice none 0 0, .bool false, .int .i64 70]) ∧ ¬ ListsP ls m n) ∨
  (e = .returned (.tuple #[.slice none 0 0, .bool false, .int .i64 2]) ∧ ListsP ls m n ∧ 10 < n) ∨
  (e = .returned (.tuple #[.slice none 0 0, .bool false, .int .i64 0]) ∧ ListsP ls m n ∧ n ≤ 10 ∧ ¬ ∃ f, FamC g n (natL ls) f) ∨
  (∃ p c f, e = .returned (.tuple #[.slice p n c, .bool true, .int .i64 0]) ∧ ListsP ls m n ∧ n ≤ 10 ∧ FamC g n (natL ls) f ∧ SrcI W' p n (fun j => (f j : Int)))
set_option maxRecDepth 100000 in
set_option maxHeartbeats 4000000 in
theorem Colours_ok (n : Nat) (a la : Option Addr) (cap m lc : Nat) (ps : List (Int × Int)) (ls : Nat → List Int) (w : World) (hT : Tab w) (hG : Good n ps a w) (hm : m ≤ 1099511627776) (hll : ∀ i, (ls i).length ≤ 1000) (hL : LstI w la m ls) :
    Calls Tryd.prog 43 #[.int .i64 (n : Int), .slice a ps.length cap, .slice la m lc] w fun e w' => ColsA (ofE n ps) n ls m w' e ∧ Below w.heap.size w w' := by
  have HO := Lib.hid (gopen_ok n a cap ps w hG.hl hG.hg hG.n1 hG.n2 hG.ok)
  have HT := Lib.hid hT
  have hn1 := hG.n1
  have hn2 := hG.n2
  have HU := Lib.hid (und_ofE hG.ok)
  have HSM := Lib.hid (ofE_sm hG.n2 hG.ok)
  have HSE : Hid (∀ W, Below w.heap.size w W → Calls Tryd.prog 67 #[.slice la m lc, .int .i64 (n : Int)] W fun e w' => SetsA ls m n w' W.heap.size e ∧ Below W.heap.size W w') := fun W hW => sets_any la m n lc ls W hm hll (hL.below hW (Nat.le_refl _))
  clear hT hG hL
  obtain ⟨g, hg⟩ : ∃ g, Hid (g = ofE n ps) := ⟨_, rfl⟩
  rw [← hg.out] at HO HU HSM ⊢
  go_enter Tryd.func43, Tryd.ntmps43
  go_upto_region 4 with (go_at_call 52; refine HO.out.mono ?_; rintro e w1 ⟨B, rfl, hBl, hg1, hb1⟩; have HG1 := Lib.hid hg1; have HB1 := Lib.hid hb1; clear hBl hg1 hb1)
  have HC := Lib.hid (HSE.out w1 HB1.out)
  clear HSE HO
  go_upto_region 5 with (go_at_call 67; refine (HC.out).mono ?_; rintro e w2 ⟨hs2, hB2⟩; have HB2 := Lib.hid hB2; clear hB2; rcases hs2 with ⟨rfl, hn⟩ | ⟨p2, c2, rfl, hl2, hr2⟩)
  · have HN := Lib.hid hn
    clear hn
    go_wp2
    refine bodyPost_ret (v := .tuple #[.slice none 0 0, .bool false, .int .i64 70]) (by simp [results, Tryd.f43, go_sem]) rfl ?_
    exact ⟨.inl ⟨rfl, HN.out⟩, HB1.out.trans (HB2.out.mono HB1.out.size)⟩
  · have HLP := Lib.hid hl2
    have hml := hl2.2
    have HBW := Lib.hid (HB1.out.trans (HB2.out.mono HB1.out.size))
    have hru : RowU w2 p2 n (maskL ls m) := by rw [← hml]; exact hr2.congr fun i hi => by unfold maskL; rw [if_pos hi]
    have HL64 : Hid (∀ i, maskL ls m i < 18446744073709551616) := fun i => by
      unfold maskL
      by_cases h : i < m
      · rw [if_pos h]; exact mskTo_lt (hl2.1 i h)
      · rw [if_neg h]; decide
    have HMK : Hid (∀ i, i < n → ∀ x, x ∈ natL ls i ↔ (maskL ls m i).testBit x = true) := fun i hi x => by
      have hi' : i < m := by omega
      unfold maskL
      rw [if_pos hi', mem_natL (hl2.1 i hi'), mask_of (hl2.1 i hi')]
    obtain ⟨lb, lq, rfl, hlb, hlc⟩ := hru (by omega)
    have HRL : Hid (lb < w2.heap.size ∧ ∀ v, v < n → w2.cell? ⟨lb, lq + v, none⟩ = some (.int .u64 (maskL ls m v : Nat))) := ⟨hlb, hlc⟩
    clear hl2 hr2 HC hru hlb hlc
    by_cases h12 : 10 < n
    · have g1 : (10 : Int) < (n : Int) := by omega
      go_wp2
      refine bodyPost_ret (v := .tuple #[.slice none 0 0, .bool false, .int .i64 2]) (by simp [results, Tryd.f43, go_sem]) rfl ?_
      exact ⟨.inr (.inl ⟨rfl, HLP.out, h12⟩), HBW.out⟩
    · have g1 : ¬ (10 : Int) < (n : Int) := by omega
      have g2 : decide ((10 : Int) < (n : Int)) = false := decide_eq_false g1
      rw [hml]
      have HCH := Lib.hid (colours_any B n a cap ps.length g lb lq c2 (maskL ls m) w2 (HT.out.below HBW.out (Nat.le_refl _)) (HG1.out.below HB2.out (Nat.le_refl _)) HSM.out HU.out hn1 hn2 HL64.out HRL.out)
      go_upto_region 10 with (go_at_call 70; refine (HCH.out).mono ?_; rintro e w3 ⟨hs3, hB3⟩; have HB3 := Lib.hid (HBW.out.trans (hB3.mono HBW.out.size)); clear hB3; rcases hs3 with ⟨rfl, hn⟩ | ⟨ob, cc, rfl, -, hr3, -, ho3⟩)
      · have HN : Hid (¬ ∃ f, FamC g n (natL ls) f) := fun ⟨f, F⟩ => hn ⟨f, colOK_of HU.out HMK.out F⟩
        clear hn
        go_wp2
        refine bodyPost_ret (v := .tuple #[.slice none 0 0, .bool false, .int .i64 0]) (by simp [results, Tryd.f43, go_sem]) rfl ?_
        exact ⟨.inr (.inr (.inl ⟨rfl, HLP.out, by omega, HN.out⟩)), HB3.out⟩
      · have HF := Lib.hid (famC_of HMK.out ho3)
        have HS : Hid (SrcI w3 (some ⟨ob, 0, none⟩) n (fun j => (cc j : Int))) := fun _ => ⟨ob, 0, rfl, hr3.lt, fun j hj => by rw [Nat.zero_add]; exact hr3.cell hj⟩
        clear hr3 ho3
        go_wp2
        refine bodyPost_ret (v := .tuple #[.slice (some ⟨ob, 0, none⟩) n n, .bool true, .int .i64 0]) (by simp [results, Tryd.f43, go_sem]) rfl ?_
        exact ⟨.inr (.inr (.inr ⟨_, _, cc, rfl, HLP.out, by omega, HF.out, HS.out⟩)), HB3.out⟩
end Go.Proofs.YtpknnjcbcndbbaaDoor
namespace Go.Proofs.YtpknnjcbcndbbaaDoor
open Go.RowKit

theorem bl_size (s : Nat) : ∀ k, (bl s k).length = szTo s k
  | 0 => by simp [bl, szTo]
  | k + 1 => by
    rw [bl_succ, List.length_append, bl_size s k, szTo, tb]
    cases s.testBit k <;> simp
theorem cnt_size (s : Nat) : cnt s = size s := bl_size s 64
theorem szTo_sub {s t : Nat} (h : ∀ x, s.testBit x = true → t.testBit x = true) : ∀ k, szTo s k ≤ szTo t k
  | 0 => Nat.le_refl _
  | k + 1 => by
    have ih := szTo_sub h k
    have : tb s k ≤ tb t k := by
      unfold tb
      cases hs : s.testBit k with
      | false => simp
      | true => rw [h k hs]; exact Nat.le_refl _
    simp only [szTo]; omega
theorem wtn_sub {g : List Nat} {v s t : Nat} (h : ∀ x, s.testBit x = true → t.testBit x = true) : wtn g v s ≤ wtn g v t :=
  szTo_sub (fun x hx => by
    rw [Nat.testBit_and, Bool.and_eq_true] at hx ⊢
    exact ⟨hx.1, h x hx.2⟩) 64
theorem loo_ge {g : List Nat} {n : Nat} : ∀ {m j : Nat}, j < m → wtn g (pk g n j) (lf g n j) ≤ loo g n m
  | 0, j, h => by omega
  | m + 1, j, h => by
    unfold loo
    by_cases e : j = m
    · subst e; exact Nat.le_max_right _ _
    · exact Nat.le_trans (loo_ge (m := m) (by omega)) (Nat.le_max_left _ _)
theorem loo_at {g : List Nat} {n : Nat} : ∀ {m : Nat}, 0 < m → ∃ j, j < m ∧ loo g n m = wtn g (pk g n j) (lf g n j)
  | 0, h => by omega
  | m + 1, _ => by
    unfold loo
    by_cases h : loo g n m ≤ wtn g (pk g n m) (lf g n m)
    · exact ⟨m, by omega, Nat.max_eq_right h⟩
    · by_cases h0 : m = 0
      · subst h0; exact absurd (Nat.zero_le _) h
      · obtain ⟨j, hj, e⟩ := loo_at (g := g) (n := n) (m := m) (by omega)
        exact ⟨j, by omega, by rw [Nat.max_eq_left (by omega), e]⟩
/-- an element of a that b lacks -/
theorem pick_out {a b : List Nat} (hn : a.Nodup) (hl : b.length < a.length) : ∃ x, x ∈ a ∧ x ∉ b := Classical.byContradiction fun h => by
  have := nodup_sub a b hn fun x hx => Classical.byContradiction fun hb => h ⟨x, hx, hb⟩
  omega
theorem greedy {g : List Nat} {n : Nat} {ls : Nat → List Nat} (U : Und g n) (hn : n ≤ 16) (hN : ∀ v, v < n → (ls v).Nodup) (hL : ∀ v, v < n → loo g n n < (ls v).length) : ∀ d, d ≤ n → ∃ f : Nat → Nat, (∀ v, (lf g n (n - d)).testBit v = true → f v ∈ ls v) ∧ ∀ v w, (lf g n (n - d)).testBit v = true → (lf g n (n - d)).testBit w = true → adj g v w → f v ≠ f w
  | 0, _ => by
    have e : lf g n (n - 0) = 0 := (lf_zero (Nat.le_refl n)).2 rfl
    rw [e]
    exact ⟨fun _ => 0, fun v h => by simp at h, fun v w h => by simp at h⟩
  | d + 1, hd => by
    obtain ⟨f, h1, h2⟩ := greedy U hn hN hL d (by omega)
    obtain ⟨j, hj⟩ : ∃ j, j = n - (d + 1) := ⟨_, rfl⟩
    have hjn : j < n := by omega
    rw [show n - d = j + 1 by omega] at h1 h2
    rw [← hj]
    obtain ⟨p1, p2, -, -⟩ := pk_facts (g := g) hjn
    have hlf : ∀ v, (lf g n (j + 1)).testBit v = true ↔ (lf g n j).testBit v = true ∧ v ≠ pk g n j := fun v => by
      show (ldiff (lf g n j) (pw (bst g n (lf g n j)))).testBit v = true ↔ _
      rw [testBit_ldiff, pw, Nat.testBit_two_pow]
      show _ ↔ _ ∧ v ≠ bst g n (lf g n j)
      by_cases e : bst g n (lf g n j) = v
      · simp [e]
      · simp [e, Ne.symm e]
    have hlen : ((bl ((g[pk g n j]?.getD 0) &&& lf g n j) 64).map f).length < (ls (pk g n j)).length := by
      rw [List.length_map]
      have e1 := bl_size ((g[pk g n j]?.getD 0) &&& lf g n j) 64
      have e2 := loo_ge (g := g) (n := n) hjn
      have e3 := hL _ p1
      have e4 : wtn g (pk g n j) (lf g n j) = szTo ((g[pk g n j]?.getD 0) &&& lf g n j) 64 := rfl
      omega
    obtain ⟨x, hx1, hx2⟩ := pick_out (hN _ p1) hlen
    have hfree : ∀ w, (lf g n j).testBit w = true → adj g (pk g n j) w → f w ≠ x := fun w hw ha e => hx2 (List.mem_map.2 ⟨w, mem_bl.2 ⟨by have := lf_lt j hw; omega, by rw [Nat.testBit_and, hw, Bool.and_true]; exact ha⟩, e⟩)
    refine ⟨fun v => if v = pk g n j then x else f v, fun v hv => ?_, fun v w hv hw ha => ?_⟩
    · show (if v = pk g n j then x else f v) ∈ ls v
      by_cases e : v = pk g n j
      · rw [if_pos e, e]; exact hx1
      · rw [if_neg e]; exact h1 v ((hlf v).2 ⟨hv, e⟩)
    · show (if v = pk g n j then x else f v) ≠ (if w = pk g n j then x else f w)
      have hne := U.ne _ _ ha
      by_cases e : v = pk g n j
      · rw [if_pos e, if_neg (fun e' => hne (by rw [e, e']))]
        exact fun e' => hfree w hw (e ▸ ha) e'.symm
      · rw [if_neg e]
        by_cases e2 : w = pk g n j
        · rw [if_pos e2]; exact hfree v hv (by rw [← e2]; exact U.sym _ _ ha)
        · rw [if_neg e2]; exact h2 v w ((hlf v).2 ⟨hv, e⟩) ((hlf w).2 ⟨hw, e2⟩) ha
theorem greedy_fam {g : List Nat} {n : Nat} {ls : Nat → List Nat} (U : Und g n) (hn : n ≤ 16) (hN : ∀ v, v < n → (ls v).Nodup) (hL : ∀ v, v < n → loo g n n < (ls v).length) : ∃ f, FamC g n ls f := by
  obtain ⟨f, h1, h2⟩ := greedy U hn hN hL n (Nat.le_refl _)
  have e : ∀ v, v < n → (lf g n (n - n)).testBit v = true := fun v hv => by
    rw [Nat.sub_self]; show (full n).testBit v = true
    rw [testBit_full]; simpa using hv
  exact ⟨f, fun i hi => h1 i (e i hi), fun i k hi hk _ ha => h2 i k (e i hi) (e k hk) ha⟩
end Go.Proofs.YtpknnjcbcndbbaaDoor
namespace Go.Proofs.YtpknnjcbcndbbaaDoor
open Go.RowKit

def sumF (f : Nat → Nat) : Nat → Nat
  | 0 => 0
  | k + 1 => sumF f k + f k
theorem sumF_le {f h : Nat → Nat} : ∀ {k : Nat}, (∀ i, i < k → f i ≤ h i) → sumF f k ≤ sumF h k
  | 0, _ => Nat.le_refl _
  | k + 1, H => by
    have := sumF_le (k := k) fun i hi => H i (by omega)
    have := H k (by omega)
    simp only [sumF]; omega
theorem sumF_congr {f h : Nat → Nat} {k : Nat} (H : ∀ i, i < k → f i = h i) : sumF f k = sumF h k :=
  Nat.le_antisymm (sumF_le fun i hi => Nat.le_of_eq (H i hi)) (sumF_le fun i hi => Nat.le_of_eq (H i hi).symm)
theorem sumF_add (f h : Nat → Nat) : ∀ k, sumF (fun i => f i + h i) k = sumF f k + sumF h k
  | 0 => rfl
  | k + 1 => by simp only [sumF]; rw [sumF_add f h k]; omega
theorem sumF_zero : ∀ k, sumF (fun _ => 0) k = 0
  | 0 => rfl
  | k + 1 => by simp only [sumF]; rw [sumF_zero k]
theorem sumF_swap (a : Nat → Nat → Nat) (m : Nat) : ∀ n, sumF (fun i => sumF (a i) m) n = sumF (fun j => sumF (fun i => a i j) n) m
  | 0 => by simp only [sumF]; exact (sumF_zero m).symm
  | n + 1 => by
    simp only [sumF]
    rw [sumF_swap a m n, sumF_add]
theorem sumF_mul (d : Nat) (f : Nat → Nat) : ∀ k, sumF (fun i => d * f i) k = d * sumF f k
  | 0 => rfl
  | k + 1 => by simp only [sumF]; rw [sumF_mul d f k, Nat.mul_add]
theorem sumF_mono {f : Nat → Nat} {m : Nat} : ∀ d, sumF f m ≤ sumF f (m + d)
  | 0 => Nat.le_refl _
  | d + 1 => Nat.le_trans (sumF_mono d) (by show _ ≤ sumF f (m + d) + f (m + d); omega)
theorem szTo_sum (s : Nat) : ∀ k, szTo s k = sumF (tb s) k
  | 0 => rfl
  | k + 1 => by simp only [szTo, sumF]; rw [szTo_sum s k]
theorem sumW_sum (g : List Nat) (s : Nat) : ∀ k, sumW g s k = sumF (fun v => if s.testBit v = true then wtn g v s else 0) k
  | 0 => rfl
  | k + 1 => by simp only [sumW, sumF]; rw [sumW_sum g s k]
/-- the edge from v to x, from the side t, both in s -/
def arc (g : List Nat) (s t v x : Nat) : Nat := if s.testBit v = true ∧ s.testBit x = true ∧ (g[v]?.getD 0).testBit x = true ∧ t.testBit v = true then 1 else 0
theorem two_room {g : List Nat} {n s t d : Nat} (U : Und g n) (hn : n ≤ 16) (T : TwoCol g t) (hd : ∀ v, v < n → size (g[v]?.getD 0) ≤ d) (hs : ∀ v, s.testBit v = true → v < n) (hodd : size s % 2 = 1) : sumW g s n ≤ d * (size s - 1) := by
  -- both directions of each edge
  have h1 : sumW g s n ≤ sumF (fun v => sumF (fun x => arc g s t v x + arc g s t x v) 64) 64 := by
    rw [sumW_sum]
    refine Nat.le_trans (sumF_le (h := fun v => sumF (fun x => arc g s t v x + arc g s t x v) 64) fun v hv => ?_) (by have := sumF_mono (f := fun v => sumF (fun x => arc g s t v x + arc g s t x v) 64) (m := n) (64 - n); rwa [show n + (64 - n) = 64 by omega] at this)
    by_cases hb : s.testBit v = true
    · rw [if_pos hb]
      unfold wtn size
      rw [szTo_sum]
      refine sumF_le fun x _ => ?_
      unfold tb
      rw [Nat.testBit_and]
      by_cases h2 : (g[v]?.getD 0).testBit x = true
      · by_cases h3 : s.testBit x = true
        · have h4 := U.sym v x h2
          have h5 := T v x h2
          rw [h2, h3]
          unfold arc
          by_cases h6 : t.testBit v = true
          · rw [if_pos ⟨hb, h3, h2, h6⟩]; simp
          · have h7 : t.testBit x = true := by
              cases e : t.testBit x with
              | true => rfl
              | false => exact absurd (by rw [e]; simpa using h6) h5
            rw [if_pos (c := s.testBit x = true ∧ s.testBit v = true ∧ (g[x]?.getD 0).testBit v = true ∧ t.testBit x = true) ⟨h3, hb, h4, h7⟩]; simp
        · rw [show s.testBit x = false by simpa using h3]; simp
      · rw [show (g[v]?.getD 0).testBit x = false by simpa using h2]; simp
    · rw [if_neg hb]; exact Nat.zero_le _
  have h2 : sumF (fun v => sumF (fun x => arc g s t v x + arc g s t x v) 64) 64 = 2 * sumF (fun v => sumF (arc g s t v) 64) 64 := by
    rw [sumF_congr (h := fun v => sumF (arc g s t v) 64 + sumF (fun x => arc g s t x v) 64) fun v _ => sumF_add _ _ 64, sumF_add, sumF_swap (fun v x => arc g s t x v) 64 64]
    show sumF (fun v => sumF (arc g s t v) 64) 64 + sumF (fun v => sumF (arc g s t v) 64) 64 = _
    omega
  have h3 : sumF (fun v => sumF (arc g s t v) 64) 64 ≤ d * sumF (fun v => if s.testBit v = true ∧ t.testBit v = true then 1 else 0) 64 := by
    rw [← sumF_mul]
    refine sumF_le fun v _ => ?_
    by_cases hc : s.testBit v = true ∧ t.testBit v = true
    · rw [if_pos hc, Nat.mul_one]
      refine Nat.le_trans ?_ (hd v (hs v hc.1))
      unfold size
      rw [szTo_sum]
      refine sumF_le fun x _ => ?_
      unfold arc tb
      split
      · rename_i h; rw [h.2.2.1]; simp
      · exact Nat.zero_le _
    · have e0 : sumF (arc g s t v) 64 = 0 := (sumF_congr (h := fun _ => 0) fun x _ => by unfold arc; exact if_neg fun h => hc ⟨h.1, h.2.2.2⟩).trans (sumF_zero 64)
      rw [e0]; exact Nat.zero_le _
  have h4 : sumF (fun v => sumF (arc g s t v) 64) 64 ≤ d * sumF (fun x => if s.testBit x = true ∧ ¬ t.testBit x = true then 1 else 0) 64 := by
    rw [sumF_swap, ← sumF_mul]
    refine sumF_le fun x _ => ?_
    by_cases hc : s.testBit x = true ∧ ¬ t.testBit x = true
    · rw [if_pos hc, Nat.mul_one]
      refine Nat.le_trans ?_ (hd x (hs x hc.1))
      unfold size
      rw [szTo_sum]
      refine sumF_le fun v _ => ?_
      unfold arc tb
      split
      · rename_i h; rw [show (g[x]?.getD 0).testBit v = true from U.sym v x h.2.2.1]; simp
      · exact Nat.zero_le _
    · have e0 : sumF (fun i => arc g s t i x) 64 = 0 := (sumF_congr (h := fun _ => 0) fun v _ => by unfold arc; exact if_neg fun h => hc ⟨h.2.1, fun h' => T v x h.2.2.1 (by rw [h', h.2.2.2])⟩).trans (sumF_zero 64)
      rw [e0]; exact Nat.zero_le _
  have h5 : size s = sumF (fun v => if s.testBit v = true ∧ t.testBit v = true then 1 else 0) 64 + sumF (fun x => if s.testBit x = true ∧ ¬ t.testBit x = true then 1 else 0) 64 := by
    rw [← sumF_add]
    unfold size
    rw [szTo_sum]
    refine sumF_congr fun v _ => ?_
    unfold tb
    cases s.testBit v <;> cases t.testBit v <;> simp
  generalize sumF (fun v => if s.testBit v = true ∧ t.testBit v = true then 1 else 0) 64 = A at *
  generalize sumF (fun x => if s.testBit x = true ∧ ¬ t.testBit x = true then 1 else 0) 64 = B at *
  generalize sumF (fun v => sumF (arc g s t v) 64) 64 = e at *
  rw [h2] at h1
  by_cases hAB : A ≤ B
  · have : 2 * A ≤ size s - 1 := by omega
    have h6 := Nat.mul_le_mul_left d this
    have : d * (2 * A) = 2 * (d * A) := by rw [Nat.mul_left_comm]
    omega
  · have : 2 * B ≤ size s - 1 := by omega
    have h6 := Nat.mul_le_mul_left d this
    have : d * (2 * B) = 2 * (d * B) := by rw [Nat.mul_left_comm]
    omega
/-- the hues at a vertex are as many as its edges -/
theorem deg_hues {g : List Nat} {n k : Nat} {us : Nat → Nat} {col : Nat × Nat → Option Nat} (U : Und g n) (H : HInv g us col) (hall : ∀ x y, adj g x y → ∃ h, col (ed x y) = some h ∧ h < k) (u : Nat) : size (g[u]?.getD 0) ≤ k := by
  have hm : ∀ x ∈ bl (g[u]?.getD 0) 64, ∃ h, col (ed u x) = some h ∧ h < k := fun x hx => hall u x (mem_bl.1 hx).2
  have hnd : ((bl (g[u]?.getD 0) 64).map fun x => (col (ed u x)).getD 0).Nodup := by
    unfold List.Nodup
    rw [List.pairwise_map]
    refine List.Pairwise.imp_of_mem ?_ (bl_pair (g[u]?.getD 0) 64)
    intro x y hx hy hxy e
    obtain ⟨h, hx1, -⟩ := hm x hx
    obtain ⟨h', hy1, -⟩ := hm y hy
    rw [hx1, hy1] at e
    simp only [Option.getD_some] at e
    subst e
    have := H.inj u x y h hx1 hy1
    omega
  have := nodup_sub _ (List.range k) hnd fun z hz => by
    obtain ⟨x, hx, rfl⟩ := List.mem_map.1 hz
    obtain ⟨h, hx1, hk⟩ := hm x hx
    rw [hx1, List.mem_range]; exact hk
  rw [List.length_map, List.length_range, bl_size] at this
  exact this
/-- the greatest hue and one -/
def mxH (f : Nat → Int) : Nat → Int
  | 0 => 0
  | j + 1 => max (mxH f j) (f j + 1)
theorem mxH_ge {f : Nat → Int} : ∀ {m j : Nat}, j < m → f j + 1 ≤ mxH f m
  | 0, j, h => by omega
  | m + 1, j, h => by
    unfold mxH
    by_cases e : j = m
    · subst e; omega
    · have := mxH_ge (f := f) (m := m) (j := j) (by omega)
      omega
theorem mxH_le {f : Nat → Int} {D : Int} (h0 : 0 ≤ D) : ∀ {m : Nat}, (∀ j, j < m → f j + 1 ≤ D) → mxH f m ≤ D
  | 0, _ => h0
  | m + 1, h => by
    have := mxH_le h0 (m := m) fun j hj => h j (by omega)
    have := h m (by omega)
    unfold mxH; omega
theorem mxH_nonneg {f : Nat → Int} : ∀ {m : Nat}, 0 ≤ mxH f m
  | 0 => Int.le_refl _
  | m + 1 => by
    have := mxH_nonneg (f := f) (m := m)
    unfold mxH; omega
theorem konig_plain {n : Nat} {ps : List (Int × Int)} {us : Nat → Nat} {col : Nat × Nat → Option Nat} (hn1 : 1 ≤ n) (hn : n ≤ 16) (hok : edgesB n ps = true) (H : HInv (ofE n ps) us col) (hall : ∀ q ∈ ps, col (pr q) ≠ none) : (dgTo (ofE n ps) 16 : Int) ≤ mxH (hf col ps) ps.length := by
  have h0 := mxH_nonneg (f := hf col ps) (m := ps.length)
  have := dgTo_most (ofE n ps) (mxH (hf col ps) ps.length).toNat 16 fun u _ => deg_hues (und_ofE hok) H (k := (mxH (hf col ps) ps.length).toNat) (fun x y ha => by
    obtain ⟨q, hq, hxy⟩ := (adj_ofE hok x y).1 ha
    obtain ⟨j, hj, hjq⟩ := List.getElem_of_mem hq
    have hqa : qa ps j = q := by unfold qa; rw [List.getElem?_eq_getElem hj, hjq]; rfl
    have hb := edgesB_mem hok q hq
    have hed : pr q = ed x y := by
      unfold pr ed
      rcases hxy with ⟨h1, h2⟩ | ⟨h1, h2⟩
      · rw [h1, h2, Nat.min_eq_left (by omega), Nat.max_eq_right (by omega)]
      · rw [h1, h2, Nat.min_eq_right (by omega), Nat.max_eq_left (by omega)]
    obtain ⟨h, hh⟩ := Option.ne_none_iff_exists'.1 (hall q hq)
    refine ⟨h, hed ▸ hh, ?_⟩
    have h1 := mxH_ge (f := hf col ps) hj
    unfold hf at h1
    rw [hqa, hh] at h1
    simp only [Option.getD_some] at h1
    unfold hf at *
    omega) u
  omega
theorem few_upper {ps : List (Int × Int)} {col : Nat × Nat → Option Nat} {D : Nat} (hall : ∀ q ∈ ps, col (pr q) ≠ none) (h : ∀ q ∈ ps, ∀ x, col (pr q) = some x → x < D) : mxH (hf col ps) ps.length ≤ (D : Int) :=
  mxH_le (by omega) fun j hj => by have := hf_below hall h j hj; omega
theorem few_two {m c : Nat} {qs : List (Int × Int)} {a : Option Addr} {w : World} {s : Nat} {col : Nat × Nat → Option Nat} (hT : Tab w) (hG : Good m qs a w) (T : TwoCol (ofE m qs) s)
    (h : (∀ q ∈ qs, ∀ h, col (pr q) = some h → h < dgTo (ofE m qs) 16) ∨ ((∀ q ∈ qs, ∀ h, col (pr q) = some h → h ≤ dgTo (ofE m qs) 16) ∧ ((∃ s, s < pw m ∧ Over (ofE m qs) m (dgTo (ofE m qs) 16) s) ∨ ¬ ∃ col, HueOK (ofE m qs) qs (fun _ => low (dgTo (ofE m qs) 16)) col))) : ∀ q ∈ qs, ∀ h, col (pr q) = some h → h < dgTo (ofE m qs) 16 := by
  rcases h with h | ⟨-, ⟨t, ht, ho⟩ | hn⟩
  · exact h
  · have hdl : ∀ v, v < m → size ((ofE m qs)[v]?.getD 0) ≤ dgTo (ofE m qs) 16 := fun v hv => dgTo_le _ 16 v (by have := hG.n2; omega)
    have hts : ∀ v, t.testBit v = true → v < m := fun v hv => Classical.byContradiction fun hc => by
      have h1 : t < 2 ^ v := Nat.lt_of_lt_of_le ht (Nat.pow_le_pow_right (by decide) (by omega))
      rw [Nat.testBit_lt_two_pow h1] at hv
      cases hv
    have := two_room (und_ofE hG.ok) hG.n2 T hdl hts ho.1
    have := ho.2
    omega
  · refine absurd ?_ hn
    obtain ⟨e, w', _, ⟨hR, -⟩, -⟩ := Konig_ok m a c qs w hT hG []
    rcases hR with ⟨-, hS⟩ | ⟨v, us, col', s', -, -, -, hI, hd, hall⟩
    · rcases hS with ⟨h1, -⟩ | ⟨-, -, h1⟩
      · cases h1
      · exact absurd T (h1 s)
    · refine ⟨col', ⟨us, hI⟩, fun i hi => ?_⟩
      have hm : qa qs i ∈ qs := by unfold qa; rw [List.getElem?_eq_getElem hi]; exact List.getElem_mem hi
      obtain ⟨h, hh⟩ := Option.ne_none_iff_exists'.1 (hall _ hm)
      exact ⟨h, hh, by rw [low_bit]; have := hd _ _ hh; simpa using this⟩
end Go.Proofs.YtpknnjcbcndbbaaDoor
namespace Go.Proofs.YtpknnjcbcndbbaaDoor
open Go.RowKit

/-- how many there are below n -/
def cn (p : Nat → Bool) (n : Nat) : Nat := ((List.range n).filter p).length
theorem cn_succ (p : Nat → Bool) (n : Nat) : cn p (n + 1) = cn p n + (p n).toNat := by
  unfold cn
  rw [List.range_succ, List.filter_append, List.length_append, List.filter_cons, List.filter_nil]
  cases p n <;> rfl
theorem cn_le {p q : Nat → Bool} : ∀ {n : Nat}, (∀ k, k < n → p k = true → q k = true) → cn p n ≤ cn q n
  | 0, _ => Nat.le_refl _
  | n + 1, h => by
    rw [cn_succ, cn_succ]
    have := cn_le (n := n) fun k hk => h k (by omega)
    have := h n (by omega)
    cases hp : p n with
    | false => simp; omega
    | true => rw [this hp]; omega
theorem cn_lt {p q : Nat → Bool} {j : Nat} : ∀ {n : Nat}, (∀ k, k < n → p k = true → q k = true) → j < n → p j = false → q j = true → cn p n < cn q n
  | 0, _, h, _, _ => by omega
  | n + 1, h, hj, hp, hq => by
    rw [cn_succ, cn_succ]
    by_cases e : j = n
    · subst e
      have := cn_le (n := j) fun k hk => h k (by omega)
      rw [hp, hq]; simp; omega
    · have := cn_lt (n := n) (fun k hk => h k (by omega)) (by omega) hp hq
      have := h n (by omega)
      cases hp : p n with
      | false => simp; omega
      | true => rw [this hp]; omega
theorem cn_top (p : Nat → Bool) (n : Nat) : cn p n ≤ n := by
  unfold cn
  exact Nat.le_trans (List.length_filter_le _ _) (by rw [List.length_range]; omega)

section
variable (va vb od : Nat → Nat)
/-- j goes before i: at the one side the greater number, at the other one the lesser -/
def Dom (j i : Nat) : Prop := (va j = va i ∧ od i < od j) ∨ (vb j = vb i ∧ od j < od i)
instance decDom (j i : Nat) : Decidable (Dom va vb od j i) := inferInstanceAs (Decidable ((va j = va i ∧ od i < od j) ∨ (vb j = vb i ∧ od j < od i)))
structure Kern (left M : List Nat) : Prop where
  sub : ∀ i ∈ M, i ∈ left
  nd : M.Nodup
  apart : ∀ i ∈ M, ∀ j ∈ M, i ≠ j → va i ≠ va j ∧ vb i ≠ vb j
  dom : ∀ i ∈ left, i ∈ M ∨ ∃ j ∈ M, Dom va vb od j i
/-- edges with an end in common have different numbers -/
def Sep (L : Nat) : Prop := ∀ i j, i < L → j < L → i ≠ j → (va i = va j ∨ vb i = vb j) → od i ≠ od j
structure GS (left : List Nat) (has : Nat → Option Nat) (ref busy : Nat → Option Bool) : Prop where
  own : ∀ w i, has w = some i → i ∈ left ∧ vb i = w ∧ ref i ≠ some true
  rdom : ∀ i ∈ left, ref i = some true → ∃ j, has (vb i) = some j ∧ od j < od i
  busy_iff : ∀ v, busy v = some true ↔ ∃ w i, has w = some i ∧ va i = v
  one : ∀ w w' i i', has w = some i → has w' = some i' → va i = va i' → i = i'
  best : ∀ w i, has w = some i → ∀ j ∈ left, va j = va i → od i < od j → ref j = some true
theorem GS.start (left : List Nat) : GS va vb od left (fun _ => none) (fun _ => none) (fun _ => none) :=
  { own := fun _ _ h => by cases h
    rdom := fun _ _ h => by cases h
    busy_iff := fun v => ⟨fun h => (by cases h), fun ⟨_, _, h, _⟩ => (by cases h)⟩
    one := fun _ _ _ _ h => by cases h
    best := fun _ _ h => by cases h }
variable {va vb od} {left : List Nat} {has : Nat → Option Nat} {ref busy : Nat → Option Bool} {L : Nat}
theorem GS.refuse (G : GS va vb od left has ref busy) {i old : Nat} (hb : busy (va i) ≠ some true) (ho : has (vb i) = some old) (hlt : od old < od i) : GS va vb od left has (setF ref i (some true)) busy where
  own := fun w j hj => by
    obtain ⟨h1, h2, h3⟩ := G.own w j hj
    refine ⟨h1, h2, ?_⟩
    unfold setF
    by_cases e : j = i
    · subst e; exact absurd ((G.busy_iff _).2 ⟨w, j, hj, rfl⟩) hb
    · rw [if_neg e]; exact h3
  rdom := fun j hj hr => by
    unfold setF at hr
    by_cases e : j = i
    · subst e; exact ⟨old, ho, hlt⟩
    · rw [if_neg e] at hr; exact G.rdom j hj hr
  busy_iff := G.busy_iff
  one := G.one
  best := fun w k hk j hj h1 h2 => by
    unfold setF
    by_cases e : j = i
    · rw [if_pos e]
    · rw [if_neg e]; exact G.best w k hk j hj h1 h2
/-- the edge i is taken, the place being free -/
theorem GS.take (G : GS va vb od left has ref busy) {i : Nat} (hi : i ∈ left) (hr : ref i ≠ some true) (hb : busy (va i) ≠ some true) (ho : has (vb i) = none) (hbest : ∀ j ∈ left, va j = va i → od i < od j → ref j = some true) : GS va vb od left (setF has (vb i) (some i)) ref (setF busy (va i) (some true)) where
  own := fun w j hj => by
    unfold setF at hj
    by_cases e : w = vb i
    · rw [if_pos e] at hj; cases hj; exact ⟨hi, e.symm, hr⟩
    · rw [if_neg e] at hj; exact G.own w j hj
  rdom := fun j hj h => by
    obtain ⟨k, h1, h2⟩ := G.rdom j hj h
    have : vb j ≠ vb i := fun e => by rw [e, ho] at h1; cases h1
    exact ⟨k, by unfold setF; rw [if_neg this]; exact h1, h2⟩
  busy_iff := fun v => by
    unfold setF
    constructor
    · intro h
      by_cases e : v = va i
      · exact ⟨vb i, i, by rw [if_pos rfl], e.symm⟩
      · rw [if_neg e] at h
        obtain ⟨w, k, h1, h2⟩ := (G.busy_iff v).1 h
        refine ⟨w, k, ?_, h2⟩
        rw [if_neg (fun e' => by rw [e', ho] at h1; cases h1)]; exact h1
    · rintro ⟨w, k, h1, h2⟩
      by_cases e : v = va i
      · rw [if_pos e]
      · rw [if_neg e]
        by_cases e' : w = vb i
        · rw [if_pos e'] at h1; cases h1; exact absurd h2.symm e
        · rw [if_neg e'] at h1; exact (G.busy_iff v).2 ⟨w, k, h1, h2⟩
  one := fun w w' k k' h h' e => by
    unfold setF at h h'
    by_cases e1 : w = vb i
    · rw [if_pos e1] at h; cases h
      by_cases e2 : w' = vb i
      · rw [if_pos e2] at h'; cases h'; rfl
      · rw [if_neg e2] at h'
        exact absurd ((G.busy_iff _).2 ⟨w', k', h', e.symm⟩) hb
    · rw [if_neg e1] at h
      by_cases e2 : w' = vb i
      · rw [if_pos e2] at h'; cases h'
        exact absurd ((G.busy_iff _).2 ⟨w, k, h, e⟩) hb
      · rw [if_neg e2] at h'; exact G.one w w' k k' h h' e
  best := fun w k hk j hj h1 h2 => by
    unfold setF at hk
    by_cases e : w = vb i
    · rw [if_pos e] at hk; cases hk; exact hbest j hj h1 h2
    · rw [if_neg e] at hk; exact G.best w k hk j hj h1 h2
/-- the edge i is taken for another one -/
theorem GS.swap (G : GS va vb od left has ref busy) {i old : Nat} (hi : i ∈ left) (hr : ref i ≠ some true) (hb : busy (va i) ≠ some true) (ho : has (vb i) = some old) (hlt : od i < od old) (hbest : ∀ j ∈ left, va j = va i → od i < od j → ref j = some true) : GS va vb od left (setF has (vb i) (some i)) (setF ref old (some true)) (setF (setF busy (va old) (some false)) (va i) (some true)) := by
  have hold := G.own _ _ ho
  have hne : old ≠ i := fun e => by rw [e] at hlt; omega
  have hva : va i ≠ va old := fun e => hb ((G.busy_iff _).2 ⟨_, old, ho, e.symm⟩)
  exact {
    own := fun w j hj => by
      unfold setF at hj
      by_cases e : w = vb i
      · rw [if_pos e] at hj; cases hj
        exact ⟨hi, e.symm, by unfold setF; rw [if_neg (Ne.symm hne)]; exact hr⟩
      · rw [if_neg e] at hj
        obtain ⟨h1, h2, h3⟩ := G.own w j hj
        refine ⟨h1, h2, ?_⟩
        unfold setF
        rw [if_neg (fun e' => e (by rw [← h2, e', hold.2.1]))]
        exact h3
    rdom := fun j hj h => by
      unfold setF at h
      by_cases e : j = old
      · subst e
        exact ⟨i, by unfold setF; rw [if_pos hold.2.1], hlt⟩
      · rw [if_neg e] at h
        obtain ⟨k, h1, h2⟩ := G.rdom j hj h
        by_cases e' : vb j = vb i
        · rw [e', ho] at h1; cases h1
          exact ⟨i, by unfold setF; rw [if_pos e'], by omega⟩
        · exact ⟨k, by unfold setF; rw [if_neg e']; exact h1, h2⟩
    busy_iff := fun v => by
      unfold setF
      constructor
      · intro h
        by_cases e : v = va i
        · exact ⟨vb i, i, by rw [if_pos rfl], e.symm⟩
        · rw [if_neg e] at h
          by_cases e2 : v = va old
          · rw [if_pos e2] at h; cases h
          · rw [if_neg e2] at h
            obtain ⟨w, k, h1, h2⟩ := (G.busy_iff v).1 h
            refine ⟨w, k, ?_, h2⟩
            rw [if_neg (fun e' => by rw [e', ho] at h1; cases h1; exact e2 h2.symm)]; exact h1
      · rintro ⟨w, k, h1, h2⟩
        by_cases e : v = va i
        · rw [if_pos e]
        · rw [if_neg e]
          by_cases e' : w = vb i
          · rw [if_pos e'] at h1; cases h1; exact absurd h2.symm e
          · rw [if_neg e'] at h1
            by_cases e2 : v = va old
            · have := G.one w (vb i) k old h1 ho (by rw [h2, e2])
              subst this
              exact absurd ((G.own w k h1).2.1.symm.trans (G.own _ _ ho).2.1) e'
            · rw [if_neg e2]; exact (G.busy_iff v).2 ⟨w, k, h1, h2⟩
    one := fun w w' k k' h h' e => by
      unfold setF at h h'
      by_cases e1 : w = vb i
      · rw [if_pos e1] at h; cases h
        by_cases e2 : w' = vb i
        · rw [if_pos e2] at h'; cases h'; rfl
        · rw [if_neg e2] at h'
          exact absurd ((G.busy_iff _).2 ⟨w', k', h', e.symm⟩) hb
      · rw [if_neg e1] at h
        by_cases e2 : w' = vb i
        · rw [if_pos e2] at h'; cases h'
          exact absurd ((G.busy_iff _).2 ⟨w, k, h, e⟩) hb
        · rw [if_neg e2] at h'; exact G.one w w' k k' h h' e
    best := fun w k hk j hj h1 h2 => by
      have key : ref j = some true → setF ref old (some true) j = some true := fun h => by
        unfold setF
        by_cases e : j = old
        · rw [if_pos e]
        · rw [if_neg e]; exact h
      unfold setF at hk
      by_cases e : w = vb i
      · rw [if_pos e] at hk; cases hk; exact key (hbest j hj h1 h2)
      · rw [if_neg e] at hk; exact key (G.best w k hk j hj h1 h2) }
/-- nothing is left to be done: what is held is a kernel -/
theorem GS.kern (G : GS va vb od left has ref busy) (S : Sep va vb od L) (hL : ∀ i ∈ left, i < L) (hd : ∀ i ∈ left, ref i = some true ∨ busy (va i) = some true) {M : List Nat} (hM : ∀ i, i ∈ M ↔ ∃ w, has w = some i) (hn : M.Nodup) : Kern va vb od left M where
  sub := fun i hi => by obtain ⟨w, h⟩ := (hM i).1 hi; exact (G.own w i h).1
  nd := hn
  apart := fun i hi j hj hne => by
    obtain ⟨w, h⟩ := (hM i).1 hi
    obtain ⟨w', h'⟩ := (hM j).1 hj
    refine ⟨fun e => hne (G.one w w' i j h h' e), fun e => hne ?_⟩
    have e1 := (G.own w i h).2.1
    have e2 := (G.own w' j h').2.1
    rw [← e1, e] at h
    rw [← e2] at h'
    rw [h] at h'
    cases h'; rfl
  dom := fun i hi => by
    have key : ref i = some true → ∃ j ∈ M, Dom va vb od j i := fun hr => by
      obtain ⟨j, h1, h2⟩ := G.rdom i hi hr
      exact ⟨j, (hM j).2 ⟨_, h1⟩, .inr ⟨(G.own _ j h1).2.1, h2⟩⟩
    rcases hd i hi with h | h
    · exact .inr (key h)
    · obtain ⟨w, j, h1, h2⟩ := (G.busy_iff _).1 h
      by_cases e : j = i
      · subst e; exact .inl ((hM j).2 ⟨w, h1⟩)
      · have hj := (G.own w j h1).1
        have hne := S j i (hL j hj) (hL i hi) e (.inl h2)
        by_cases hlt : od i < od j
        · exact .inr ⟨j, (hM j).2 ⟨w, h1⟩, .inl ⟨h2, hlt⟩⟩
        · exact .inr (key (G.best w j h1 i hi h2.symm (by omega)))
end

/-- how many of what is left go before i -/
def dcn (va vb od : Nat → Nat) (L : Nat) (done : Nat → Bool) (i : Nat) : Nat := cn (fun j => !done j && decide (Dom va vb od j i)) L
/-- how many of a list's hues are still to come -/
def hcn (s h : Nat) : Nat := cn (fun c => decide (h ≤ c) && s.testBit c) 64
structure GI (va vb od : Nat → Nat) (L : Nat) (Ls : Nat → Nat) (h : Nat) (done : Nat → Bool) (out : Nat → Nat) : Prop where
  own : ∀ i, i < L → done i = true → out i < h ∧ (Ls i).testBit (out i) = true
  sep : ∀ i j, i < L → j < L → i ≠ j → done i = true → done j = true → (va i = va j ∨ vb i = vb j) → out i ≠ out j
  room : ∀ i, i < L → done i = false → dcn va vb od L done i < hcn (Ls i) h
theorem hcn_step {s h : Nat} (hh : h < 64) : hcn s h = hcn s (h + 1) + (s.testBit h).toNat := by
  have key : ∀ n, h < n → cn (fun c => decide (h ≤ c) && s.testBit c) n = cn (fun c => decide (h + 1 ≤ c) && s.testBit c) n + (s.testBit h).toNat := by
    intro n
    induction n with
    | zero => intro h; omega
    | succ n ih =>
      intro hn
      rw [cn_succ, cn_succ]
      by_cases e : h = n
      · subst e
        have e1 : cn (fun c => decide (h ≤ c) && s.testBit c) h = 0 := by
          unfold cn
          rw [List.length_eq_zero_iff, List.filter_eq_nil_iff]
          intro x hx
          rw [List.mem_range] at hx
          simp; omega
        have e2 : cn (fun c => decide (h + 1 ≤ c) && s.testBit c) h = 0 := by
          unfold cn
          rw [List.length_eq_zero_iff, List.filter_eq_nil_iff]
          intro x hx
          rw [List.mem_range] at hx
          simp; omega
        rw [e1, e2]; simp
        intro hc; omega
      · rw [ih (by omega)]
        have : decide (h ≤ n) = decide (h + 1 ≤ n) := by rw [decide_eq_decide]; omega
        rw [this]; omega
  exact key 64 hh
theorem GI.step {va vb od : Nat → Nat} {L : Nat} {Ls : Nat → Nat} {h : Nat} {done done' : Nat → Bool} {out out' : Nat → Nat} {left M : List Nat} (I : GI va vb od L Ls h done out) (hh : h < 64) (hleft : ∀ i, i ∈ left ↔ i < L ∧ done i = false ∧ (Ls i).testBit h = true) (K : Kern va vb od left M)
    (hd : ∀ i, done' i = true ↔ done i = true ∨ i ∈ M) (ho : ∀ i, (i ∈ M → out' i = h) ∧ (i ∉ M → out' i = out i)) : GI va vb od L Ls (h + 1) done' out' where
  own := fun i hi hdi => by
    by_cases hm : i ∈ M
    · rw [(ho i).1 hm]; exact ⟨by omega, ((hleft i).1 (K.sub i hm)).2.2⟩
    · rw [(ho i).2 hm]
      have := I.own i hi (((hd i).1 hdi).resolve_right hm)
      exact ⟨by omega, this.2⟩
  sep := fun i j hi hj hne hdi hdj hm => by
    by_cases h1 : i ∈ M
    · by_cases h2 : j ∈ M
      · have := K.apart i h1 j h2 hne
        rcases hm with hm | hm
        · exact absurd hm this.1
        · exact absurd hm this.2
      · rw [(ho i).1 h1, (ho j).2 h2]
        have := (I.own j hj (((hd j).1 hdj).resolve_right h2)).1
        omega
    · by_cases h2 : j ∈ M
      · rw [(ho i).2 h1, (ho j).1 h2]
        have := (I.own i hi (((hd i).1 hdi).resolve_right h1)).1
        omega
      · rw [(ho i).2 h1, (ho j).2 h2]
        exact I.sep i j hi hj hne (((hd i).1 hdi).resolve_right h1) (((hd j).1 hdj).resolve_right h2) hm
  room := fun i hi hdi => by
    have hnd : done i = false := by
      cases e : done i with
      | false => rfl
      | true => rw [(hd i).2 (.inl e)] at hdi; cases hdi
    have hnm : i ∉ M := fun hm => by rw [(hd i).2 (.inr hm)] at hdi; cases hdi
    have h1 := I.room i hi hnd
    have h2 := hcn_step (s := Ls i) hh
    have hle : ∀ k, k < L → (!done' k && decide (Dom va vb od k i)) = true → (!done k && decide (Dom va vb od k i)) = true := fun k _ hk => by
      rw [Bool.and_eq_true] at hk ⊢
      refine ⟨?_, hk.2⟩
      cases e : done k with
      | false => rfl
      | true => rw [(hd k).2 (.inl e)] at hk; cases hk.1
    unfold dcn at h1 ⊢
    cases hb : (Ls i).testBit h with
    | false =>
      rw [hb] at h2
      have := cn_le hle
      simp at h2; omega
    | true =>
      rw [hb] at h2
      have hil := (hleft i).2 ⟨hi, hnd, hb⟩
      obtain ⟨j, hj, hdom⟩ := (K.dom i hil).resolve_left hnm
      have hjl := (hleft j).1 (K.sub j hj)
      have := cn_lt (j := j) hle hjl.1 (by rw [(hd j).2 (.inr hj)]; rfl) (by rw [hjl.2.1]; simpa using hdom)
      simp at h2; omega
theorem GI.last {va vb od : Nat → Nat} {L : Nat} {Ls : Nat → Nat} {done : Nat → Bool} {out : Nat → Nat} (I : GI va vb od L Ls 64 done out) : ∀ i, i < L → done i = true := fun i hi => by
  cases e : done i with
  | true => rfl
  | false =>
    have h1 := I.room i hi e
    have : hcn (Ls i) 64 = 0 := by
      unfold hcn cn
      rw [List.length_eq_zero_iff, List.filter_eq_nil_iff]
      intro x hx
      rw [List.mem_range] at hx
      simp; omega
    omega
theorem hcn_size (s : Nat) : hcn s 0 = size s := by
  unfold hcn size
  have : ∀ n, cn (fun c => decide (0 ≤ c) && s.testBit c) n = szTo s n := by
    intro n
    induction n with
    | zero => rfl
    | succ n ih => rw [cn_succ, ih]; simp [szTo, tb]
  exact this 64
theorem GI.start {va vb od : Nat → Nat} {L D : Nat} {Ls : Nat → Nat} (S : Sep va vb od L) (hD : ∀ i, i < L → od i < D) (hs : ∀ i, i < L → D ≤ size (Ls i)) : GI va vb od L Ls 0 (fun _ => false) (fun _ => 0) where
  own := fun _ _ h => by cases h
  sep := fun _ _ _ _ _ h => by cases h
  room := fun i hi _ => by
    rw [hcn_size]
    refine Nat.lt_of_lt_of_le ?_ (hs i hi)
    unfold dcn cn
    have hnd : (((List.range L).filter fun j => !(fun _ : Nat => false) j && decide (Dom va vb od j i)).map od ++ [od i]).Nodup := by
      rw [List.nodup_append]
      refine ⟨?_, by simp, fun x hx y hy => ?_⟩
      · unfold List.Nodup
        rw [List.pairwise_map]
        refine List.Pairwise.imp_of_mem ?_ (List.Pairwise.filter _ List.pairwise_lt_range)
        intro a b ha hb hab
        rw [List.mem_filter, List.mem_range] at ha hb
        have da : Dom va vb od a i := by simpa using ha.2
        have db : Dom va vb od b i := by simpa using hb.2
        rcases da with ⟨d1, d2⟩ | ⟨d1, d2⟩
        · rcases db with ⟨e1, e2⟩ | ⟨e1, e2⟩
          · exact S a b ha.1 hb.1 (by omega) (.inl (by rw [d1, e1]))
          · omega
        · rcases db with ⟨e1, e2⟩ | ⟨e1, e2⟩
          · omega
          · exact S a b ha.1 hb.1 (by omega) (.inr (by rw [d1, e1]))
      · obtain ⟨j, hj, rfl⟩ := List.mem_map.1 hx
        rw [List.mem_singleton] at hy
        subst hy
        rw [List.mem_filter] at hj
        have dj : Dom va vb od j i := by simpa using hj.2
        rcases dj with ⟨_, d⟩ | ⟨_, d⟩ <;> omega
    have := nodup_sub _ (List.range D) hnd fun x hx => by
      rw [List.mem_range]
      rcases List.mem_append.1 hx with hx | hx
      · obtain ⟨j, hj, rfl⟩ := List.mem_map.1 hx
        rw [List.mem_filter, List.mem_range] at hj
        exact hD j hj.1
      · rw [List.mem_singleton] at hx; subst hx; exact hD i hi
    rw [List.length_append, List.length_map, List.length_range] at this
    simp only [List.length_cons, List.length_nil] at this
    exact this
end Go.Proofs.YtpknnjcbcndbbaaDoor
