/- The stable pairing: the walk. Painting by kernels: the walk of galvin. Painting by kernels: the walk of galvin. The program's Galvin: a walk. -/
import Derived.Test.YtpknnjcbcndbbaaDoorG1204
import Derived.Test.YtpknnjcbcndbbaaDoorGu
import Derived.Test.YtpknnjcbcndbbaaDoorA17
import Derived.Deep.LoopGhost
import Derived.Test.YtpknnjcbcndbbaaDoorA15
import Derived.Test.YtpknnjcbcndbbaaDoorG1203
set_option linter.unusedVariables false
set_option linter.unusedSimpArgs false
namespace Go.Proofs.YtpknnjcbcndbbaaDoor
open Go.RowKit Go.Shelf Go.Lib Go.Sort

def bvB (b : Bool) : Value := .bool b
theorem kind140 : MapKind Tryd.prog 140 3 3 kvN kvN 0 := natKind (by kernel_rfl) Tryd.underlying3 (fun _ => by kernel_rfl)
theorem kind144 : MapKind Tryd.prog 144 3 4 kvN bvB false := natKind (by kernel_rfl) Tryd.underlying3 (fun _ => by kernel_rfl)
structure StM (W : World) (M1 M2 M3 : Nat) (has : Nat → Option Nat) (ref busy : Nat → Option Bool) : Prop where
  m1 : MapG kvN kvN W M1 has
  m2 : MapG kvN bvB W M2 ref
  m3 : MapG kvN bvB W M3 busy
theorem StM.drewN {W : World} {M1 M2 M3 : Nat} {has : Nat → Option Nat} {ref busy : Nat → Option Bool} (h : StM W M1 M2 M3 has ref busy) (q : Nat) : StM (W.drewN q) M1 M2 M3 has ref busy := ⟨h.m1.kept rfl, h.m2.kept rfl, h.m3.kept rfl⟩
/-- the order of the list -/
def cfS (od : Nat → Nat) (m x y : Nat) : Int := (od (y % m) : Int) - (od (x % m) : Int)
theorem swoS (od : Nat → Nat) (m : Nat) : SWO (ltOf (cfS od m)) where
  irrefl x := by unfold ltOf cfS; simp
  trans x y z h1 h2 := by unfold ltOf cfS at *; simp at *; omega
  ntrans x y z h1 h2 := by unfold ltOf cfS at *; simp at *; omega
theorem asFun_mem : ∀ {l : List (Nat × Nat)}, (l.map (·.1)).Nodup → ∀ {a b : Nat}, asFun l a = some b ↔ (a, b) ∈ l
  | [], _, a, b => by simp [asFun]
  | e :: l, hn, a, b => by
    rw [List.map_cons, List.nodup_cons] at hn
    have ih := asFun_mem hn.2 (a := a) (b := b)
    unfold asFun at *
    rw [List.find?_cons]
    by_cases h : a = e.1
    · simp only [h, decide_true, Option.map_some, Option.some.injEq, List.mem_cons]
      constructor
      · intro h2; left; rw [← h2]
      · rintro (h2 | h2)
        · rw [← h2]
        · exact absurd (List.mem_map.2 ⟨_, h2, rfl⟩) hn.1
    · simp only [h, decide_false, List.mem_cons]
      rw [ih]
      constructor
      · exact .inr
      · rintro (h2 | h2)
        · exact absurd (congrArg Prod.fst h2) h
        · exact h2
theorem GS.vals {va vb od : Nat → Nat} {left : List Nat} {has : Nat → Option Nat} {ref busy : Nat → Option Bool} (G : GS va vb od left has ref busy) {l : List (Nat × Nat)} (hn : (l.map (·.1)).Nodup) (hl : ∀ a, asFun l a = has a) :
    (l.map (·.2)).Nodup ∧ (∀ i, i ∈ l.map (·.2) ↔ ∃ w, has w = some i) ∧ l.length ≤ left.length := by
  have h1 : (l.map (·.2)).Nodup := by
    unfold List.Nodup at hn ⊢
    rw [List.pairwise_map] at hn ⊢
    refine List.Pairwise.imp_of_mem ?_ hn
    rintro ⟨a, i⟩ ⟨a', i'⟩ ha ha' hne e
    have e : i = i' := e
    subst e
    have h2 := (G.own a i ((hl a).symm.trans ((asFun_mem (by unfold List.Nodup; rw [List.pairwise_map]; exact hn)).2 ha))).2.1
    have h3 := (G.own a' i ((hl a').symm.trans ((asFun_mem (by unfold List.Nodup; rw [List.pairwise_map]; exact hn)).2 ha'))).2.1
    exact hne (h2.symm.trans h3)
  have h2 : ∀ i, i ∈ l.map (·.2) ↔ ∃ w, has w = some i := fun i => by
    rw [List.mem_map]
    constructor
    · rintro ⟨⟨a, i'⟩, ha, rfl⟩
      exact ⟨a, (hl a).symm.trans ((asFun_mem hn).2 ha)⟩
    · rintro ⟨a, ha⟩
      exact ⟨(a, i), (asFun_mem hn).1 ((hl a).trans ha), rfl⟩
  refine ⟨h1, h2, ?_⟩
  have := nodup_sub _ left h1 fun i hi => by
    obtain ⟨a, ha⟩ := (h2 i).1 hi
    exact (G.own a i ha).1
  rwa [List.length_map] at this
theorem Kern.perm {va vb od : Nat → Nat} {left left' M : List Nat} (K : Kern va vb od left M) (h : left.Perm left') : Kern va vb od left' M :=
  ⟨fun i hi => h.mem_iff.1 (K.sub i hi), K.nd, K.apart, fun i hi => K.dom i (h.mem_iff.2 hi)⟩
/-- what the walk does not turn -/
def exM (M1 M2 M3 : Nat) (k : Nat) : Prop := k = M1 ∨ k = M2 ∨ k = M3
set_option maxRecDepth 100000 in
set_option maxHeartbeats 4000000 in
theorem stable_any (G n s : Nat) (a : Option Addr) (cap : Nat) (g : List Nat) (ps : List (Int × Int)) (left : List Nat) (p po : Option Addr) (c co : Nat) (od : Nat → Nat) (w : World)
    (hg : GraphAt w G n a cap ps.length g) (hE : Pairs w a ps) (hok : EdgesOK g ps) (hs : Sm s) (hlen : ps.length ≤ 1099511627776) (hL : ∀ i ∈ left, i < ps.length) (hll : left.length ≤ 1099511627776) (hsl : SrcI w p left.length (natI left)) (hso : SrcI w po ps.length (fun j => (od j : Int))) (hod : ∀ j, od j ≤ 64) (S : Sep (askV s ps) (askW s ps) od ps.length) :
    Calls Tryd.prog 93 #[.pointer (some ⟨G, 0, none⟩), .slice p left.length c, .int .i64 (s : Int), .slice po ps.length co] w fun e w' => ∃ v M, e = .returned v ∧ QRow w' w.heap.size 3 1 v M.length (iv M) ∧ Kern (askV s ps) (askW s ps) od left M ∧ Below w.heap.size w w' := by
  obtain ⟨i0, hi, hz0, hz1, hz2⟩ := info_parts info3
  have HSEP := Lib.hid S
  have HLL := Lib.hid hL
  have HOK := Lib.hid hok
  have hmm := @run_makeMap Tryd.prog
  obtain ⟨X, hX⟩ : ∃ X, Hid (X = ((w.alloc (.cells #[.pointer (some ⟨G, 0, none⟩)] 79)).alloc (.cells #[.int .i64 (s : Int)] 3)).alloc (.cells #[.slice po ps.length co] 25)) := ⟨_, rfl⟩
  have hsX := Lib.hid (show X.heap.size = w.heap.size + 3 by rw [hX.out]; simp)
  have HBX : Hid (Below w.heap.size w X) := by rw [hX.out]; exact (((Below.refl _ w).alloc (Nat.le_refl _) _).alloc (by simp) _).alloc (by simp <;> omega) _
  have x4 : BoxN X w.heap.size 79 #[.pointer (some ⟨G, 0, none⟩)] := by rw [hX.out]; exact ((BoxN.new rfl).alloc _).alloc _
  have x6 : BoxN X (w.heap.size + 1) 3 #[.int .i64 (s : Int)] := by rw [hX.out]; exact (BoxN.new (by simp)).alloc _
  have x7 : BoxN X (w.heap.size + 2) 25 #[.slice po ps.length co] := by rw [hX.out]; exact BoxN.new (by simp)
  have HASK : Hid (∀ W, Below X.heap.size X W → ∀ i, i < ps.length → Calls Tryd.prog 102 #[.int .i64 (i : Int), .pointer (some ⟨w.heap.size, 0, none⟩), .pointer (some ⟨w.heap.size + 1, 0, none⟩)] W fun e w' => e = .returned (.tuple #[.int .i64 (askV s ps i : Nat), .int .i64 (askW s ps i : Nat)]) ∧ ∃ q, w' = W.drewN q) := fun W hW i hi => by
    have hB : Below w.heap.size w W := HBX.out.trans (hW.mono HBX.out.size)
    exact asker_any s G n _ _ i a cap g ps W ((x4.below hW x4.lt).cell 0) ((x6.below hW x6.lt).cell 0) (hg.below hB (Nat.le_refl _)) (hE.below hB (Nat.le_refl _)) hok hs hi
  have HCMP : Hid (∀ W, Below X.heap.size X W → ∀ x y, x < ps.length → y < ps.length → Calls Tryd.prog 105 #[.int .i64 (x : Int), .int .i64 (y : Int), .pointer (some ⟨w.heap.size + 2, 0, none⟩)] W fun e w' => e = .returned (.int .i64 ((od y : Int) - (od x : Int))) ∧ ∃ q, w' = W.drewN q) := fun W hW x y hx hy => by
    have hB : Below w.heap.size w W := HBX.out.trans (hW.mono HBX.out.size)
    exact cmp_any _ ps.length co x y po od W ((x7.below hW x7.lt).cell 0) (hso.below hB (Nat.le_refl _)) hx hy hlen hod
  have HCLN : Hid (∀ W, Below X.heap.size X W → Calls Tryd.prog 103 #[.slice p left.length c] W fun e w' => ∃ v, e = .returned v ∧ QRow w' W.heap.size 3 1 v left.length (iv left) ∧ Below W.heap.size W w') := fun W hW => by
    have hB : Below w.heap.size w W := HBX.out.trans (hW.mono HBX.out.size)
    exact clone_any p c left W (hsl.below hB (Nat.le_refl _)) hll
  have HORD : Hid (∀ W, Below X.heap.size X W → W.cell? ⟨w.heap.size + 2, 0, none⟩ = some (.slice po ps.length co) ∧ SrcI W po ps.length (fun j => (od j : Int))) := fun W hW => by
    have hB : Below w.heap.size w W := HBX.out.trans (hW.mono HBX.out.size)
    exact ⟨(x7.below hW x7.lt).cell 0, hso.below hB (Nat.le_refl _)⟩
  have HVL : Hid (∀ i, i < ps.length → askV s ps i < 16 ∧ askW s ps i < 16) := fun i hi => askW_lt hok s hi
  have HOD := Lib.hid hod
  have HBE : Hid (∀ W, Below X.heap.size X W → Below w.heap.size w W) := fun W hW => HBX.out.trans (hW.mono HBX.out.size)
  have hszw : w.heap.size ≤ X.heap.size := HBX.out.size
  clear hg hE hok hs hL hsl hso hod S x4 x6 x7
  obtain ⟨va, hva⟩ : ∃ va, Hid (va = askV s ps) := ⟨_, rfl⟩
  obtain ⟨vb, hvb⟩ : ∃ vb, Hid (vb = askW s ps) := ⟨_, rfl⟩
  rw [← hva.out, ← hvb.out] at HSEP HASK HVL ⊢
  obtain ⟨L, hLe⟩ : ∃ L, Hid (ps.length = L) := ⟨_, rfl⟩
  rw [hLe.out] at HSEP HLL HASK HCMP HORD HVL hX hlen ⊢
  go_enter Tryd.func93, Tryd.ntmps93
  go_upto_region 1 with (fail)
  rw [← hX.out]
  clear hX
  have hM0 : Hid (MapG kvN kvN (X.alloc (.map #[] 0)) X.heap.size (fun _ => none)) := MapG.made X
  have hBX1 : Hid (Below X.heap.size X (X.alloc (.map #[] 0))) := (Below.refl _ _).alloc (Nat.le_refl _) _
  go_upto_region 3 with (fail)
  generalize hX1 : X.alloc (.map #[] 0) = X1 at *
  have hsX1 := Lib.hid (show X1.heap.size = X.heap.size + 1 by rw [← hX1]; simp)
  clear hX1
  obtain ⟨M1, hM1⟩ : ∃ M1, Hid (M1 = X.heap.size) := ⟨_, rfl⟩
  rw [← hM1.out]
  rw [← hM1.out] at hM0
  have HC1 := Lib.hid (HCLN.out X1 hBX1.out)
  go_upto_region 4 with (go_at_call 103; refine HC1.out.mono ?_; rintro e X2 ⟨v2, rfl, hq2, hB2⟩; have HQ2 := Lib.hid hq2; have HX2 := Lib.hid hB2; have HB2 := Lib.hid (hBX1.out.trans (hB2.mono hBX1.out.size)); clear hq2 hB2)
  obtain ⟨p2, c2, rfl⟩ := HQ2.out.isSlice
  have hm12 : M1 < X1.heap.size := by rw [hM1.out, hsX1.out]; omega
  have hxx : X.heap.size ≤ X1.heap.size := hBX1.out.size
  have hx12 : X1.heap.size ≤ X2.heap.size := HX2.out.size
  have HMA := Lib.hid (hM0.out.below HX2.out hm12)
  have HC2 := Lib.hid (sortF_q 105 #[.pointer (some ⟨w.heap.size + 2, 0, none⟩)] (fun x => .int .i64 ((x % L : Nat) : Int)) (fun _ => rfl) (cfS od L) (swoS od L) (enters_of Tryd.func105 (by kernel_rfl) rfl) X2 X1.heap.size (.slice p2 left.length c2) left (fun x hx => by rw [Nat.mod_eq_of_lt (HLL.out x hx)]) HQ2.out hll
    (fun h0 W' hA x y => by
      have hL0 : 0 < L := by
        obtain ⟨z, hz⟩ := List.exists_mem_of_ne_nil left (fun e => h0 (by rw [e]; rfl))
        have := HLL.out z hz; omega
      exact HCMP.out W' (hA.below HB2.out HB2.out.size (fun k hk he => by have := (HQ2.out.lt k he).1; omega)) (x % L) (y % L) (Nat.mod_lt _ hL0) (Nat.mod_lt _ hL0)))
  go_upto_region 5 with (go_at_call 104; refine HC2.out.mono ?_; rintro e X3 ⟨rfl, ⟨ys, hperm, hsort, hq3⟩, hA3⟩; have HP := Lib.hid hperm; have HSO := Lib.hid hsort; have HQ3 := Lib.hid hq3; have HA3 := Lib.hid hA3; clear hperm hsort hq3 hA3)
  have HB3 := Lib.hid (HA3.out.below HB2.out HB2.out.size (fun k hk he => by have := (HQ2.out.lt k he).1; omega))
  have hx23 : X2.heap.size ≤ X3.heap.size := HA3.out.size
  have HMB := Lib.hid (HMA.out.kept (HA3.out.block M1 HMA.out.lt (fun he => by have := (HQ2.out.lt M1 he).1; omega)))
  have HX4 : Hid (Below X3.heap.size X3 ((X3.alloc (.map #[] 0)).alloc (.map #[] 0))) := ((Below.refl _ X3).alloc (Nat.le_refl _) _).alloc (by simp) _
  have HST : Hid (StM ((X3.alloc (.map #[] 0)).alloc (.map #[] 0)) M1 X3.heap.size (X3.heap.size + 1) (fun _ => none) (fun _ => none) (fun _ => none)) :=
    ⟨HMB.out.below HX4.out HMB.out.lt, (MapG.made X3).grown (World.grownBy_alloc _ _ none) (by simp), by rw [show X3.heap.size + 1 = (X3.alloc (.map #[] 0)).heap.size by simp]; exact MapG.made _⟩
  have HQ4 := Lib.hid ((HQ3.out.alloc (.map #[] 0)).alloc (.map #[] 0))
  clear HC1 HCLN HC2 HCMP HQ3 HX2 HMA hM0
  go_upto_region 8 with (fail)
  obtain ⟨M2, hM2⟩ : ∃ M2, Hid (M2 = X3.heap.size) := ⟨_, rfl⟩
  obtain ⟨M3, hM3⟩ : ∃ M3, Hid (M3 = M2 + 1) := ⟨_, rfl⟩
  rw [← hM2.out, ← hM3.out] at HST
  obtain ⟨X4, hX4⟩ : ∃ X4, Hid (X4 = (X3.alloc (.map #[] 0)).alloc (.map #[] 0)) := ⟨_, rfl⟩
  rw [← hX4.out] at HST HQ4 HX4
  simp only [← hM2.out, ← hM3.out, ← hX4.out]
  have hm2 : M1 < M2 := by rw [hM2.out]; exact HMB.out.lt
  have hm3 : M2 < M3 := by rw [hM3.out]; omega
  have HROW : Hid (∀ W, Ag (exM M1 M2 M3) X4 W → SrcI W p2 left.length (natI ys)) := fun W hA => by
    have hq := hA.qrow HQ4.out (fun k hk he => by
      have h1 := HQ2.out.lt k hk
      unfold exM at he
      rw [hM2.out] at hm2
      rw [hM3.out, hM2.out] at he
      omega)
    exact hq.srcI fun j hj => iv_get (by rw [HP.out.length_eq]; exact hj)
  have HBL : Hid (∀ W, Ag (exM M1 M2 M3) X4 W → Below X.heap.size X W) := fun W hA => hA.below (HB3.out.trans (HX4.out.mono HB3.out.size)) (Nat.le_trans HB3.out.size HX4.out.size) (fun k hk he => by
    unfold exM at he
    have := hM1.out
    omega)
  have HYL : Hid (∀ i ∈ ys, i < L) := fun i hi => HLL.out i (HP.out.mem_iff.1 hi)
  obtain ⟨m, hme⟩ : ∃ m, Hid (left.length = m) := ⟨_, rfl⟩
  have hym : Hid (ys.length = m) := by rw [← hme.out]; exact HP.out.length_eq
  rw [hme.out] at HROW hll ⊢
  have HKE := Lib.hid (fun has ref busy (G : GS va vb od ys has ref busy) hd M hM hn => GS.kern G HSEP.out HYL.out hd (M := M) hM hn)
  have HSTx := HST
  clear HST HQ4 HX4 HB3 HA3 HQ2 HMB hX4 hM2 hM3 hmm
  go_loopg [13] (gmu ys (fun _ => none) (fun _ => none) + 1) (fun gk s13 wr => ∃ (bb : Bool) (has : Nat → Option Nat) (ref busy : Nat → Option Bool), s13 = .bool bb ∧ gmu ys has ref + bb.toNat ≤ gk ∧ Hid (GS va vb od ys has ref busy) ∧ Hid (bb = false → ∀ i ∈ ys, ref i = some true ∨ busy (va i) = some true) ∧ Hid (StM wr M1 M2 M3 has ref busy) ∧ Hid (Ag (exM M1 M2 M3) X4 wr))
  case atStart => exact ⟨true, _, _, _, rfl, Nat.le_refl _, GS.start va vb od ys, (fun h => by cases h), HSTx, Ag.refl _ _⟩
  case round =>
    obtain ⟨bb, has, ref, busy, rfl, hmu, hG, hD, hST, hA⟩ := hrel
    cases bb with
    | true =>
      obtain ⟨wo, hwo⟩ : ∃ wo, Hid (wo = wr) := ⟨_, rfl⟩
      simp only [Bool.toNat_true] at hmu
      clear hD HKE
      go_upto_region 11 with (fail)
      go_loopw [13, 37] (fun s13 s37 wq => ∃ (k : Nat) (bb : Bool) (rf : Nat → Option Bool), k ≤ m ∧ s37 = .int .i64 (k : Int) ∧ s13 = .bool bb ∧ Hid (gmu ys has rf + bb.toNat ≤ gmu ys has ref) ∧ Hid (GS va vb od ys has rf busy) ∧ Hid (∀ j, j < k → rf (nth ys j) = some true ∨ busy (va (nth ys j)) = some true) ∧ Hid (StM wq M1 M2 M3 has rf busy) ∧ Hid (Ag (exM M1 M2 M3) X4 wq)) (fun _ s37 _ => m - (intOf s37).toNat)
      case atStart => exact ⟨0, false, ref, by omega, rfl, rfl, Nat.le_refl _, hG, (fun j hj => by omega), hST, hA⟩
      case round =>
        clear hG hST hA hwo
        obtain ⟨k, bb, rf, hk, rfl, rfl, hmr, hG, hsc, hST, hA⟩ := hrel
        by_cases hkm : k < m
        · have g1 : (k : Int) < (m : Int) := by omega
          obtain ⟨b, o, e2, hb, hc⟩ := HROW.out wr hA.out (by omega)
          have r0 : wr.cell? ⟨b, o + k, none⟩ = some (.int .i64 (nth ys k : Nat)) := hc k hkm
          have hiy : nth ys k ∈ ys := by unfold nth; rw [List.getElem?_eq_getElem (by rw [hym.out]; exact hkm)]; exact List.getElem_mem _
          obtain ⟨i, hie⟩ : ∃ i, Hid (i = nth ys k) := ⟨_, rfl⟩
          rw [← hie.out] at r0 hiy
          have hiL := HYL.out i hiy
          have HIY := Lib.hid hiy
          have hvl := HVL.out i hiL
          have HC := Lib.hid (HASK.out wr (HBL.out wr hA.out) i hiL)
          subst e2
          clear hc hiy
          go_upto_region 14 with (go_at_call 102; refine HC.out.mono ?_; rintro e w4 ⟨rfl, q4, hw4⟩; have HST4 : Hid (StM w4 M1 M2 M3 has rf busy) := (by rw [hw4]; exact hST.out.drewN q4); have HA4 : Hid (Ag (exM M1 M2 M3) X4 w4) := (by rw [hw4]; exact hA.out.drewN q4); clear hw4)
          clear HC r0
          have l1 : (Instr.lookup 144 (.map (some M2)) (.int .i64 (i : Int)) false).run Tryd.prog w4 = .ok (.bool ((rf i).getD false)) w4 := look_g kind144 false i w4 M2 rf HST4.out.m2
          have l2 : (Instr.lookup 144 (.map (some M3)) (.int .i64 ((va i : Nat) : Int)) false).run Tryd.prog w4 = .ok (.bool ((busy (va i)).getD false)) w4 := look_g kind144 false (va i) w4 M3 busy HST4.out.m3
          have hbt : ∀ ob : Option Bool, ob ≠ some true → ob.getD false = false := fun ob h => by cases ob with
            | none => rfl
            | some b => cases b with
              | false => rfl
              | true => exact absurd rfl h
          by_cases hri : rf i = some true
          · have HSC : Hid (∀ j, j < k + 1 → rf (nth ys j) = some true ∨ busy (va (nth ys j)) = some true) := fun j hj => by
              by_cases e : j = k
              · subst e; left; rw [← hie.out]; exact hri
              · exact hsc.out j (by omega)
            rw [show (rf i).getD false = true by rw [hri]; rfl] at l1
            clear l2 hri hbt
            go_wp2
            exact ⟨⟨k + 1, bb, rf, by omega, int_eq (by omega), rfl, hmr, hG, HSC, HST4, HA4⟩, by simp [intOf]; omega⟩
          · rw [hbt _ hri] at l1
            by_cases hbi : busy (va i) = some true
            · have HSC : Hid (∀ j, j < k + 1 → rf (nth ys j) = some true ∨ busy (va (nth ys j)) = some true) := fun j hj => by
                by_cases e : j = k
                · subst e; right; rw [← hie.out]; exact hbi
                · exact hsc.out j (by omega)
              rw [show (busy (va i)).getD false = true by rw [hbi]; rfl] at l2
              clear hbi hri hbt
              go_wp2
              exact ⟨⟨k + 1, bb, rf, by omega, int_eq (by omega), rfl, hmr, hG, HSC, HST4, HA4⟩, by simp [intOf]; omega⟩
            · rw [hbt _ hbi] at l2
              have l3 : (Instr.lookup 140 (.map (some M1)) (.int .i64 ((vb i : Nat) : Int)) true).run Tryd.prog w4 = .ok (.tuple #[.int .i64 (((has (vb i)).getD 0 : Nat) : Int), .bool (has (vb i)).isSome]) w4 := look_g kind140 true (vb i) w4 M1 has HST4.out.m1
              have HBEST : Hid (∀ j ∈ ys, va j = va i → od i < od j → rf j = some true) := fun j hj hv ho => by
                obtain ⟨q, hq, hqj⟩ := List.getElem_of_mem hj
                have hnq : nth ys q = j := by unfold nth; rw [List.getElem?_eq_getElem hq, hqj]; rfl
                have hqk : q < k := Classical.byContradiction fun hn => by
                  by_cases e : q = k
                  · subst e; rw [hnq] at hie; rw [hie.out] at ho; omega
                  · have := HSO.out k q (by omega) hq
                    unfold ltOf cfS at this
                    rw [hnq, ← hie.out, Nat.mod_eq_of_lt (HYL.out j hj), Nat.mod_eq_of_lt hiL] at this
                    simp at this
                    omega
                have := hsc.out q hqk
                rw [hnq, hv] at this
                exact this.resolve_right hbi
              have HRI := Lib.hid hri
              have HBI := Lib.hid hbi
              have HSX := hsc
              clear hri hbi hbt hsc
              cases hh : has (vb i) with
              | none =>
                rw [hh] at l3
                simp only [Option.getD_none, Option.isSome_none] at l3
                have HGN := Lib.hid (hG.out.take HIY.out HRI.out HBI.out hh HBEST.out)
                have HMU : Hid (gmu ys (setF has (vb i) (some i)) rf < gmu ys has rf) := gmu_take hvl.2 hh
                clear hh
                go_wp2_with (first
                  | (refine wpList_store_g kind140 rfl (.tmp 83) (.tmp 84) (.tmp 87) rfl M1 has (vb i) i rfl rfl rfl HST4.out.m1 ?_; intro w8 hM8 hg8; have H81 := Lib.hid hM8; have H82 := Lib.hid (HST4.out.m2.grown hg8 (by simp; omega)); have H83 := Lib.hid (HST4.out.m3.grown hg8 (by simp; omega)); have HA8 := Lib.hid (HA4.out.grown hg8 (fun kk e => by cases e; exact .inr (.inl rfl))); clear hM8 hg8)
                  | (refine wpList_store_g kind144 rfl (.tmp 85) (.tmp 86) (.const (.bool true)) rfl M3 busy (va i) true rfl rfl rfl H83.out ?_; intro w9 hM9 hg9; have H91 := Lib.hid (H81.out.grown hg9 (by simp; omega)); have H92 := Lib.hid (H82.out.grown hg9 (by simp; omega)); have H93 := Lib.hid hM9; have HA9 := Lib.hid (HA8.out.grown hg9 (fun kk e => by cases e; exact .inr (.inr (.inr rfl)))); clear hM9 hg9))
                go_roundg (gmu ys (setF has (vb i) (some i)) rf + 1)
                case measure => have := hmr.out; have := HMU.out; omega
                case rel => exact ⟨true, _, rf, _, rfl, Nat.le_refl _, HGN, (fun h => by cases h), ⟨H91.out, H92.out, H93.out⟩, HA9⟩
              | some old =>
                rw [hh] at l3
                simp only [Option.getD_some, Option.isSome_some] at l3
                have HOWN := Lib.hid (hG.out.own _ _ hh)
                have hoL := HYL.out old HOWN.out.1
                have hne : old ≠ i := fun e => HBI.out (by rw [← e]; exact (hG.out.busy_iff _).2 ⟨vb i, old, hh, rfl⟩)
                have hdn := HSEP.out old i hoL hiL hne (.inr HOWN.out.2.1)
                obtain ⟨c7, hso⟩ := HORD.out w4 (HBL.out w4 HA4.out)
                obtain ⟨bo, oo, eo, _, hco⟩ := hso (by omega)
                subst eo
                have r1 : w4.cell? ⟨bo, oo + old, none⟩ = some (.int .i64 (od old : Nat)) := hco old hoL
                have r2 : w4.cell? ⟨bo, oo + i, none⟩ = some (.int .i64 (od i : Nat)) := hco i hiL
                have g2 : (old : Int) < (L : Int) := by omega
                have g3 : (i : Int) < (L : Int) := by omega
                clear hso hco hne
                by_cases hlt : od old < od i
                · have d1 : ((od old : Nat) : Int) < ((od i : Nat) : Int) := by omega
                  have d3 : decide (od old < od i) = true := decide_eq_true hlt
                  have HGN := Lib.hid (hG.out.refuse HBI.out hh hlt)
                  have HMU := Lib.hid (gmu_refuse (has := has) HIY.out HRI.out)
                  have HSC : Hid (∀ j, j < k + 1 → setF rf i (some true) (nth ys j) = some true ∨ busy (va (nth ys j)) = some true) := fun j hj => by
                    by_cases e : j = k
                    · subst e; left; unfold setF; rw [if_pos hie.out.symm]
                    · rcases HSX.out j (by omega) with h | h
                      · left; unfold setF
                        by_cases e2 : nth ys j = i
                        · rw [if_pos e2]
                        · rw [if_neg e2]; exact h
                      · exact .inr h
                  clear hh hlt hdn
                  go_upto_region 17 with (fail)
                  go_quiet (fail)
                  have HST5 := Lib.hid (HST4.out.drewN nq)
                  have HA5 := Lib.hid (HA4.out.drewN nq)
                  clear r1 r2 c7 l1 l2 l3
                  generalize w4.drewN nq = w5 at *
                  go_wp2_with (refine wpList_store_g kind144 rfl (.tmp 71) (.tmp 72) (.const (.bool true)) rfl M2 rf i true rfl rfl rfl HST5.out.m2 ?_; intro w8 hM8 hg8; have H81 := Lib.hid (HST5.out.m1.grown hg8 (by simp; omega)); have H82 := Lib.hid hM8; have H83 := Lib.hid (HST5.out.m3.grown hg8 (by simp; omega)); have HA8 := Lib.hid (HA5.out.grown hg8 (fun kk e => by cases e; exact .inr (.inr (.inl rfl)))); clear hM8 hg8)
                  exact ⟨⟨k + 1, true, setF rf i (some true), by omega, int_eq (by omega), rfl, (by have := hmr.out; have := HMU.out; simp only [Bool.toNat_true]; omega : gmu ys has (setF rf i (some true)) + true.toNat ≤ gmu ys has ref), HGN, HSC, ⟨H81.out, H82.out, H83.out⟩, HA8⟩, by simp [intOf]; omega⟩
                · have d1 : ¬ ((od old : Nat) : Int) < ((od i : Nat) : Int) := by omega
                  have d2 : decide (((od old : Nat) : Int) < ((od i : Nat) : Int)) = false := decide_eq_false d1
                  have d3 : decide (od old < od i) = false := decide_eq_false hlt
                  have HGN := Lib.hid (hG.out.swap HIY.out HRI.out HBI.out hh (by omega) HBEST.out)
                  have HMU := Lib.hid (gmu_swap (has := has) (w := vb i) (i := i) HOWN.out.1 HOWN.out.2.2)
                  clear hh hlt hdn
                  go_upto_region 17 with (fail)
                  go_quiet (fail)
                  have HST5 := Lib.hid (HST4.out.drewN nq)
                  have HA5 := Lib.hid (HA4.out.drewN nq)
                  clear r1 r2 c7 l1 l2 l3
                  generalize w4.drewN nq = w5 at *
                  have HC := Lib.hid (HASK.out w5 (HBL.out w5 HA5.out) old hoL)
                  go_upto_region 21 with (go_at_call 102; refine HC.out.mono ?_; rintro e w6 ⟨rfl, q6, hw6⟩; have HST6 : Hid (StM w6 M1 M2 M3 has rf busy) := (by rw [hw6]; exact HST5.out.drewN q6); have HA6 : Hid (Ag (exM M1 M2 M3) X4 w6) := (by rw [hw6]; exact HA5.out.drewN q6); clear hw6)
                  clear HC
                  go_wp2_with (first
                    | (refine wpList_store_g kind144 rfl (.tmp 79) (.tmp 80) (.const (.bool true)) rfl M2 rf old true rfl rfl rfl HST6.out.m2 ?_; intro w7 hM7 hg7; have H71 := Lib.hid (HST6.out.m1.grown hg7 (by simp; omega)); have H72 := Lib.hid hM7; have H73 := Lib.hid (HST6.out.m3.grown hg7 (by simp; omega)); have HA7 := Lib.hid (HA6.out.grown hg7 (fun kk e => by cases e; exact .inr (.inr (.inl rfl)))); clear hM7 hg7)
                    | (refine wpList_store_g kind144 rfl (.tmp 81) (.tmp 82) (.const (.bool false)) rfl M3 busy (va old) false rfl rfl rfl H73.out ?_; intro w8 hM8 hg8; have H81 := Lib.hid (H71.out.grown hg8 (by simp; omega)); have H82 := Lib.hid (H72.out.grown hg8 (by simp; omega)); have H83 := Lib.hid hM8; have HA8 := Lib.hid (HA7.out.grown hg8 (fun kk e => by cases e; exact .inr (.inr (.inr rfl)))); clear hM8 hg8)
                    | (refine wpList_store_g kind140 rfl (.tmp 83) (.tmp 84) (.tmp 87) rfl M1 has (vb i) i rfl rfl rfl H81.out ?_; intro w9 hM9 hg9; have H91 := Lib.hid hM9; have H92 := Lib.hid (H82.out.grown hg9 (by simp; omega)); have H93 := Lib.hid (H83.out.grown hg9 (by simp; omega)); have HA9 := Lib.hid (HA8.out.grown hg9 (fun kk e => by cases e; exact .inr (.inl rfl))); clear hM9 hg9)
                    | (refine wpList_store_g kind144 rfl (.tmp 85) (.tmp 86) (.const (.bool true)) rfl M3 (setF busy (va old) (some false)) (va i) true rfl rfl rfl H93.out ?_; intro wa hMa hga; have Ha1 := Lib.hid (H91.out.grown hga (by simp; omega)); have Ha2 := Lib.hid (H92.out.grown hga (by simp; omega)); have Ha3 := Lib.hid hMa; have HAa := Lib.hid (HA9.out.grown hga (fun kk e => by cases e; exact .inr (.inr (.inr rfl)))); clear hMa hga))
                  go_roundg (gmu ys (setF has (vb i) (some i)) (setF rf old (some true)) + 1)
                  case measure => have := hmr.out; have := HMU.out; omega
                  case rel => exact ⟨true, _, _, _, rfl, Nat.le_refl _, HGN, (fun h => by cases h), ⟨Ha1.out, Ha2.out, Ha3.out⟩, HAa⟩
        · have g1 : ¬ (k : Int) < (m : Int) := by omega
          have HDN : Hid (bb = false → ∀ i ∈ ys, rf i = some true ∨ busy (va i) = some true) := fun _ i hi => by
            obtain ⟨q, hq, hqi⟩ := List.getElem_of_mem hi
            have := hsc.out q (by have := hym.out; omega)
            have hnq : nth ys q = i := by unfold nth; rw [List.getElem?_eq_getElem hq, hqi]; rfl
            rw [hnq] at this
            exact this
          go_wp2
          go_roundg (gmu ys has rf + bb.toNat)
          case measure => have := hmr.out; omega
          case rel => exact ⟨bb, has, rf, busy, rfl, Nat.le_refl _, hG, HDN, hST, hA⟩
    | false =>
      have HGD := Lib.hid (hD.out rfl)
      have HGX := hG.out
      obtain ⟨l, hl1, hl2⟩ := hST.out.m1
      obtain ⟨wz, hwz⟩ : ∃ wz, Hid (wz = wr) := ⟨_, rfl⟩
      have hMl : M1 < wr.heap.size := hST.out.m1.lt
      go_upto_region 27 with (refine wpList_range_g kind140 rfl (.tmp 89) rfl M1 l rfl hl1 ?_; intro w5 hR5 hg5 hs5; have HR5 := Lib.hid hR5; have HG5 := Lib.hid hg5; have HS5 := Lib.hid hs5; clear hR5 hg5 hs5)
      obtain ⟨hn1, hn2, hn3⟩ := hG.out.vals hl1.2 hl2
      have HND := Lib.hid hn1
      have HMM := Lib.hid hn2
      have HBW := Lib.hid (HBE.out wr (HBL.out wr hA.out))
      have HB5 : Hid (Below wz.heap.size wz w5) := by rw [hwz.out]; exact Below.grown (Below.refl _ _) HG5.out (Nat.le_refl _) (fun kk e => by cases e)
      obtain ⟨r, hr⟩ : ∃ r, Hid (r = wr.heap.size) := ⟨_, rfl⟩
      have hrz := Lib.hid (show wz.heap.size = r by rw [hwz.out, hr.out])
      rw [← hwz.out] at HBW
      have hwr : w.heap.size ≤ r := by rw [← hrz.out]; exact HBW.out.size
      rw [hrz.out] at HB5
      rw [← hr.out] at HR5 hMl
      simp only [← hr.out]
      have hr5 : r < w5.heap.size := by rw [HS5.out, hr.out]; omega
      rw [hym.out] at hn3
      have hl40 : l.length ≤ 1099511627776 := by omega
      clear hl1 hl2 HASK HORD hn1 hn2 hST hA hD HBL HBE HROW HSO hG hwz hr HG5 HS5
      have HKER := Lib.hid (fun M hM hn => (HKE.out has ref busy HGX HGD.out M hM hn).perm HP.out)
      clear HKE
      go_loopg [22] l.length (fun gk s22 wq => ∃ (todo : List (Nat × Nat)) (outs : List Nat), todo.length ≤ gk ∧ QRow wq w5.heap.size 3 1 s22 outs.length (iv outs) ∧ Hid ((outs ++ todo.map (·.2)).Perm (l.map (·.2))) ∧ Hid (RngG kvN kvN wq M1 r todo) ∧ Hid (Below r wz wq) ∧ outs.length + todo.length ≤ l.length ∧ w5.heap.size ≤ wq.heap.size)
      case atStart => exact ⟨l, [], Nat.le_refl _, QRow.nil _ _ _ _, List.Perm.refl _, HR5, HB5, by simp, Nat.le_refl _⟩
      case round =>
        clear HR5 HB5
        obtain ⟨todo, outs, htl, hq, hperm, hR, hB, hlen2, hws⟩ := hrel
        go_wp2_with (first | (refine wpList_next_g rfl (.tmp 90) rfl M1 r todo rfl hR.out ?_ ?_))
        · intro h0
          subst h0
          obtain ⟨s1, s2, rfl⟩ := hq.isSlice
          go_wp2
          go_ret
          refine ⟨_, outs, rfl, hq.mono (by omega), HKER.out outs (fun i => ?_) ?_, HBW.out.trans (hB.out.mono hwr)⟩
          · have := hperm.out
            simp only [List.map_nil, List.append_nil] at this
            exact this.mem_iff.trans (HMM.out i)
          · have := hperm.out
            simp only [List.map_nil, List.append_nil] at this
            exact this.nodup_iff.2 HND.out
        · intro pre x y post w6 htd hR6 hg6 hs6 hen
          have hen' : (Instr.entry (.pointer (some ⟨r, 0, none⟩))).run Tryd.prog w6 = .ok (.tuple #[.int .i64 (x : Int), .int .i64 (y : Int)]) w6 := hen
          have HQ6 := Lib.hid (hq.kept hg6 (.inr (fun e => by have := hq.lt r e; omega)))
          have HR6 := Lib.hid hR6
          have HB6 : Hid (Below r wz w6) := Below.grown hB.out hg6 (by omega) (fun kk e => by cases e; exact Nat.le_refl _)
          have HP6 : Hid (((outs ++ [y]) ++ (pre ++ post).map (·.2)).Perm (l.map (·.2))) := by
            refine List.Perm.trans ?_ hperm.out
            rw [htd, List.map_append, List.map_append, List.map_cons, List.append_assoc]
            exact List.Perm.append_left _ (show (y :: (pre.map (·.2) ++ post.map (·.2))).Perm _ from List.perm_middle.symm)
          have htl6 : (pre ++ post).length + 1 = todo.length := by rw [htd]; simp; omega
          have hws6 : w5.heap.size ≤ w6.heap.size := by rw [hs6]; exact hws
          have HSN : Hid (iv (outs ++ [y]) = iv outs ++ [.int .i64 (y : Int)]) := iv_snoc outs y
          have hol : outs.length + 1 ≤ 1099511627776 := by omega
          have HQA := Lib.hid (HQ6.out.alloc (.cells #[.int .i64 (y : Int)] 3))
          have HLT := Lib.hid (fun kk e => Nat.le_of_lt (Nat.lt_of_lt_of_le hr5 (hq.lt kk e).1))
          have hlenE : (outs ++ [y]).length = outs.length + 1 := by simp
          have HRL := Lib.hid (HR6.out.lt)
          have HLN := Lib.hid hq.lt
          clear htd hR6 hg6 hs6 hen hq hperm hR hB
          go_wp2_with (at_builtin; go_must (refine wpList_append_q _ rfl (.tmp 95) (.tmp 97) 25 rfl w5.heap.size 3 i0 (.int .i64 0) 1 8 Tryd.underlying25 hi hz0 hz1 hz2 rfl (by decide) _ outs.length (iv outs) rfl HQA.out ⟨_, 0, none⟩ 1 1 [.int .i64 (y : Int)] rfl rfl (cells_new1 _ _ _) (by simp [Value.oneCell']) (by unfold maxLen; omega) (by omega) (by simp; omega) ?_); intro v7 w7 hq7 hg7 ho7; have HQ7 : Hid (QRow w7 w5.heap.size 3 1 v7 (outs ++ [y]).length (iv (outs ++ [y]))) := (by rw [HSN.out, hlenE]; exact hq7); have HB7 : Hid (Below r wz w7) := Below.grown (HB6.out.alloc (by omega) _) hg7 (by simp; omega) (fun kk e => HLT.out kk e); have HR7 : Hid (RngG kvN kvN w7 M1 r (pre ++ post)) := (HR6.out.grown (World.grownBy_alloc _ _ none) (by simp) (by simp)).grown hg7 (fun e => by have := HLN.out M1 e.symm; omega) (fun e => by have := HLN.out r e.symm; omega); have hws7 : w5.heap.size ≤ w7.heap.size := Nat.le_trans hws6 (Nat.le_trans (by simp) hg7.size); clear hq7 hg7 ho7)
          go_roundg (pre ++ post).length
          case measure => omega
          case rel => exact ⟨pre ++ post, outs ++ [y], Nat.le_refl _, HQ7.out, HP6, HR7, HB7, by omega, hws7⟩

end Go.Proofs.YtpknnjcbcndbbaaDoor
namespace Go.Proofs.YtpknnjcbcndbbaaDoor
open Go.RowKit Go.Shelf Go.Lib Go.Sort

theorem info4 : (Tryd.prog.info? 4).map (fun i => (i.zero, i.size, i.bytes)) = some (some (.bool false), 1, 1) := by kernel_rfl
theorem under131 : Tryd.prog.underlying 131 = some (.slice 4) := by kernel_rfl
theorem make_131 (n : Nat) (hn : n ≤ 1099511627776) : ∃ vs : Array Value, vs.size = n ∧ (∀ j, j < n → vs[j]? = some (.bool false)) ∧
    ∀ W, Sem.run Tryd.prog (Instr.makeSlice 131 (.int .i64 (n : Int)) (.int .i64 (n : Int))) W = .ok (.slice (some ⟨W.heap.size, 0, none⟩) n n) (W.alloc (.cells vs 4)) := by
  obtain ⟨i0, hi, hz0, hz1, hz2⟩ := info_parts info4
  refine ⟨madeCells #[.bool false] n, size_madeCells _ _, fun j hj => ?_, fun W => ?_⟩
  · rw [← Array.getElem?_toList, toList_madeCells_one, List.getElem?_replicate, if_pos hj]
  · have := run_make (P := Tryd.prog) W 131 4 i0 _ under131 hi hz0 .i64 .i64 (n : Int) (n : Int) (by omega) (Int.le_refl _) (by rw [hz2]; omega) (by omega)
    rw [hz1, show (Value.bool false).cells = #[.bool false] from rfl] at this
    simpa using this
/-- block B is a row of n marks -/
def RowD (W : World) (B n : Nat) (f : Nat → Bool) : Prop := ∃ vs, BoxN W B 4 vs ∧ vs.size = n ∧ ∀ j, j < n → vs[j]? = some (.bool (f j))
section
variable {W W' : World} {B n : Nat} {f f' : Nat → Bool}
theorem RowD.lt (h : RowD W B n f) : B < W.heap.size := h.elim fun _ h => h.1.lt
theorem RowD.cell (h : RowD W B n f) {x : Nat} (hx : x < n) : W.cell? ⟨B, x, none⟩ = some (.bool (f x)) := by
  obtain ⟨vs, h1, h2, h3⟩ := h
  rw [h1.cell]; exact h3 x hx
theorem RowD.frozen (h : RowD W B n f) (x : Nat) : W.frozen? ⟨B, x, none⟩ = false := by
  obtain ⟨vs, h1, _⟩ := h
  exact h1.frozen x
theorem RowD.block (h : RowD W B n f) (hb : W'.heap[B]? = W.heap[B]?) : RowD W' B n f := by
  obtain ⟨vs, h1, h2⟩ := h
  exact ⟨vs, hb.trans h1, h2⟩
theorem RowD.below {k : Nat} (h : RowD W B n f) (hB : Below k W W') (hk : B < k) : RowD W' B n f := h.block (hB.block B hk)
theorem RowD.set (h : RowD W B n f) {x : Nat} (v : Bool) : RowD (W.setCell ⟨B, x, none⟩ (.bool v)) B n (fun j => if j = x then v else f j) := by
  obtain ⟨vs, h1, h2, h3⟩ := h
  refine ⟨_, h1.set x (.bool v), by simpa using h2, fun j hj => ?_⟩
  by_cases e : j = x
  · subst e; rw [Array.getElem?_setIfInBounds_self_of_lt (by omega)]; simp
  · rw [Array.getElem?_setIfInBounds_ne (Ne.symm e)]; simp only [if_neg e]; exact h3 j hj
theorem RowD.other (h : RowD W B n f) {a : Addr} (hne : B ≠ a.block) (x : Value) : RowD (W.setCell a x) B n f := by
  obtain ⟨vs, h1, h2⟩ := h
  exact ⟨vs, h1.other hne x, h2⟩
theorem RowD.congr (h : RowD W B n f) (e : ∀ x, x < n → f x = f' x) : RowD W B n f' := by
  obtain ⟨vs, h1, h2, h3⟩ := h
  exact ⟨vs, h1, h2, fun j hj => by rw [h3 j hj, e j hj]⟩
end
/-- the ends of an edge, by the sides -/
theorem ask_spec {g : List Nat} {ps : List (Int × Int)} {s : Nat} (E : EdgesOK g ps) (T : TwoCol g s) {i : Nat} (hi : i < ps.length) : pr (qa ps i) = ed (askV s ps i) (askW s ps i) ∧ s.testBit (askV s ps i) = true ∧ s.testBit (askW s ps i) = false ∧ pr (qa ps i) = ((pr (qa ps i)).1, (pr (qa ps i)).2) := by
  obtain ⟨x, y, e1, hxy, hy16, ha, -⟩ := E.edge i hi
  have hqa : qa ps i = ((x : Int), (y : Int)) := by unfold qa; rw [e1]; rfl
  have hp : pr (qa ps i) = (x, y) := by rw [hqa]; rfl
  have ht := T x y ha
  unfold askV askW
  rw [hp]
  simp only
  cases hb : s.testBit x with
  | true =>
    rw [hb] at ht
    refine ⟨by simp only [if_true]; exact (ed_lt hxy).symm, by simpa using hb, ?_, trivial⟩
    simp only [if_true]
    cases h : s.testBit y with
    | false => rfl
    | true => rw [h] at ht; exact absurd rfl ht
  | false =>
    rw [hb] at ht
    refine ⟨by simp only [Bool.false_eq_true, if_false]; rw [ed_comm]; exact (ed_lt hxy).symm, ?_, by simpa using hb, trivial⟩
    simp only [Bool.false_eq_true, if_false]
    cases h : s.testBit y with
    | true => rfl
    | false => rw [h] at ht; exact absurd rfl ht
theorem edge_inj {g : List Nat} {ps : List (Int × Int)} (E : EdgesOK g ps) {i j : Nat} (hi : i < ps.length) (hj : j < ps.length) (h : pr (qa ps i) = pr (qa ps j)) : i = j := by
  obtain ⟨x, y, e1, -⟩ := E.edge i hi
  obtain ⟨x', y', e2, -⟩ := E.edge j hj
  have h1 : qa ps i = ((x : Int), (y : Int)) := by unfold qa; rw [e1]; rfl
  have h2 : qa ps j = ((x' : Int), (y' : Int)) := by unfold qa; rw [e2]; rfl
  have hp : ((x, y) : Nat × Nat) = (x', y') := by
    have e3 : pr (qa ps i) = (x, y) := by rw [h1]; rfl
    have e4 : pr (qa ps j) = (x', y') := by rw [h2]; rfl
    rw [← e3, ← e4, h]
  have hxx := congrArg Prod.fst hp
  have hyy := congrArg Prod.snd hp
  simp only at hxx hyy
  have heq : ps[i]? = ps[j]? := by rw [e1, e2, hxx, hyy]
  rcases Nat.lt_trichotomy i j with h | h | h
  · exact absurd heq (E.nd i j h hj)
  · exact h
  · exact absurd heq.symm (E.nd j i h hi)
/-- the number that an edge has by hues -/
def odC (col : Nat × Nat → Option Nat) (ps : List (Int × Int)) (i : Nat) : Nat := (col (pr (qa ps i))).getD 0
theorem qa_mem {ps : List (Int × Int)} {i : Nat} (hi : i < ps.length) : qa ps i ∈ ps := by unfold qa; rw [List.getElem?_eq_getElem hi]; exact List.getElem_mem hi
theorem sep_hues {g us : _} {ps : List (Int × Int)} {s : Nat} {col : Nat × Nat → Option Nat} (E : EdgesOK g ps) (T : TwoCol g s) (H : HInv g us col) (hall : ∀ q ∈ ps, col (pr q) ≠ none) : Sep (askV s ps) (askW s ps) (odC col ps) ps.length := fun i j hi hj hne hm e => by
  obtain ⟨h1, hh1⟩ := Option.ne_none_iff_exists'.1 (hall _ (qa_mem hi))
  obtain ⟨h2, hh2⟩ := Option.ne_none_iff_exists'.1 (hall _ (qa_mem hj))
  unfold odC at e
  rw [hh1, hh2] at e
  have e : h1 = h2 := e
  subst e
  have p1 := (ask_spec E T hi).1
  have p2 := (ask_spec E T hj).1
  rw [p1] at hh1
  rw [p2] at hh2
  refine hne (edge_inj E hi hj ?_)
  rw [p1, p2]
  rcases hm with hm | hm
  · rw [← hm] at hh2
    rw [← hm, H.inj _ _ _ _ hh1 hh2]
  · rw [← hm] at hh2
    rw [ed_comm] at hh1 hh2
    have := H.inj _ _ _ _ hh1 hh2
    rw [← hm, this]
/-- hues that are apart by the sides are proper -/
theorem proper_sep {g : List Nat} {ps : List (Int × Int)} {s : Nat} {out : Nat → Nat} (E : EdgesOK g ps) (T : TwoCol g s) (h : ∀ i j, i < ps.length → j < ps.length → i ≠ j → (askV s ps i = askV s ps j ∨ askW s ps i = askW s ps j) → out i ≠ out j) : ProperI ps (fun i => (out i : Int)) := fun i hi k hk hc => by
  obtain ⟨v, x, y, p1, p2⟩ := meet_ends E hi (by omega) hc.2
  have q1 := ask_spec E T hi
  have q2 := ask_spec E T (i := k) (by omega)
  have hed : ∀ {a b v x : Nat}, ed a b = ed v x → v = a ∨ v = b := fun {a b v x} e => by
    unfold ed at e
    have e1 := congrArg Prod.fst e
    have e2 := congrArg Prod.snd e
    simp only at e1 e2
    omega
  have m1 := hed (q1.1.symm.trans p1)
  have m2 := hed (q2.1.symm.trans p2)
  have hne : ¬ out i = out k := h i k hi (by omega) (by omega) (by
    cases hb : s.testBit v with
    | true =>
      left
      rcases m1 with m1 | m1
      · rcases m2 with m2 | m2
        · rw [← m1, ← m2]
        · rw [m2, q2.2.2.1] at hb; cases hb
      · rw [m1, q1.2.2.1] at hb; cases hb
    | false =>
      right
      rcases m1 with m1 | m1
      · rw [m1, q1.2.1] at hb; cases hb
      · rcases m2 with m2 | m2
        · rw [m2, q2.2.1] at hb; cases hb
        · rw [← m1, ← m2])
  have h9 : (out i : Int) = (out k : Int) := hc.1
  exact hne (by omega)
end Go.Proofs.YtpknnjcbcndbbaaDoor
namespace Go.Proofs.YtpknnjcbcndbbaaDoor
open Go.RowKit Go.Shelf Go.Lib Go.Sort

theorem konig_two (B n s : Nat) (a : Option Addr) (cap : Nat) (ps : List (Int × Int)) (W : World) (hT : Tab W) (hG : Good n ps a W) (hg : GraphAt W B n a cap ps.length (ofE n ps)) (hs : TwoCol (ofE n ps) s) :
    Calls Tryd.prog 64 #[.pointer (some ⟨B, 0, none⟩)] W fun e w' => ∃ v us col, e = .returned v ∧ QRow w' W.heap.size 3 1 v ps.length (hl col ps) ∧ Below W.heap.size W w' ∧ HInv (ofE n ps) us col ∧ (∀ e h, col e = some h → h < dgTo (ofE n ps) 16) ∧ ∀ q ∈ ps, col (pr q) ≠ none := by
  have hdb := dg_bounds hG.n1 hG.n2 hG.ok
  refine (konig_any (fun x => s.testBit x) B n (dgTo (ofE n ps) 16 - 1) a cap (ofE n ps) ps W hT hg hG.hg (ofE_sm hG.n2 hG.ok) (edgesOK hG.n2 hG.ok) hG.hl (by have := hdb.2; have := hG.n2; omega) hs (fun u hu => by have := hdb.1 u hu; omega)).mono ?_
  rintro e w' ⟨v, us, col, h1, h2, h3, h4, h5, h6⟩
  refine ⟨v, us, col, h1, h2, h3, h4, fun e h he => ?_, h6⟩
  obtain ⟨x, y, rfl⟩ := h4.key e h he
  have h7 := (h4.edge x y h he)
  have h8 := hdb.1 x h7.2.1
  have h9 : y ∈ els ((ofE n ps)[x]?.getD 0) := (mem_els (ofE_sm hG.n2 hG.ok x)).2 h7.2.2.2.1
  have := List.length_pos_of_mem h9
  have := h5 _ _ he
  omega
def exD (ob db k : Nat) : Prop := k = ob ∨ k = db
/-- what may have the hue h, of the first i edges -/
def lfH (done : Nat → Bool) (Ls : Nat → Nat) (h i : Nat) : List Nat := (List.range i).filter fun j => !done j && (Ls j).testBit h
theorem lfH_succ (done : Nat → Bool) (Ls : Nat → Nat) (h i : Nat) : lfH done Ls h (i + 1) = lfH done Ls h i ++ (if !done i && (Ls i).testBit h then [i] else []) := by
  unfold lfH
  rw [List.range_succ, List.filter_append, List.filter_cons, List.filter_nil]
theorem lfH_len (done : Nat → Bool) (Ls : Nat → Nat) (h i : Nat) : (lfH done Ls h i).length ≤ i := by
  unfold lfH
  exact Nat.le_trans (List.length_filter_le _ _) (by rw [List.length_range]; omega)
theorem lfH_mem {done : Nat → Bool} {Ls : Nat → Nat} {h L i : Nat} : i ∈ lfH done Ls h L ↔ i < L ∧ done i = false ∧ (Ls i).testBit h = true := by
  unfold lfH
  rw [List.mem_filter, List.mem_range]
  simp
set_option maxRecDepth 100000 in
set_option maxHeartbeats 4000000 in
theorem galvin_any (G n s : Nat) (a : Option Addr) (cap : Nat) (ps : List (Int × Int)) (pl : Option Addr) (lc : Nat) (Ls : Nat → Nat) (w : World) (hT : Tab w) (hG : Good n ps a w) (hg : GraphAt w G n a cap ps.length (ofE n ps)) (T : TwoCol (ofE n ps) s) (hs : Sm s) (hLs : RowU w pl ps.length Ls) (h64 : ∀ i, Ls i < 18446744073709551616) (hsz : ∀ i, i < ps.length → dgTo (ofE n ps) 16 ≤ size (Ls i)) :
    Calls Tryd.prog 73 #[.pointer (some ⟨G, 0, none⟩), .int .i64 (s : Int), .slice pl ps.length lc] w fun e w' => (∃ (ob : Nat) (out : Nat → Nat), e = .returned (.slice (some ⟨ob, 0, none⟩) ps.length ps.length) ∧ SrcI w' (some ⟨ob, 0, none⟩) ps.length (fun i => (out i : Int)) ∧ (∀ i, i < ps.length → (Ls i).testBit (out i) = true) ∧ ProperI ps (fun i => (out i : Int))) ∧ Below w.heap.size w w' := by
  obtain ⟨i0, hi, hz0, hz1, hz2⟩ := info_parts info3
  have hlen := hG.hl
  have HKN := Lib.hid (konig_two G n s a cap ps w hT hG hg T)
  have E := edgesOK hG.n2 hG.ok
  have HPS : Hid (∀ (us : Nat → Nat) col, HInv (ofE n ps) us col → (∀ q ∈ ps, col (pr q) ≠ none) → Sep (askV s ps) (askW s ps) (odC col ps) ps.length) := fun us col H hall => sep_hues E T H hall
  have HPR : Hid (∀ out : Nat → Nat, (∀ i j, i < ps.length → j < ps.length → i ≠ j → (askV s ps i = askV s ps j ∨ askW s ps i = askW s ps j) → out i ≠ out j) → ProperI ps (fun i => (out i : Int))) := fun out h => proper_sep E T h
  have HSTB : Hid (∀ W (left : List Nat) (p po : Option Addr) (c co : Nat) (od : Nat → Nat), Below w.heap.size w W → (∀ i ∈ left, i < ps.length) → left.length ≤ 1099511627776 → SrcI W p left.length (natI left) → SrcI W po ps.length (fun j => (od j : Int)) → (∀ j, od j ≤ 64) → Sep (askV s ps) (askW s ps) od ps.length → Calls Tryd.prog 93 #[.pointer (some ⟨G, 0, none⟩), .slice p left.length c, .int .i64 (s : Int), .slice po ps.length co] W fun e w' => ∃ v M, e = .returned v ∧ QRow w' W.heap.size 3 1 v M.length (iv M) ∧ Kern (askV s ps) (askW s ps) od left M ∧ Below W.heap.size W w') := fun W left p po c co od hW h1 h2 h3 h4 h5 h6 =>
    stable_any G n s a cap _ ps left p po c co od W (hg.below hW (Nat.le_refl _)) (hG.hg.below hW (Nat.le_refl _)) E hs hlen h1 h2 h3 h4 h5 h6
  have HGR : Hid (∀ W, Below w.heap.size w W → W.cell? ⟨G, 1, none⟩ = some (.slice a ps.length cap)) := fun W hW => (hg.below hW (Nat.le_refl _)).e
  have HLS : Hid (∀ W, Below w.heap.size w W → RowU W pl ps.length Ls) := fun W hW => hLs.below hW (Nat.le_refl _)
  have HSZ := Lib.hid hsz
  have H64 := Lib.hid h64
  obtain ⟨D, hD⟩ : ∃ D, Hid (D = dgTo (ofE n ps) 16) := ⟨_, rfl⟩
  rw [← hD.out] at HKN HSZ
  clear hT hG hg T hs hLs h64 hsz E hD
  obtain ⟨va, hva⟩ : ∃ va, Hid (va = askV s ps) := ⟨_, rfl⟩
  obtain ⟨vb, hvb⟩ : ∃ vb, Hid (vb = askW s ps) := ⟨_, rfl⟩
  rw [← hva.out, ← hvb.out] at HPS HPR HSTB
  obtain ⟨L, hLe⟩ : ∃ L, Hid (ps.length = L) := ⟨_, rfl⟩
  have HSRC : Hid (∀ (W : World) base (p : Option Addr) (c : Nat) col, QRow W base 3 1 (.slice p L c) L (hl col ps) → SrcI W p L (fun i => (odC col ps i : Int))) := fun W base p c col h => h.srcI (by rw [← hLe.out]; exact hl_get col ps)
  have HQM : Hid (∀ i, i < L → qa ps i ∈ ps) := fun i hi => qa_mem (by rw [hLe.out]; exact hi)
  rw [hLe.out] at HKN HPS HPR HSTB HGR HLS HSZ hlen ⊢
  obtain ⟨vs0, hv1, hv2, HMK⟩ := make_25b L (by omega)
  obtain ⟨ds0, hd1, hd2, HMD⟩ := make_131 L (by omega)
  have HV1 := Lib.hid hv1
  have HV2 := Lib.hid hv2
  have HD1 := Lib.hid hd1
  have HD2 := Lib.hid hd2
  have hgw := HGR.out w (Below.refl _ _)
  clear hv1 hv2 hd1 hd2
  go_enter Tryd.func73, Tryd.ntmps73
  go_upto_region 2 with (go_at_call 64; refine HKN.out.mono ?_; rintro e w1 ⟨v1, us, col, rfl, hq1, hB1, hI, hdg, hall⟩; obtain ⟨p1, c1, rfl⟩ := hq1.isSlice; have HQ1 := Lib.hid hq1; have HB1 := Lib.hid hB1; have HI := Lib.hid hI; have HDG := Lib.hid hdg; have HALL := Lib.hid hall; clear hq1 hB1 hI hdg hall)
  clear hgw HKN
  have hg1 := HGR.out w1 HB1.out
  go_upto_region 3 with (fail)
  clear hg1
  have hx1 : RowB (w1.alloc (.cells vs0 3)) w1.heap.size L (fun _ => 0) := ⟨vs0, BoxN.new rfl, HV1.out, fun j hj => HV2.out j hj⟩
  have hbx1 : Below w1.heap.size w1 (w1.alloc (.cells vs0 3)) := (Below.refl _ _).alloc (Nat.le_refl _) _
  have hsx1 := Lib.hid (show (w1.alloc (.cells vs0 3)).heap.size = w1.heap.size + 1 by simp)
  obtain ⟨ob, hob⟩ : ∃ ob, Hid (ob = w1.heap.size) := ⟨_, rfl⟩
  rw [← hob.out] at hx1 hsx1 ⊢
  generalize w1.alloc (.cells vs0 3) = X1 at *
  have HX1 := Lib.hid hx1
  have HBX1 := Lib.hid hbx1
  have hg2 := HGR.out X1 (HB1.out.trans (hbx1.mono HB1.out.size))
  clear hx1 hbx1
  go_upto_region 4 with (fail)
  clear hg2 HMK HMD
  have hx2 : RowD (X1.alloc (.cells ds0 4)) X1.heap.size L (fun _ => false) := ⟨ds0, BoxN.new rfl, HD1.out, fun j hj => HD2.out j hj⟩
  have hbx2 : Below X1.heap.size X1 (X1.alloc (.cells ds0 4)) := (Below.refl _ _).alloc (Nat.le_refl _) _
  have hsx2 := Lib.hid (show (X1.alloc (.cells ds0 4)).heap.size = X1.heap.size + 1 by simp)
  obtain ⟨db, hdb⟩ : ∃ db, Hid (db = X1.heap.size) := ⟨_, rfl⟩
  rw [← hdb.out] at hx2 hsx2 ⊢
  generalize X1.alloc (.cells ds0 4) = X2 at *
  have HX2 := Lib.hid hx2
  have HBX2 := Lib.hid hbx2
  have HR0 := Lib.hid (HX1.out.below hbx2 HX1.out.lt)
  have hod1 : ob < db := by rw [hdb.out, hsx1.out]; omega
  clear hx2 hbx2
  have HBW : Hid (∀ W, Ag (exD ob db) X2 W → Below w.heap.size w W) := fun W hA => by
    have h1 := HB1.out.size
    have h2 := HBX1.out.size
    have h3 := HBX2.out.size
    have h4 := hob.out
    have h5 := hdb.out
    exact hA.below ((HB1.out.trans (HBX1.out.mono h1)).trans (HBX2.out.mono (by omega))) (by omega) (fun k hk e => by unfold exD at e; omega)
  have HSO : Hid (∀ W, Ag (exD ob db) X2 W → SrcI W p1 L (fun i => (odC col ps i : Int))) := fun W hA => by
    have hq2 := HQ1.out.below (HBX1.out) (fun k hk => (HQ1.out.lt k hk).2)
    have hq3 := hq2.below (HBX2.out) (fun k hk => (hq2.lt k hk).2)
    refine HSRC.out W w.heap.size p1 c1 col (hA.qrow hq3 fun k hk e => ?_)
    have h1 := (HQ1.out.lt k hk).2
    have h4 := hob.out
    unfold exD at e
    omega
  have HSEP : Hid (Sep va vb (odC col ps) L) := HPS.out us col HI.out HALL.out
  have HOD64 : Hid (∀ j, odC col ps j ≤ 64) := fun j => by
    unfold odC
    cases hc : col (pr (qa ps j)) with
    | none => simp
    | some h =>
      obtain ⟨x, y, exy⟩ := HI.out.key _ h hc
      rw [exy] at hc
      have := (HI.out.edge x y h hc).2.2.2.2
      simp only [Option.getD_some]
      omega
  have HGI : Hid (GI va vb (odC col ps) L Ls 0 (fun _ => false) (fun _ => 0)) := GI.start HSEP.out (D := D) (fun i hi => by
    obtain ⟨h, hh⟩ := Option.ne_none_iff_exists'.1 (HALL.out _ (HQM.out i hi))
    unfold odC
    rw [hh]
    exact HDG.out _ h hh) HSZ.out
  clear HI HDG HALL HSZ HPS HSRC HQ1 HX1 HBX1 HBX2 HB1 hsx1 hsx2 HV1 HV2 HD1 HD2 hob hdb
  obtain ⟨od, hode⟩ : ∃ od, Hid (od = odC col ps) := ⟨_, rfl⟩
  rw [← hode.out] at HSO HSEP HOD64 HGI
  go_upto_region 5 with (fail)
  go_loopw [29] (fun s29 wr => ∃ (h : Nat) (done : Nat → Bool) (out : Nat → Nat), h ≤ 64 ∧ s29 = .int .i64 (h : Int) ∧ Hid (GI va vb od L Ls h done out) ∧ Hid (RowB wr ob L (fun i => (out i : Int))) ∧ Hid (RowD wr db L done) ∧ Hid (Ag (exD ob db) X2 wr)) (fun s29 _ => 64 - (intOf s29).toNat)
  case atStart => exact ⟨0, _, _, by omega, rfl, HGI, HR0, HX2, Ag.refl _ _⟩
  case round =>
    clear HGI HR0 HX2
    obtain ⟨h, done, out, hh, rfl, hGI, hRO, hRD, hA⟩ := hrel
    by_cases hh64 : h < 64
    · have g1 : (h : Int) < 64 := by omega
      have hgc := HGR.out wr (HBW.out wr hA.out)
      obtain ⟨wo, hwo⟩ : ∃ wo, Hid (wo = wr) := ⟨_, rfl⟩
      rw [← hwo.out] at hgc hRO hRD hA ⊢
      clear hwo
      have hwh : IntKind.u64.wrap (h : Int) = (h : Int) := u64_same _ (by omega)
      go_upto_region 9 with (fail)
      clear hgc
      go_loopw [11, 37] (fun s11 s37 wq => ∃ i : Nat, i ≤ L ∧ s37 = .int .i64 (i : Int) ∧ QRow wq wo.heap.size 3 1 s11 (lfH done Ls h i).length (iv (lfH done Ls h i)) ∧ Hid (Below wo.heap.size wo wq)) (fun _ s37 _ => L - (intOf s37).toNat)
      case atStart => exact ⟨0, by omega, rfl, QRow.nil _ _ _ _, Below.refl _ _⟩
      case round =>
        obtain ⟨i, hil, rfl, hq, hB⟩ := hrel
        by_cases hiL : i < L
        · have g2 : (i : Int) < (L : Int) := by omega
          have k1 := hRD.out.cell hiL
          have r1 : wr.cell? ⟨db, i, none⟩ = some (.bool (done i)) := (hB.out.cell (p := ⟨db, i, none⟩) hRD.out.lt).trans k1
          obtain ⟨lb, lq, el, hlb, hlc⟩ := HLS.out wr ((HBW.out wo hA.out).trans (hB.out.mono (HBW.out wo hA.out).size)) (by omega)
          have r2 : wr.cell? ⟨lb, lq + i, none⟩ = some (.int .u64 (Ls i : Nat)) := hlc i hiL
          have h64i := H64.out i
          have hbt := shr_and1_u (Ls i) h h64i
          have hsn := lfH_succ done Ls h i
          have hll := lfH_len done Ls h i
          subst el
          clear hlc k1
          cases hdi : done i with
          | true =>
            rw [hdi] at r1
            have HSN : Hid (lfH done Ls h (i + 1) = lfH done Ls h i) := by show lfH done Ls h (i + 1) = _; rw [hsn, hdi]; simp
            clear hsn hdi hbt r2
            go_wp2
            exact ⟨⟨i + 1, by omega, int_eq (by omega), by rw [HSN.out]; exact hq, hB⟩, by simp [intOf]; omega⟩
          | false =>
            rw [hdi] at r1
            cases hbit : (Ls i).testBit h with
            | false =>
              have HSN : Hid (lfH done Ls h (i + 1) = lfH done Ls h i) := by show lfH done Ls h (i + 1) = _; rw [hsn, hdi, hbit]; simp
              clear hsn hdi
              go_wp2
              exact ⟨⟨i + 1, by omega, int_eq (by omega), by rw [HSN.out]; exact hq, hB⟩, by simp [intOf]; omega⟩
            | true =>
              have HSN : Hid (lfH done Ls h (i + 1) = lfH done Ls h i ++ [i]) := by show lfH done Ls h (i + 1) = _; rw [hsn, hdi, hbit]; simp
              clear hsn hdi
              generalize lfH done Ls h i = lf at *
              have hsw : wo.heap.size ≤ wr.heap.size := hB.out.size
              have HQA := Lib.hid (hq.alloc (.cells #[.int .i64 (i : Int)] 3))
              have HLT := Lib.hid hq.lt
              clear hq
              go_wp2_with (at_builtin; go_must (refine wpList_append_q _ rfl (.tmp 56) (.tmp 58) 25 rfl wo.heap.size 3 i0 (.int .i64 0) 1 8 Tryd.underlying25 hi hz0 hz1 hz2 rfl (by decide) _ lf.length (iv lf) rfl HQA.out ⟨_, 0, none⟩ 1 1 [.int .i64 (i : Int)] rfl rfl (cells_new1 _ _ _) (by simp [Value.oneCell']) (by unfold maxLen; omega) (by omega) (by simp; omega) ?_); intro v7 w7 hq7 hg7 ho7; have HQ7 : Hid (QRow w7 wo.heap.size 3 1 v7 (lfH done Ls h (i + 1)).length (iv (lfH done Ls h (i + 1)))) := (by rw [HSN.out, iv_snoc, List.length_append]; exact hq7); have HB7 : Hid (Below wo.heap.size wo w7) := Below.grown (hB.out.alloc hsw _) hg7 (by simp; omega) (fun kk e => (HLT.out kk e).1); clear hq7 hg7 ho7)
              exact ⟨⟨i + 1, by omega, int_eq (by omega), HQ7.out, HB7⟩, by simp [intOf]; omega⟩
        · have g2 : ¬ (i : Int) < (L : Int) := by omega
          obtain rfl : i = L := by omega
          obtain ⟨p11, c11, rfl⟩ := hq.isSlice
          have hBA : Ag (exD ob db) wo wr := ⟨hB.out.os, hB.out.tape, hB.out.output, hB.out.size, fun k hk _ => hB.out.block k hk⟩
          have HA2 := Lib.hid (hA.out.trans hBA)
          have hll := lfH_len done Ls h i
          have HLM : Hid (∀ j, j ∈ lfH done Ls h i ↔ j < i ∧ done j = false ∧ (Ls j).testBit h = true) := fun j => lfH_mem
          have HC := Lib.hid (HSTB.out wr (lfH done Ls h i) p11 p1 c11 c1 od (HBW.out wr HA2.out) (fun j hj => (lfH_mem.1 hj).1) (by omega) (hq.srcI fun j hj => iv_get hj) (HSO.out wr HA2.out) HOD64.out HSEP.out)
          have HRO := Lib.hid (hRO.out.below hB.out hRO.out.lt)
          have HRD := Lib.hid (hRD.out.below hB.out hRD.out.lt)
          clear hq hBA hRO hRD hA hB
          generalize lfH done Ls h i = lf at *
          go_upto_region 15 with (go_at_call 93; refine HC.out.mono ?_; rintro e w5 ⟨v5, M, rfl, hq5, hK, hB5⟩; obtain ⟨p5, c5, rfl⟩ := hq5.isSlice; have HQ5 := Lib.hid hq5; have HK := Lib.hid hK; have HB5 := Lib.hid hB5; clear hq5 hK hB5)
          clear HC
          have HA5 : Hid (Ag (exD ob db) X2 w5) := HA2.out.trans ⟨HB5.out.os, HB5.out.tape, HB5.out.output, HB5.out.size, fun k hk _ => HB5.out.block k hk⟩
          have HRO5 := Lib.hid (HRO.out.below HB5.out HRO.out.lt)
          have HRD5 := Lib.hid (HRD.out.below HB5.out HRD.out.lt)
          have hobl : ob < wr.heap.size := HRO.out.lt
          have hdbl : db < wr.heap.size := HRD.out.lt
          have HMR : Hid (∀ W, Ag (exD ob db) w5 W → SrcI W p5 M.length (natI M)) := fun W hA => (hA.qrow HQ5.out fun k hk e => by have := (HQ5.out.lt k hk).1; unfold exD at e; omega).srcI fun j hj => iv_get hj
          have HML : Hid (∀ j ∈ M, j < i) := fun j hj => ((HLM.out j).1 (HK.out.sub j hj)).1
          have hMl : M.length ≤ 1099511627776 := by
            have := nodup_sub M lf HK.out.nd HK.out.sub
            omega
          have hne : ob ≠ db := by omega
          clear HA2 HRO HRD HB5 HQ5
          go_loopw [67] (fun s67 wq => ∃ k : Nat, k ≤ M.length ∧ s67 = .int .i64 (k : Int) ∧ Hid (RowB wq ob i (fun j => ((if j ∈ M.take k then h else out j : Nat) : Int))) ∧ Hid (RowD wq db i (fun j => if j ∈ M.take k then true else done j)) ∧ Hid (Ag (exD ob db) w5 wq)) (fun s67 _ => M.length - (intOf s67).toNat)
          case atStart => exact ⟨0, by omega, rfl, HRO5.out.congr fun x _ => by simp, HRD5.out.congr fun x _ => by simp, Ag.refl _ _⟩
          case round =>
            clear HRO5 HRD5
            obtain ⟨k, hk, rfl, hO, hDn, hA3⟩ := hrel
            by_cases hkM : k < M.length
            · have g3 : (k : Int) < (M.length : Int) := by omega
              obtain ⟨mb, mo, em, hmb, hmc⟩ := HMR.out wr hA3.out (by omega)
              have r0 : wr.cell? ⟨mb, mo + k, none⟩ = some (.int .i64 (nth M k : Nat)) := hmc k hkM
              have hMk : nth M k ∈ M := by unfold nth; rw [List.getElem?_eq_getElem hkM]; exact List.getElem_mem hkM
              obtain ⟨x, hx⟩ : ∃ x, Hid (x = nth M k) := ⟨_, rfl⟩
              rw [← hx.out] at r0 hMk
              have hxi := HML.out x hMk
              have g4 : (x : Int) < (i : Int) := by omega
              have f1 := hO.out.frozen x
              have f2 := hDn.out.frozen x
              have q1 := hO.out.cell hxi
              have q2 := hDn.out.cell hxi
              have htk : Hid (∀ j, j ∈ M.take (k + 1) ↔ j ∈ M.take k ∨ j = x) := fun j => by
                rw [List.take_add_one, List.getElem?_eq_getElem hkM, List.mem_append]
                have : M[k] = x := by rw [hx.out]; unfold nth; rw [List.getElem?_eq_getElem hkM]; rfl
                simp [this]
              have HO2 : Hid (RowB ((wr.setCell ⟨ob, x, none⟩ (.int .i64 (h : Int))).setCell ⟨db, x, none⟩ (.bool true)) ob i (fun j => ((if j ∈ M.take (k + 1) then h else out j : Nat) : Int))) := ((hO.out.set hxi (h : Int)).other hne _).congr fun j _ => by
                by_cases e : j = x
                · rw [if_pos e, if_pos ((htk.out j).2 (.inr e))]
                · rw [if_neg e]
                  by_cases e2 : j ∈ M.take k
                  · rw [if_pos e2, if_pos ((htk.out j).2 (.inl e2))]
                  · rw [if_neg e2, if_neg (fun h => ((htk.out j).1 h).elim e2 e)]
              have HD2 : Hid (RowD ((wr.setCell ⟨ob, x, none⟩ (.int .i64 (h : Int))).setCell ⟨db, x, none⟩ (.bool true)) db i (fun j => if j ∈ M.take (k + 1) then true else done j)) := ((hDn.out.other (a := ⟨ob, x, none⟩) (fun e => hne e.symm) (.int .i64 (h : Int))).set true).congr fun j _ => by
                by_cases e : j = x
                · rw [if_pos e, if_pos ((htk.out j).2 (.inr e))]
                · rw [if_neg e]
                  by_cases e2 : j ∈ M.take k
                  · rw [if_pos e2, if_pos ((htk.out j).2 (.inl e2))]
                  · rw [if_neg e2, if_neg (fun h => ((htk.out j).1 h).elim e2 e)]
              have HA3 := Lib.hid ((hA3.out.set ⟨ob, x, none⟩ (.int .i64 (h : Int)) (.inr (.inl rfl))).set ⟨db, x, none⟩ (.bool true) (.inr (.inr rfl)))
              subst em
              clear hmc hMk
              go_wp2
              exact ⟨⟨k + 1, by omega, int_eq (by omega), HO2, HD2, HA3⟩, by simp [intOf]; omega⟩
            · have g3 : ¬ (k : Int) < (M.length : Int) := by omega
              obtain rfl : k = M.length := by omega
              have htk : M.take M.length = M := List.take_length
              have HO2 : Hid (RowB wr ob i (fun j => ((if j ∈ M then h else out j : Nat) : Int))) := by
                have := hO.out
                rwa [htk] at this
              have HD2 : Hid (RowD wr db i (fun j => if j ∈ M then true else done j)) := by
                have := hDn.out
                rwa [htk] at this
              have HGN : Hid (GI va vb od i Ls (h + 1) (fun j => if j ∈ M then true else done j) (fun j => if j ∈ M then h else out j)) := hGI.out.step hh64 HLM.out HK.out (fun j => by
                by_cases e : j ∈ M
                · simp [e]
                · simp [e]) (fun j => ⟨fun e => if_pos e, fun e => if_neg e⟩)
              have HAN := Lib.hid (HA5.out.trans hA3.out)
              clear htk
              go_wp2
              exact ⟨⟨h + 1, _, _, by omega, int_eq (by omega), HGN, HO2, HD2, HAN⟩, by simp [intOf]; omega⟩
    · have g1 : ¬ (h : Int) < 64 := by omega
      obtain rfl : h = 64 := by omega
      have HF := Lib.hid hGI.out.last
      have HOW : Hid (∀ j, j < L → (Ls j).testBit (out j) = true) := fun j hj => (hGI.out.own j hj (HF.out j hj)).2
      have HPO : Hid (ProperI ps (fun j => (out j : Int))) := HPR.out out fun j k hj hk hne hm => hGI.out.sep j k hj hk hne (HF.out j hj) (HF.out k hk) hm
      have HSR : Hid (SrcI wr (some ⟨ob, 0, none⟩) L (fun j => (out j : Int))) := fun _ => ⟨ob, 0, rfl, hRO.out.lt, fun j hj => by rw [Nat.zero_add]; exact hRO.out.cell hj⟩
      have HBF := Lib.hid (HBW.out wr hA.out)
      go_wp2
      go_ret
      exact ⟨⟨ob, rfl, out, HSR.out, HOW.out, HPO.out⟩, HBF.out⟩
end Go.Proofs.YtpknnjcbcndbbaaDoor
namespace Go.Proofs.YtpknnjcbcndbbaaDoor
open Go.RowKit Go.Shelf Go.Lib Go.Sort

theorem rise_up {l : List Int} (h : Rise l) : ∀ d i, i + d + 1 < l.length → zz l i < zz l (i + d + 1)
  | 0, i, hi => by
    have := (h (i + 1) hi).2.2 (by omega)
    simpa using this
  | d + 1, i, hi => by
    have h1 := rise_up h d i (by omega)
    have h2 := (h (i + d + 1 + 1) hi).2.2 (by omega)
    rw [show i + d + 1 + 1 - 1 = i + d + 1 by omega] at h2
    rw [show i + (d + 1) + 1 = i + d + 1 + 1 by omega]
    omega
theorem rise_nd {ls : Nat → List Int} {i : Nat} (h : Rise (ls i)) : (natL ls i).Nodup := by
  unfold natL List.Nodup
  rw [List.pairwise_map, List.pairwise_iff_getElem]
  intro a b ha hb hab e
  have h1 := rise_up h (b - a - 1) a (by omega)
  rw [show a + (b - a - 1) + 1 = b by omega] at h1
  have h2 := (h a ha).1
  unfold zz at h1 h2
  rw [List.getElem?_eq_getElem ha, List.getElem?_eq_getElem hb] at h1
  rw [List.getElem?_eq_getElem ha] at h2
  simp only [Option.getD_some] at h1 h2
  omega
theorem mask_size {ls : Nat → List Int} {i : Nat} (h : Rise (ls i)) : size (mskTo (zz (ls i)) (ls i).length) = (ls i).length := by
  have hm : ∀ x, x ∈ natL ls i ↔ (mskTo (zz (ls i)) (ls i).length).testBit x = true := fun x => by rw [mem_natL h, mask_of h]
  have h1 := nodup_sub (bl (mskTo (zz (ls i)) (ls i).length) 64) (natL ls i) ((bl_pair _ _).imp fun hlt => Nat.ne_of_lt hlt) fun x hx => (hm x).2 (mem_bl.1 hx).2
  have h2 := nodup_sub (natL ls i) (bl (mskTo (zz (ls i)) (ls i).length) 64) (rise_nd h) fun x hx => mem_bl.2 ⟨natL_lt h hx, (hm x).1 hx⟩
  rw [bl_size] at h1 h2
  have h3 : (natL ls i).length = (ls i).length := by unfold natL; rw [List.length_map]
  unfold size
  omega
/-- what Galvin answers -/
def GalA (g : List Nat) (n D : Nat) (ps : List (Int × Int)) (ls : Nat → List Int) (m : Nat) (W' : World) (e : Ending) : Prop :=
  (e = .returned (.tuple #[.slice none 0 0, .int .i64 70]) ∧ ¬ ListsP ls m ps.length) ∨
  (e = .returned (.tuple #[.slice none 0 0, .int .i64 4]) ∧ ListsP ls m ps.length ∧ SidesR g n 0 false) ∨
  (e = .returned (.tuple #[.slice none 0 0, .int .i64 1]) ∧ ListsP ls m ps.length ∧ (∃ s, SidesR g n s true) ∧ ∃ i, i < m ∧ (ls i).length < D) ∨
  (∃ (p : Option Addr) (out : Nat → Nat), e = .returned (.tuple #[.slice p ps.length ps.length, .int .i64 0]) ∧ ListsP ls m ps.length ∧ (∃ s, SidesR g n s true) ∧ (∀ i, i < m → D ≤ (ls i).length) ∧ SrcI W' p ps.length (fun i => ((out i : Nat) : Int)) ∧ (∀ i, i < m → ((out i : Nat) : Int) ∈ ls i) ∧ ProperI ps (fun i => (out i : Int)))
set_option maxRecDepth 100000 in
set_option maxHeartbeats 4000000 in
theorem Galvin_ok (n : Nat) (a la : Option Addr) (cap m lc : Nat) (ps : List (Int × Int)) (ls : Nat → List Int) (w : World) (hT : Tab w) (hG : Good n ps a w) (hm : m ≤ 1099511627776) (hll : ∀ i, (ls i).length ≤ 1000) (hL : LstI w la m ls) :
    Calls Tryd.prog 49 #[.int .i64 (n : Int), .slice a ps.length cap, .slice la m lc] w fun e w' => GalA (ofE n ps) n (dgTo (ofE n ps) 16) ps ls m w' e ∧ Below w.heap.size w w' := by
  have HO := Lib.hid (gopen_ok n a cap ps w hG.hl hG.hg hG.n1 hG.n2 hG.ok)
  have hlen := hG.hl
  have hn2 := hG.n2
  have HU := Lib.hid (und_ofE hG.ok)
  have HSM := Lib.hid (ofE_sm hG.n2 hG.ok)
  have HGB := Lib.hid (fun W (hW : Below w.heap.size w W) => hG.below hW)
  have HTB := Lib.hid (fun W (hW : Below w.heap.size w W) => hT.below hW (Nat.le_refl _))
  have HSE : Hid (∀ W, Below w.heap.size w W → Calls Tryd.prog 67 #[.slice la m lc, .int .i64 (ps.length : Int)] W fun e w' => SetsA ls m ps.length w' W.heap.size e ∧ Below W.heap.size W w') := fun W hW => sets_any la m ps.length lc ls W hm hll (hL.below hW (Nat.le_refl _))
  have HGV := Lib.hid (fun B s pl lc Ls W hT hG hg T hs hLs h64 hsz => galvin_any B n s a cap ps pl lc Ls W hT hG hg T hs hLs h64 hsz)
  obtain ⟨g, hg⟩ : ∃ g, Hid (g = ofE n ps) := ⟨_, rfl⟩
  rw [← hg.out] at HO HU HSM HGV ⊢
  obtain ⟨D, hD⟩ : ∃ D, Hid (D = dgTo g 16) := ⟨_, rfl⟩
  have HSI : Hid (∀ B W, Below w.heap.size w W → GraphAt W B n a cap ps.length g → Calls Tryd.prog 63 #[.pointer (some ⟨B, 0, none⟩)] W fun e w' => (∃ (s : Nat) (v : Value), e = .returned (.tuple #[.int .i64 (s : Int), v]) ∧ SidesP w' W.heap.size g n s v) ∧ Below W.heap.size W w') := fun B W hB hg =>
    callsIn_wide.1 (sides_in B n a cap ps.length g W (hT.below hB (Nat.le_refl _)) hg HSM.out HU.out hn2)
  have HDG : Hid (∀ B W, GraphAt W B n a cap ps.length g → Calls Tryd.prog 53 #[.pointer (some ⟨B, 0, none⟩)] W fun e w' => e = .returned (.int .i64 (D : Nat)) ∧ w' = W) := fun B W h => by rw [hD.out]; exact degree_any B n a cap ps.length g W h HSM.out
  have hd64 : D ≤ 64 := by rw [hD.out]; exact dgTo_le64 g 16
  rw [← hD.out] at HGV ⊢
  clear hT hG hL
  have hN : ∀ W (p : Option Addr) (m c : Nat), (binOp .neq 25 (.slice p m c) (.slice none 0 0)).run Tryd.prog W = .ok (.bool (!p.isNone)) W := fun W p m c => run_neq_slice_nil W 25 3 p m c Tryd.underlying25
  go_enter Tryd.func49, Tryd.ntmps49
  go_upto_region 4 with (go_at_call 52; refine HO.out.mono ?_; rintro e w1 ⟨B, rfl, hBl, hg1, hb1⟩; have HG1 := Lib.hid hg1; have HB1 := Lib.hid hb1; clear hBl hg1 hb1)
  have HC := Lib.hid (HSE.out w1 HB1.out)
  clear HSE HO
  go_upto_region 5 with (go_at_call 67; refine (HC.out).mono ?_; rintro e w2 ⟨hs2, hB2⟩; have HX2 := Lib.hid hB2; have HB2 := Lib.hid (HB1.out.trans (hB2.mono HB1.out.size)); clear hB2; rcases hs2 with ⟨rfl, hn⟩ | ⟨p2, c2, rfl, hl2, hr2⟩)
  · have HN := Lib.hid hn
    clear hn
    go_wp2
    refine bodyPost_ret (v := .tuple #[.slice none 0 0, .int .i64 70]) (by simp [results, Tryd.f49, go_sem]) rfl ?_
    exact ⟨.inl ⟨rfl, HN.out⟩, HB2.out⟩
  · have HLP := Lib.hid hl2
    have hml := hl2.2
    have HRU : Hid (RowU w2 p2 m (maskL ls m)) := hr2.congr fun i hi => by unfold maskL; rw [if_pos hi]
    have HL64 : Hid (∀ i, maskL ls m i < 18446744073709551616) := fun i => by
      unfold maskL
      by_cases h : i < m
      · rw [if_pos h]; exact mskTo_lt (hl2.1 i h)
      · rw [if_neg h]; decide
    have HMS : Hid (∀ i, i < m → size (maskL ls m i) = (ls i).length) := fun i hi => by
      unfold maskL; rw [if_pos hi]; exact mask_size (hl2.1 i hi)
    have HMB : Hid (∀ i, i < m → ∀ x, (maskL ls m i).testBit x = true → (x : Int) ∈ ls i) := fun i hi x hx => by
      unfold maskL at hx
      rw [if_pos hi] at hx
      exact (mask_of (hl2.1 i hi) x).1 hx
    have HG2 := Lib.hid (HG1.out.below HX2.out (Nat.le_refl _))
    have HC2 := Lib.hid (HSI.out B w2 HB2.out HG2.out)
    have HML := Lib.hid hml
    clear hl2 hr2 HC hml
    obtain ⟨mk, hmk⟩ : ∃ mk, Hid (mk = maskL ls m) := ⟨_, rfl⟩
    rw [← hmk.out] at HRU HL64 HMS HMB
    go_upto_region 8 with (go_at_call 63; refine HC2.out.mono ?_; rintro e w3 ⟨⟨s, v3, rfl, hsp⟩, hB3⟩; have HX3 := Lib.hid hB3; have HB3 := Lib.hid (HB2.out.trans (hB3.mono HB2.out.size)); have HSP := Lib.hid hsp; clear hB3 hsp)
    rcases HSP.out.slice with ⟨rfl, h⟩ | ⟨rfl, h, l, b5, o5, c5, h5, h6, rfl, h7⟩
    · have HR := Lib.hid h
      have HTW : Hid (TwoCol g s ∧ ∀ x, s.testBit x = true → x < n) := by
        rcases h with ⟨_, h1, _, h2⟩ | ⟨h, _⟩
        · exact ⟨h1, h2⟩
        · cases h
      have HSS : Hid (Sm s) := by
        refine Nat.lt_of_lt_of_le (Nat.lt_pow_two_of_testBit s fun i hi => ?_) (show 2 ^ 16 ≤ 1048576 by decide)
        cases hb : s.testBit i with
        | false => rfl
        | true => have := HTW.out.2 i hb; omega
      clear h HSP
      have HG3 := Lib.hid (HG2.out.below HX3.out (Nat.le_refl _))
      have HR3 := Lib.hid (HRU.out.below HX3.out (Nat.le_refl _))
      have HDC := Lib.hid (HDG.out B w3 HG3.out)
      have HGC := Lib.hid (fun hz => HGV.out B s p2 c2 mk w3 (HTB.out w3 HB3.out) (HGB.out w3 HB3.out) HG3.out HTW.out.1 HSS.out (by rw [← HML.out]; exact HR3.out) HL64.out hz)
      clear HC2 HSI HDG HGV
      go_upto_region 11 with (fail)
      go_loopw [43] (fun s43 wr => ∃ i : Nat, i ≤ m ∧ s43 = .int .i64 (i : Int) ∧ Hid (∀ j, j < i → D ≤ (ls j).length) ∧ Hid (wr = w3)) (fun s43 _ => m - (intOf s43).toNat)
      case atStart => exact ⟨0, by omega, rfl, (fun j hj => by omega), rfl⟩
      case round =>
        obtain ⟨i, hi, rfl, hD2, hwr⟩ := hrel
        rw [hwr.out]
        clear hwr
        by_cases him : i < m
        · have g1 : (i : Int) < (m : Int) := by omega
          obtain ⟨b, o, e2, hb, hc⟩ := HR3.out (by omega)
          have r0 : w3.cell? ⟨b, o + i, none⟩ = some (.int .u64 (mk i : Nat)) := hc i him
          have HON := Lib.hid (ones64 (mk i) w3 (HL64.out i))
          have hsz : Hid (size (mk i) = (ls i).length) := HMS.out i him
          rw [hsz.out] at HON
          have hli := hll i
          obtain ⟨z, hz⟩ : ∃ z, Hid (z = (ls i).length) := ⟨_, rfl⟩
          rw [← hz.out] at HON hli
          subst e2
          clear hc
          by_cases hlt : z < D
          · have g2 : (z : Int) < (D : Int) := by omega
            have HBAD : Hid (∃ i, i < m ∧ (ls i).length < D) := ⟨i, him, by rw [← hz.out]; exact hlt⟩
            go_wp2_with (first
              | (go_at_call 72; refine HON.out.mono ?_; rintro e w4 ⟨rfl, hw4⟩; subst hw4; try dsimp only)
              | (go_at_call 53; refine HDC.out.mono ?_; rintro e w5 ⟨rfl, hw5⟩; subst hw5; try dsimp only))
            refine bodyPost_ret (v := .tuple #[.slice none 0 0, .int .i64 1]) (by simp [results, Tryd.f49, go_sem]) rfl ?_
            exact ⟨.inr (.inr (.inl ⟨rfl, HLP.out, ⟨s, HR.out⟩, HBAD.out⟩)), HB3.out⟩
          · have g2 : ¬ (z : Int) < (D : Int) := by omega
            have HND : Hid (∀ j, j < i + 1 → D ≤ (ls j).length) := fun j hj => by
              by_cases e : j = i
              · subst e; rw [← hz.out]; omega
              · exact hD2.out j (by omega)
            go_wp2_with (first
              | (go_at_call 72; refine HON.out.mono ?_; rintro e w4 ⟨rfl, hw4⟩; subst hw4; try dsimp only)
              | (go_at_call 53; refine HDC.out.mono ?_; rintro e w5 ⟨rfl, hw5⟩; subst hw5; try dsimp only))
            exact ⟨⟨i + 1, by omega, int_eq (by omega), HND, True.intro⟩, by simp [intOf]; omega⟩
        · have g1 : ¬ (i : Int) < (m : Int) := by omega
          obtain rfl : i = m := by omega
          have HC4 := Lib.hid (HGC.out fun j hj => by rw [HMS.out j (by rw [HML.out]; exact hj)]; exact hD2.out j (by rw [HML.out]; exact hj))
          rw [← HML.out] at HC4
          go_wp2_with (go_at_call 73; refine HC4.out.mono ?_; rintro e w4 ⟨⟨ob, out, rfl, hs4, ho4, hp4⟩, hB4⟩; have HS4 := Lib.hid hs4; have HO4 := Lib.hid ho4; have HP4 := Lib.hid hp4; have HB4 := Lib.hid hB4; clear hs4 ho4 hp4 hB4)
          refine bodyPost_ret (v := .tuple #[.slice (some ⟨ob, 0, none⟩) i i, .int .i64 0]) (by simp [results, Tryd.f49, go_sem]) rfl ?_
          refine ⟨.inr (.inr (.inr ⟨_, out, by rw [HML.out], HLP.out, ⟨s, HR.out⟩, hD2.out, by rw [← HML.out]; exact HS4.out, fun j hj => HMB.out j hj _ (HO4.out j hj), HP4.out⟩)), HB3.out.trans (HB4.out.mono HB3.out.size)⟩
    · have HR := Lib.hid h
      clear h HSP h5 h6 h7
      go_wp2
      refine bodyPost_ret (v := .tuple #[.slice none 0 0, .int .i64 4]) (by simp [results, Tryd.f49, go_sem]) rfl ?_
      exact ⟨.inr (.inl ⟨rfl, HLP.out, HR.out⟩), HB3.out⟩
end Go.Proofs.YtpknnjcbcndbbaaDoor
