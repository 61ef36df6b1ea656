/- The program's iterator over the matches of a schedule: its contract. Who is at home, in plain text: a schedule's matches as a tournament, and its patterns. The triple system of three odd rows: walk. The triple system of three even rows and one more: walk. -/
import Derived.Test.YtocnhikohfkcaaaG309
import Derived.Test.YtocnhikohfkcaaaG308
import Derived.RangeFuncNested
import Derived.Laws.EntriesVeiled
import Derived.Sort.CutIn
set_option linter.unusedVariables false
set_option linter.unusedSimpArgs false
namespace Go.Proofs.Ytocnhikohfkcaaa
open Go.RowKit Go.Shelf
attribute [local go_sem] Oper.semAt_some

/-- a schedule as it lies in memory, all of it below K -/
def SchK (W : World) (K : Nat) (p : Option Addr) (k h : Nat) (m : Nat → Nat → Nat × Nat) : Prop :=
  K ≤ W.heap.size ∧ (k ≠ 0 → ∃ b o, p = some ⟨b, o, none⟩ ∧ b < K ∧ ∀ r, r < k → ∃ q c, W.cell? ⟨b, o + r, none⟩ = some (.slice q h c) ∧
    (h ≠ 0 → ∃ b' o', q = some ⟨b', o', none⟩ ∧ b' < K ∧ ∀ i, i < h → W.cell? ⟨b', o' + i * 2, none⟩ = some (.int .i64 ((m r i).1 : Int)) ∧ W.cell? ⟨b', o' + i * 2 + 1, none⟩ = some (.int .i64 ((m r i).2 : Int))))
def KeepsM (K : Nat) (A A' : World) : Prop := A.heap.size ≤ A'.heap.size ∧ ∀ j, j < K → A'.heap[j]? = A.heap[j]?
theorem KeepsM.refl {K : Nat} (W : World) : KeepsM K W W := ⟨Nat.le_refl _, fun _ _ => rfl⟩
theorem keepsM_t {K : Nat} {A B C : World} (h : KeepsM K A B) (k : KeepsM K B C) : KeepsM K A C := ⟨Nat.le_trans h.1 k.1, fun j hj => (k.2 j hj).trans (h.2 j hj)⟩
theorem KeepsM.of_below {K n : Nat} {A B : World} (h : Below n A B) (hK : K ≤ n) : KeepsM K A B := ⟨h.size, fun j hj => h.block j (by omega)⟩
theorem keepsM_b {K : Nat} {w : World} (h1 : K ≤ w.heap.size) (W : World) (l : Nat) (o o' : Obj) (hl : w.heap.size ≤ l) (_h : W.heap[l]? = some o) (_ : o.isCells = false) (_ : o.isWalk = false) : KeepsM K W (W.putObj l o') := by
  have hg := grownBy_putObj' W l o'
  exact ⟨hg.size, fun j hj => by
    by_cases e : j < W.heap.size
    · exact hg.block j e (fun e2 => by cases e2; omega)
    · exact absurd (Array.getElem?_eq_some_iff.1 _h).1 (by omega)⟩
/-- and one more block -/
def KeepsG (K Bg : Nat) (A A' : World) : Prop := KeepsM K A A' ∧ A'.heap[Bg]? = A.heap[Bg]?
theorem keepsG_t {K Bg : Nat} {A B C : World} (h : KeepsG K Bg A B) (k : KeepsG K Bg B C) : KeepsG K Bg A C := ⟨keepsM_t h.1 k.1, k.2.trans h.2⟩
theorem KeepsG.of_below {K Bg n : Nat} {A B : World} (h : Below n A B) (hK : K ≤ n) (hB : Bg < n) : KeepsG K Bg A B := ⟨KeepsM.of_below h hK, h.block Bg hB⟩
theorem keepsG_b {K Bg : Nat} {w : World} (h1 : K ≤ w.heap.size) (h2 : Bg < w.heap.size) (W : World) (l : Nat) (o o' : Obj) (hl : w.heap.size ≤ l) (_h : W.heap[l]? = some o) (e1 : o.isCells = false) (e2 : o.isWalk = false) : KeepsG K Bg W (W.putObj l o') :=
  ⟨keepsM_b h1 W l o o' hl _h e1 e2, by
    have hg := grownBy_putObj' W l o'
    have := (Array.getElem?_eq_some_iff.1 _h).1
    exact hg.block Bg (by omega) (fun e2 => by cases e2; omega)⟩
theorem SchK.keep {W W' : World} {K : Nat} {p : Option Addr} {k h : Nat} {m : Nat → Nat → Nat × Nat} (H : SchK W K p k h m) (hk : KeepsM K W W') : SchK W' K p k h m := by
  refine ⟨Nat.le_trans H.1 hk.1, fun h0 => ?_⟩
  obtain ⟨b, o, e, hb, hr⟩ := H.2 h0
  refine ⟨b, o, e, hb, fun r hr' => ?_⟩
  obtain ⟨q, c, h1, h2⟩ := hr r hr'
  refine ⟨q, c, (World.cell?_of_block (a := ⟨b, o + r, none⟩) (hk.2 b hb)).trans h1, fun hh => ?_⟩
  obtain ⟨b', o', e', hb', h3⟩ := h2 hh
  exact ⟨b', o', e', hb', fun i hi => ⟨(World.cell?_of_block (a := ⟨b', o' + i * 2, none⟩) (hk.2 b' hb')).trans (h3 i hi).1, (World.cell?_of_block (a := ⟨b', o' + i * 2 + 1, none⟩) (hk.2 b' hb')).trans (h3 i hi).2⟩⟩
/-- what the iterator reads -/
structure MtIn (Bg K : Nat) (p : Option Addr) (c k h : Nat) (m : Nat → Nat → Nat × Nat) (W : World) : Prop where
  sch : SchK W K p k h m
  box : W.cell? ⟨Bg, 0, none⟩ = some (.slice p k c)
  lt : Bg < W.heap.size
theorem MtIn.keep {Bg K : Nat} {p : Option Addr} {c k h : Nat} {m : Nat → Nat → Nat × Nat} {W W' : World} (H : MtIn Bg K p c k h m W) (hk : KeepsG K Bg W W') : MtIn Bg K p c k h m W' :=
  ⟨H.sch.keep hk.1, (World.cell?_of_block (a := ⟨Bg, 0, none⟩) hk.2).trans H.box, Nat.lt_of_lt_of_le H.lt hk.1.1⟩
abbrev MtX (k h : Nat) : Type := {q : Nat × Nat // q.1 < k ∧ q.2 < h}
def mtE (m : Nat → Nat → Nat × Nat) {k h : Nat} (x : MtX k h) : Array Value := #[.int .i64 (x.1.1 : Int), .agg #[.int .i64 ((m x.1.1 x.1.2).1 : Int), .int .i64 ((m x.1.1 x.1.2).2 : Int)]]
/-- rounds and places in order -/
def allQ (k h : Nat) : List (Nat × Nat) := (List.range k).flatMap fun r => (List.range h).map fun i => (r, i)
theorem allQ_succ (k h : Nat) : allQ (k + 1) h = allQ k h ++ (List.range h).map fun i => (k, i) := by unfold allQ; rw [List.range_succ, List.flatMap_append]; simp
/-- a beginning of all matches -/
def VP {k h : Nat} (pre : List (MtX k h)) : Prop := ∃ s, allQ k h = pre.map (·.1) ++ s
theorem allQ_nodup (k h : Nat) : (allQ k h).Nodup := by
  unfold allQ List.Nodup
  rw [List.pairwise_flatMap]
  refine ⟨fun r hr => ?_, ?_⟩
  · rw [List.pairwise_map]
    exact List.Pairwise.imp (fun hab e => hab (by simpa using e)) List.nodup_range
  · refine List.Pairwise.imp ?_ List.nodup_range
    intro a b hab x hx y hy e
    obtain ⟨i, _, rfl⟩ := List.mem_map.1 hx
    obtain ⟨j, _, rfl⟩ := List.mem_map.1 hy
    exact hab (by simpa using congrArg Prod.fst e)
theorem VP.init {k h : Nat} {pre : List (MtX k h)} {x : MtX k h} (H : VP (pre ++ [x])) : VP pre := by
  obtain ⟨s, e⟩ := H
  exact ⟨x.1 :: s, by rw [e]; simp⟩
theorem VP.fresh {k h : Nat} {pre : List (MtX k h)} {x : MtX k h} (H : VP (pre ++ [x])) : x.1 ∉ pre.map (·.1) := fun hm => by
  obtain ⟨s, e⟩ := H
  have hn := allQ_nodup k h
  rw [e, List.map_append, List.append_assoc] at hn
  exact (List.nodup_append.1 hn).2.2 _ hm _ (by simp) rfl
theorem allQ_pre {k h r i : Nat} (hr : r < k) (hi : i ≤ h) : ∃ s, allQ k h = (allQ r h ++ (List.range i).map fun i => (r, i)) ++ s := by
  have h1 : ∀ d, ∃ s, allQ (r + 1 + d) h = allQ (r + 1) h ++ s := by
    intro d
    induction d with
    | zero => exact ⟨[], by simp⟩
    | succ d ih =>
      obtain ⟨s, e⟩ := ih
      exact ⟨s ++ (List.range h).map fun i => (r + 1 + d, i), by rw [show r + 1 + (d + 1) = r + 1 + d + 1 from rfl, allQ_succ, e, List.append_assoc]⟩
  obtain ⟨s, e⟩ := h1 (k - (r + 1))
  rw [show r + 1 + (k - (r + 1)) = k by omega] at e
  refine ⟨((List.range h).drop i).map (fun i => (r, i)) ++ s, ?_⟩
  rw [e, allQ_succ]
  simp only [List.append_assoc]
  congr 1
  rw [← List.append_assoc]
  congr 1
  rw [← List.map_append]
  congr 1
  rw [show List.range i = (List.range h).take i by rw [List.take_range, Nat.min_eq_left hi], List.take_append_drop]
set_option maxRecDepth 100000 in
set_option maxHeartbeats 4000000 in
theorem mt_in (N : Nat) (hN : 1 ≤ N) (l Bg K c k h : Nat) (p : Option Addr) (m : Nat → Nat → Nat × Nat) (hk : k ≤ 15) (hh : h ≤ 8) (J Jx : List (MtX k h) → World → Prop)
    (hOwn : ∀ pre (A A' : World), J pre A → Below A.heap.size A A' → J pre A')
    (hY : ∀ pre x W, J pre W → pre.length < 200 → YieldAt Fence.wide (N - 1) Try.prog l (mtE m x) W fun e W' =>
      (e = .returned (.bool true) ∧ J (pre ++ [x]) W' ∧ KeepsG K Bg W W') ∨ (e = .returned (.bool false) ∧ Jx (pre ++ [x]) W'))
    (W : World) (hI : MtIn Bg K p c k h m W) (h0 : J [] W) :
    CallsIn Fence.wide N Try.prog 63 #[.func (.yield l) #[] #[], .pointer (some ⟨Bg, 0, none⟩)] W fun e W' => (∃ v, e = .returned v) ∧
      ((∃ ys : List (MtX k h), ys.map (·.1) = allQ k h ∧ J ys W') ∨ (∃ pre, VP pre ∧ Jx pre W')) := by
  have HOWN := Lib.hid hOwn
  clear hOwn
  refine callsIn_of_wp Try.func63 rfl trivial ?_ rfl
  simp only [Try.ntmps63, List.size_toArray, List.length_cons, List.length_nil, Nat.reduceAdd, Nat.reduceSub, Array.replicate_succ, Array.replicate_zero, List.push_toArray, List.append_toArray, List.nil_append, List.cons_append]
  have r0 := hI.box
  gi_wp2
  gi_loopw [9] (fun s9 wr => ∃ (r : Nat) (pre : List (MtX k h)), r ≤ k ∧ s9 = .int .i64 (r : Int) ∧ J pre wr ∧ Hid (pre.map (·.1) = allQ r h) ∧ pre.length ≤ r * 8 ∧ Hid (MtIn Bg K p c k h m wr)) (fun s9 _ => k - (intOf s9).toNat)
  case atStart => exact ⟨0, [], by omega, rfl, h0, rfl, Nat.zero_le _, hI⟩
  case round =>
    clear r0 hI h0
    obtain ⟨r, pre, hr, rfl, hJ, hS, hlen, hIn⟩ := hrel
    by_cases hrk : r < k
    · have g1 : (r : Int) < (k : Int) := by omega
      have g0 : (0 : Int) ≤ (r : Int) := by omega
      obtain ⟨b, o, rfl, hb, hrows⟩ := hIn.out.sch.2 (by omega)
      obtain ⟨q, cq, k1, _⟩ := hrows r hrk
      clear hrows
      obtain ⟨wo, hwo⟩ : ∃ wo, Hid (wo = wr) := ⟨_, rfl⟩
      rw [← hwo.out] at hJ hIn k1 ⊢
      clear hwo
      have HQ0 : Hid (∀ W, MtIn Bg K (some ⟨b, o, none⟩) c k h m W → W.cell? ⟨b, o + r, none⟩ = some (.slice q h cq) → h ≠ 0 → ∃ b' o', q = some ⟨b', o', none⟩ ∧ b' < K ∧ ∀ i, i < h → W.cell? ⟨b', o' + i * 2, none⟩ = some (.int .i64 ((m r i).1 : Int)) ∧ W.cell? ⟨b', o' + i * 2 + 1, none⟩ = some (.int .i64 ((m r i).2 : Int))) := fun W hW hc hh0 => by
        obtain ⟨b1, o1, e1, _, hr1⟩ := hW.sch.2 (by omega)
        cases e1
        obtain ⟨q2, c2, h1, h2⟩ := hr1 r hrk
        rw [h1] at hc
        cases hc
        exact h2 hh0
      have HBK : Hid (∀ W W', KeepsM K W W' → W.cell? ⟨b, o + r, none⟩ = some (.slice q h cq) → W'.cell? ⟨b, o + r, none⟩ = some (.slice q h cq)) := fun W W' hkp hc => (World.cell?_of_block (a := ⟨b, o + r, none⟩) (hkp.2 b hb)).trans hc
      have HK1 := Lib.hid k1
      gi_wp2
      gi_loopw [16] (fun s16 wq => ∃ (i : Nat) (pre : List (MtX k h)), i ≤ h ∧ s16 = .int .i64 (i : Int) ∧ J pre wq ∧ Hid (pre.map (·.1) = allQ r h ++ (List.range i).map fun i => (r, i)) ∧ pre.length ≤ r * 8 + i ∧ Hid (MtIn Bg K (some ⟨b, o, none⟩) c k h m wq) ∧ Hid (wq.cell? ⟨b, o + r, none⟩ = some (.slice q h cq))) (fun s16 _ => h - (intOf s16).toNat)
      case atStart => exact ⟨0, pre, by omega, rfl, hJ, by unfold Hid; rw [hS.out]; simp, by omega, hIn, HK1⟩
      case round =>
        clear hJ hS hIn hlen k1 HK1
        obtain ⟨i, pre, hi, rfl, hJ, hS, hlen, hIn, HK1⟩ := hrel
        by_cases hih : i < h
        · have g2 : (i : Int) < (h : Int) := by omega
          have g3 : (0 : Int) ≤ (i : Int) := by omega
          obtain ⟨b', o', rfl, hb', hcs⟩ := HQ0.out wr hIn.out HK1.out (by omega)
          have c1 := (hcs i hih).1
          have c2 := (hcs i hih).2
          have HJA : Hid (J pre (wr.alloc (.cells #[.int .i64 ((m r i).1 : Int), .int .i64 ((m r i).2 : Int)] 58))) := HOWN.out pre wr _ hJ ((Below.refl _ _).alloc (Nat.le_refl _) _)
          have HIA : Hid (MtIn Bg K (some ⟨b, o, none⟩) c k h m (wr.alloc (.cells #[.int .i64 ((m r i).1 : Int), .int .i64 ((m r i).2 : Int)] 58))) := hIn.out.keep (KeepsG.of_below ((Below.refl wr.heap.size wr).alloc (Nat.le_refl _) _) hIn.out.sch.1 hIn.out.lt)
          have HKA := Lib.hid (HBK.out wr (wr.alloc (.cells #[.int .i64 ((m r i).1 : Int), .int .i64 ((m r i).2 : Int)] 58)) (KeepsM.of_below ((Below.refl wr.heap.size wr).alloc (Nat.le_refl _) _) hIn.out.sch.1) HK1.out)
          obtain ⟨fn, tmps, assign, body, hyl, hR⟩ := hY pre ⟨(r, i), hrk, hih⟩ _ HJA.out (by omega)
          have HR := Lib.hid hR
          have hy2 : (Instr.yield l #[.int .i64 (r : Int), .agg #[.int .i64 ((m r i).1 : Int), .int .i64 ((m r i).2 : Int)]]).run Try.prog (wr.alloc (.cells #[.int .i64 ((m r i).1 : Int), .int .i64 ((m r i).2 : Int)] 58)) = .ok (.round l fn tmps assign body) (wr.alloc (.cells #[.int .i64 ((m r i).1 : Int), .int .i64 ((m r i).2 : Int)] 58)) := hyl
          have HSN : Hid ((pre ++ [(⟨(r, i), hrk, hih⟩ : MtX k h)]).map (·.1) = allQ r h ++ (List.range (i + 1)).map fun i => (r, i)) := by
            unfold Hid; rw [List.map_append, hS.out, List.range_succ, List.map_append, List.append_assoc]; rfl
          have HVP : Hid (VP (pre ++ [(⟨(r, i), hrk, hih⟩ : MtX k h)])) := by
            obtain ⟨s, e⟩ := allQ_pre (h := h) hrk (show i + 1 ≤ h by omega)
            exact ⟨s, by rw [e, HSN.out]⟩
          have hlen2 : (pre ++ [(⟨(r, i), hrk, hih⟩ : MtX k h)]).length ≤ r * 8 + (i + 1) := by simp; omega
          generalize (⟨(r, i), hrk, hih⟩ : MtX k h) = xx at *
          clear hyl hR hS hJ hIn hcs HK1
          generalize (m r i).1 = u at *
          generalize (m r i).2 = v at *
          gi_wp2
          refine HR.out.mono ?_
          rintro e W3 (⟨rfl, hJ3, hk3⟩ | ⟨rfl, hJx3⟩)
          · have hI3 := Lib.hid (HIA.out.keep hk3)
            have hK3 := Lib.hid (HBK.out _ _ hk3.1 HKA.out)
            clear c1 c2 hy2
            gi_wp2
            exact ⟨⟨i + 1, pre ++ [xx], by omega, int_eq (by omega), hJ3, HSN, hlen2, hI3, hK3⟩, by simp [intOf]; omega⟩
          · clear c1 c2 hy2
            gi_wp2
            refine bodyPost_ret (results_none rfl _ _ _) rfl ?_
            exact ⟨⟨_, rfl⟩, .inr ⟨_, HVP.out, hJx3⟩⟩
        · have g2 : ¬ (i : Int) < (h : Int) := by omega
          obtain rfl : h = i := by omega
          have HSN : Hid (pre.map (·.1) = allQ (r + 1) h) := by rw [allQ_succ]; exact hS
          gi_wp2
          exact ⟨⟨r + 1, pre, by omega, int_eq (by omega), hJ, HSN, by omega, hIn⟩, by simp [intOf]; omega⟩
    · have g1 : ¬ (r : Int) < (k : Int) := by omega
      obtain rfl : k = r := by omega
      gi_wp2
      go_end0
      exact ⟨⟨_, rfl⟩, .inl ⟨pre, hS.out, hJ⟩⟩
theorem matchesf_any (p : Option Addr) (k c : Nat) (w : World) :
    Calls Try.prog 49 #[.slice p k c] w fun e w' => e = .returned (.func (.func 63) #[] #[.pointer (some ⟨w.heap.size, 0, none⟩)]) ∧ w' = w.alloc (.cells #[.slice p k c] 22) := by
  go_enter Try.func49, Try.ntmps49
  go_wp2
  go_ret
  exact ⟨by simp, rfl⟩
theorem mt_stops (N : Nat) (hN : 1 ≤ N) (Bg K c k h : Nat) (p : Option Addr) (m : Nat → Nat → Nat × Nat) (hk : k ≤ 15) (hh : h ≤ 8) (w : World) (hI : MtIn Bg K p c k h m w) :
    SeqStopsK Fence.wide N Try.prog 63 #[.pointer (some ⟨Bg, 0, none⟩)] (mtE m (k := k) (h := h)) (KeepsG K Bg) (fun ys => ys.map (·.1) = allQ k h) VP 200 w := fun l J Jx W hW hJ _ hY h0 =>
  mt_in N hN l Bg K c k h p m hk hh J Jx (fun pre A A' h hB => hJ pre A A' none h ⟨hB.os, hB.tape, hB.output, hB.size, fun k hk _ => hB.block k hk⟩ (fun r e => by cases e)) hY W (hI.keep (KeepsG.of_below hW hI.sch.1 hI.lt)) h0
/-- the law of a loop over the matches whose match is boxed -/
theorem rf_box2 {k h : Nat} {m : Nat → Nat → Nat × Nat} {n : Nat} {g : Operand} {t1 t2 d1 d2 : Nat} {i1 i2 : Nat} {ty1 ty2 ty3 : TypeId} {p1 p2 p3 : String} {aft1 : Array Edge} {e1 e2 : Edge} {body : Code} {Q : Exit → Act → World → Prop} {a : Act} {w : World}
    (h1 : 1 ≤ n) {gf : Nat} {lb : Array Value} (hg : a.eval g = .func (.func gf) #[] lb) (eg : ∀ args w, (callFunc gf args).run Try.prog w = .ok (.enter gf args) w)
    {K Bg : Nat} {S Sp : List (MtX k h) → Prop} {N : Nat} (hseq : SeqStopsK Fence.wide (n - 1) Try.prog gf lb (mtE m (k := k) (h := h)) (KeepsG K Bg) S Sp N w) (hKw : K ≤ w.heap.size) (hBw : Bg < w.heap.size)
    (ht1 : t1 < a.tmps.size) (ht2 : t2 < a.tmps.size) (hd2 : d2 < a.tmps.size) (ht12 : t1 ≠ t2) (htd : t2 ≠ d1) (htd2 : t2 ≠ d2) (I : List (MtX k h) → World → Prop) (Ix : Code → List (MtX k h) → World → Prop) (hI : OwnFrom w.heap.size I) (hIx : ∀ c, OwnFrom w.heap.size (Ix c)) (hIs : ∀ pre W, I pre W → w.heap.size ≤ W.heap.size) (h0 : I [] w)
    (hbody : ∀ (l : Nat) (pre : List (MtX k h)) (x : MtX k h) (W : World) (B8 : Nat), I pre W → w.heap.size ≤ B8 → BoxN W B8 58 #[.int .i64 ((m x.1.1 x.1.2).1 : Int), .int .i64 ((m x.1.1 x.1.2).2 : Int)] → pre.length < N →
      body.wpIn (Fence.wide.inRound l) (n - 1 - 1) Try.prog (ownPostG w.heap.size (KeepsG K Bg) I Ix (pre ++ [x]) W) { tmps := (((a.tmps.setIfInBounds t1 (.int .i64 (x.1.1 : Int))).setIfInBounds t2 (.agg #[.int .i64 ((m x.1.1 x.1.2).1 : Int), .int .i64 ((m x.1.1 x.1.2).2 : Int)])).setIfInBounds d1 (.int .i64 (x.1.1 : Int))).setIfInBounds d2 (.pointer (some ⟨B8, 0, none⟩)), defers := [] } W)
    (hdone : ∀ (D : Nat) (xs : List (MtX k h)) (W : World), w.heap.size ≤ D → S xs → I xs W → W.heap[D]? = some (.deferred (some [])) → Q .normal { a with defers := { target := .collected D, args := #[] } :: a.defers } W)
    (hstop : ∀ (D : Nat) (c : Code) (pre : List (MtX k h)) (W : World), w.heap.size ≤ D → Sp pre → Ix c pre W → W.heap[D]? = some (.deferred (some [])) → c.wpIn Fence.wide n Try.prog Q { a with defers := { target := .collected D, args := #[] } :: a.defers } W) :
    (Code.rangeFunc g #[t1, t2] ((Code.region i1 #[{ dst := some d1, op := Op.assign (Operand.tmp t1), type := ty1, pos := p1, after := aft1, guard := none }] false).seq (Code.region i2 #[{ dst := some d2, op := Op.alloc 58, type := ty2, pos := p2, after := #[], guard := none }, { dst := none, op := Op.store 58 (Operand.tmp d2) (Operand.tmp t2), type := ty3, pos := p3, after := #[e1, e2], guard := none }] false)) body).wpIn Fence.wide n Try.prog Q a w := by
  refine wpIn_rangeFunc_ownH rfl h1 hg trivial eg hseq (fun h k => keepsG_t h k) (keepsG_b hKw hBw) (Below.refl _ _) (fun _ => rfl) I Ix hI hIx h0
    (fun x a' W => ∃ B8, a' = { tmps := (((a.tmps.setIfInBounds t1 (.int .i64 (x.1.1 : Int))).setIfInBounds t2 (.agg #[.int .i64 ((m x.1.1 x.1.2).1 : Int), .int .i64 ((m x.1.1 x.1.2).2 : Int)])).setIfInBounds d1 (.int .i64 (x.1.1 : Int))).setIfInBounds d2 (.pointer (some ⟨B8, 0, none⟩)), defers := [] } ∧ w.heap.size ≤ B8 ∧ BoxN W B8 58 #[.int .i64 ((m x.1.1 x.1.2).1 : Int), .int .i64 ((m x.1.1 x.1.2).2 : Int)])
    (fun x a' _ A C row hs hg hr => ?_) ?_ (fun l pre x a' W _ _ hi ha hl => ?_) hdone hstop
  · obtain ⟨B8, e, hb, hx⟩ := hs
    refine ⟨B8, e, hb, hx.kept hg (fun e2 => ?_)⟩
    obtain ⟨_, o, ho, hc⟩ := hr B8 e2.symm
    rw [show A.heap[B8]? = _ from hx] at ho
    cases ho
    cases hc
  · intro l pre x W KK hi hK
    have hsz := hIs pre W hi
    obtain ⟨u, hu⟩ : ∃ u, (m x.1.1 x.1.2).1 = u := ⟨_, rfl⟩
    obtain ⟨v, hv⟩ : ∃ v, (m x.1.1 x.1.2).2 = v := ⟨_, rfl⟩
    have e : (Array.zip #[t1, t2] (mtE m x)).foldl (fun t (p, v) => t.setIfInBounds p v) a.tmps = (a.tmps.setIfInBounds t1 (.int .i64 (x.1.1 : Int))).setIfInBounds t2 (.agg #[.int .i64 (u : Int), .int .i64 (v : Int)]) := by unfold mtE; rw [hu, hv]; simp
    rw [e]
    rw [hu, hv] at hK
    have hv1 : ((a.tmps.setIfInBounds t1 (Value.int .i64 (x.1.1 : Int))).setIfInBounds t2 (.agg #[.int .i64 (u : Int), .int .i64 (v : Int)])).getD t1 undef = .int .i64 (x.1.1 : Int) := by
      rw [Array.getD_eq_getD_getElem?, Array.getElem?_setIfInBounds_ne ht12.symm, Array.getElem?_setIfInBounds_self_of_lt ht1]; rfl
    have hv2 : ∀ q : Value, ((((a.tmps.setIfInBounds t1 (Value.int .i64 (x.1.1 : Int))).setIfInBounds t2 (.agg #[.int .i64 (u : Int), .int .i64 (v : Int)])).setIfInBounds d1 (.int .i64 (x.1.1 : Int))).setIfInBounds d2 q).getD t2 undef = .agg #[.int .i64 (u : Int), .int .i64 (v : Int)] := fun q => by
      rw [Array.getD_eq_getD_getElem?, Array.getElem?_setIfInBounds_ne htd2.symm, Array.getElem?_setIfInBounds_ne htd.symm, Array.getElem?_setIfInBounds_self_of_lt (by simpa using ht2)]; rfl
    have hv3 : ∀ q : Value, ((((a.tmps.setIfInBounds t1 (Value.int .i64 (x.1.1 : Int))).setIfInBounds t2 (.agg #[.int .i64 (u : Int), .int .i64 (v : Int)])).setIfInBounds d1 (.int .i64 (x.1.1 : Int))).setIfInBounds d2 q).getD d2 undef = q := fun q => by
      rw [Array.getD_eq_getD_getElem?, Array.getElem?_setIfInBounds_self_of_lt (by simpa using hd2)]; rfl
    have hKA := Lib.hid (hK _ (W.alloc (.cells #[.int .i64 (u : Int), .int .i64 (v : Int)] 58)) ⟨by simp, fun kk o _ ho _ => (World.grownBy_alloc W _ none).block kk (Array.getElem?_eq_some_iff.1 ho).1 (by simp) |>.trans ho⟩ (KeepsG.of_below ((Below.refl W.heap.size W).alloc (Nat.le_refl _) _) (by omega) (by omega)) (hI.alloc _ hi) ⟨W.heap.size, rfl, by omega, BoxN.new rfl⟩)
    clear hK
    gi_wp2
    exact hKA.out
  · obtain ⟨B8, rfl, hb, hx⟩ := ha
    exact hbody l pre x W B8 hi hb hx hl
end Go.Proofs.Ytocnhikohfkcaaa
namespace Go.Proofs.Ytocnhikohfkcaaa
open Go.RowKit

/-- all matches, round by round -/
def msL (n : Nat) (m : Nat → Nat → Nat × Nat) : List (Nat × Nat) := (List.range (n - 1)).flatMap fun r => (List.range (n / 2)).map (m r)
theorem mem_ms {n : Nat} {m : Nat → Nat → Nat × Nat} {p : Nat × Nat} : p ∈ msL n m ↔ ∃ r k, r < n - 1 ∧ k < n / 2 ∧ m r k = p := by
  unfold msL
  rw [List.mem_flatMap]
  constructor
  · rintro ⟨r, hr, hp⟩
    obtain ⟨k, hk, e⟩ := List.mem_map.1 hp
    exact ⟨r, k, List.mem_range.1 hr, List.mem_range.1 hk, e⟩
  · rintro ⟨r, k, hr, hk, e⟩
    exact ⟨r, List.mem_range.2 hr, List.mem_map.2 ⟨k, List.mem_range.2 hk, e⟩⟩
theorem ms_nodup {n : Nat} {m : Nat → Nat → Nat × Nat} (h : SchP n m) : (msL n m).Nodup := by
  unfold msL List.Nodup
  rw [List.pairwise_flatMap]
  refine ⟨fun r hr => ?_, ?_⟩
  · rw [List.pairwise_map]
    refine List.Pairwise.imp_of_mem ?_ List.nodup_range
    intro a b ha hb hab e
    exact hab (h.met r a r b (List.mem_range.1 hr) (List.mem_range.1 ha) (List.mem_range.1 hr) (List.mem_range.1 hb) (by rw [e])).2
  · refine List.Pairwise.imp_of_mem ?_ List.nodup_range
    intro a b ha hb hab x hx y hy e
    obtain ⟨k, hk, rfl⟩ := List.mem_map.1 hx
    obtain ⟨k', hk', rfl⟩ := List.mem_map.1 hy
    exact hab (h.met a k b k' (List.mem_range.1 ha) (List.mem_range.1 hk) (List.mem_range.1 hb) (List.mem_range.1 hk') (by rw [e])).1
/-- i is at home against j -/
def tabM (n : Nat) (m : Nat → Nat → Nat × Nat) (i j : Nat) : Bool := decide ((i, j) ∈ msL n m)
theorem tabM_iff {n : Nat} {m : Nat → Nat → Nat × Nat} {i j : Nat} : tabM n m i j = true ↔ (i, j) ∈ msL n m := by unfold tabM; simp
theorem home_cnt {n : Nat} {m : Nat → Nat → Nat × Nat} (h : SchP n m) (i : Nat) : cnt (tabM n m i) n = ((msL n m).filter fun p => decide (p.1 = i)).length := by
  rw [cnt_filter]
  have hB : (((msL n m).filter fun p => decide (p.1 = i)).map (·.2)).Nodup := by
    unfold List.Nodup
    rw [List.pairwise_map]
    refine List.Pairwise.imp_of_mem ?_ ((ms_nodup h).sublist List.filter_sublist)
    intro a b ha hb hab e
    rw [List.mem_filter] at ha hb
    have h1 : a.1 = i := by simpa using ha.2
    have h2 : b.1 = i := by simpa using hb.2
    exact hab (Prod.ext (h1.trans h2.symm) e)
  refine Nat.le_antisymm ?_ ?_
  · rw [show ((msL n m).filter fun p => decide (p.1 = i)).length = (((msL n m).filter fun p => decide (p.1 = i)).map (·.2)).length by rw [List.length_map]]
    refine nodup_sub _ _ (List.nodup_range.sublist List.filter_sublist) fun j hj => ?_
    rw [List.mem_filter] at hj
    exact List.mem_map.2 ⟨(i, j), List.mem_filter.2 ⟨tabM_iff.1 hj.2, by simp⟩, rfl⟩
  · rw [show ((msL n m).filter fun p => decide (p.1 = i)).length = (((msL n m).filter fun p => decide (p.1 = i)).map (·.2)).length by rw [List.length_map]]
    refine nodup_sub _ _ hB fun j hj => ?_
    obtain ⟨p, hp, rfl⟩ := List.mem_map.1 hj
    rw [List.mem_filter] at hp
    have h1 : p.1 = i := by simpa using hp.2
    obtain ⟨r, k, hr, hk, e⟩ := mem_ms.1 hp.1
    rw [List.mem_filter]
    refine ⟨List.mem_range.2 ?_, tabM_iff.2 ?_⟩
    · rw [← e]; exact (h.rng r k hr hk).2.1
    · rw [← h1]; exact hp.1
/-- every two boats meet -/
def AllP (n : Nat) (m : Nat → Nat → Nat × Nat) : Prop := ∀ i j, i < j → j < n → ∃ r k, r < n - 1 ∧ k < n / 2 ∧ unord (m r k) = (i, j)
theorem AllP.turn {n : Nat} {m m' : Nat → Nat → Nat × Nat} (h : AllP n m) (t : TurnP m m') : AllP n m' := fun i j hi hj => by
  obtain ⟨r, k, hr, hk, e⟩ := h i j hi hj
  exact ⟨r, k, hr, hk, by rw [t.un, e]⟩
theorem unord_cases {p : Nat × Nat} {i j : Nat} (h : unord p = (i, j)) : p = (i, j) ∨ p = (j, i) := by
  obtain ⟨a, b⟩ := p
  unfold unord at h
  simp only [Prod.mk.injEq] at h ⊢
  omega
theorem tabM_tour {n : Nat} {m : Nat → Nat → Nat × Nat} (h : SchP n m) (ha : AllP n m) : TourP n (tabM n m) where
  irr := fun i hi => by
    cases e : tabM n m i i with
    | false => rfl
    | true =>
      obtain ⟨r, k, hr, hk, e2⟩ := mem_ms.1 (tabM_iff.1 e)
      have := (h.rng r k hr hk).2.2
      rw [e2] at this
      exact absurd rfl this
  tot := fun i j hi hj hne => by
    have key : ∀ i j, i < n → j < n → i ≠ j → tabM n m i j = true → tabM n m j i = true → False := fun i j hi hj hne h1 h2 => by
      obtain ⟨r, k, hr, hk, e1⟩ := mem_ms.1 (tabM_iff.1 h1)
      obtain ⟨r', k', hr', hk', e2⟩ := mem_ms.1 (tabM_iff.1 h2)
      have := h.met r k r' k' hr hk hr' hk' (by rw [e1, e2]; exact unord_turn (j, i))
      rw [this.1, this.2, e2, Prod.mk.injEq] at e1
      exact hne e1.1.symm
    have some : ∀ i j, i < j → j < n → tabM n m i j = true ∨ tabM n m j i = true := fun i j hij hj => by
      obtain ⟨r, k, hr, hk, e⟩ := ha i j hij hj
      rcases unord_cases e with e | e
      · exact .inl (tabM_iff.2 (mem_ms.2 ⟨r, k, hr, hk, e⟩))
      · exact .inr (tabM_iff.2 (mem_ms.2 ⟨r, k, hr, hk, e⟩))
    have hs : tabM n m i j = true ∨ tabM n m j i = true := by
      rcases Nat.lt_or_gt_of_ne hne with hlt | hlt
      · exact some i j hlt hj
      · exact (some j i hlt hi).symm
    cases e1 : tabM n m i j with
    | false => rcases hs with h1 | h1
               · rw [e1] at h1; cases h1
               · rw [h1]; rfl
    | true => cases e2 : tabM n m j i with
      | false => rfl
      | true => exact absurd (key i j hi hj hne e1 e2) (fun h => h)
def allB2 (n : Nat) : Bool := allN n fun j => allN j fun i => (List.range (n - 1)).any fun r => (List.range (n / 2)).any fun k => decide (min (cir n r k).1 (cir n r k).2 = i) && decide (max (cir n r k).1 (cir n r k).2 = j)
theorem allB2_all {n : Nat} (h : allB2 n = true) : AllP n (cir n) := fun i j hij hj => by
  have := (allN_iff.1 ((allN_iff.1 h) j hj)) i hij
  simp only [List.any_eq_true, List.mem_range, Bool.and_eq_true, decide_eq_true_eq] at this
  obtain ⟨r, hr, k, hk, h1, h2⟩ := this
  exact ⟨r, k, hr, hk, by unfold unord; rw [h1, h2]⟩
set_option maxRecDepth 100000 in
theorem cir_all {n : Nat} (h : n = 2 ∨ n = 4 ∨ n = 6 ∨ n = 8 ∨ n = 10 ∨ n = 12) : AllP n (cir n) := by
  rcases h with e | e | e | e | e | e
  · subst e; exact allB2_all (by decide +kernel)
  · subst e; exact allB2_all (by decide +kernel)
  · subst e; exact allB2_all (by decide +kernel)
  · subst e; exact allB2_all (by decide +kernel)
  · subst e; exact allB2_all (by decide +kernel)
  · subst e; exact allB2_all (by decide +kernel)
/-- a boat's pattern: 'H' and 'A' -/
def patB (ms : List (Nat × Nat)) (i : Nat) : List Nat := ms.filterMap fun p => if p.1 = i then some 72 else if p.2 = i then some 65 else none
theorem patB_snoc (ms : List (Nat × Nat)) (p : Nat × Nat) (i : Nat) : patB (ms ++ [p]) i = patB ms i ++ (if p.1 = i then [72] else if p.2 = i then [65] else []) := by
  unfold patB
  rw [List.filterMap_append]
  congr 1
  by_cases h1 : p.1 = i
  · simp [h1]
  · by_cases h2 : p.2 = i
    · simp [h1, h2]
    · simp [h1, h2]
theorem patB_H (ms : List (Nat × Nat)) (i : Nat) : ((patB ms i).filter fun b => decide (b = 72)).length = (ms.filter fun p => decide (p.1 = i)).length := by
  induction ms with
  | nil => rfl
  | cons p ms ih =>
    unfold patB at *
    rw [List.filterMap_cons, List.filter_cons]
    by_cases h1 : p.1 = i
    · simp [h1, ih]
    · by_cases h2 : p.2 = i
      · simp [h1, h2, ih]
      · simp [h1, h2, ih]
theorem patB_len (ms : List (Nat × Nat)) (i : Nat) : (patB ms i).length ≤ ms.length := List.length_filterMap_le _ _
theorem ms_len (n : Nat) (m : Nat → Nat → Nat × Nat) : (msL n m).length = (n - 1) * (n / 2) := by
  unfold msL
  rw [List.length_flatMap]
  have : ∀ k, ((List.range k).map fun r => ((List.range (n / 2)).map (m r)).length).sum = k * (n / 2) := by
    intro k
    induction k with
    | zero => simp
    | succ k ih => rw [List.range_succ, List.map_append, List.sum_append, ih, Nat.succ_mul]; simp
  exact this (n - 1)
end Go.Proofs.Ytocnhikohfkcaaa
namespace Go.Proofs.Ytocnhikohfkcaaa
open Go.RowKit Go.Shelf

/-- triples as they lie in memory -/
def t3 (t : N3) : List Value := [.int .i64 (t.1 : Int), .int .i64 (t.2.1 : Int), .int .i64 (t.2.2 : Int)]
def tcells (l : List N3) : List Value := l.flatMap t3
theorem tcells_app (a b : List N3) : tcells (a ++ b) = tcells a ++ tcells b := by unfold tcells; rw [List.flatMap_append]
theorem tcells_one (t : N3) : tcells [t] = t3 t := by unfold tcells; simp
def TRow3 (W : World) (base : Nat) (v : Value) (l : List N3) : Prop := QRow W base 44 3 v l.length (tcells l)
theorem TRow3.snoc {W : World} {base : Nat} {v : Value} {l : List N3} {T : N3} (h : QRow W base 44 3 v (l.length + 1) (tcells l ++ [.int .i64 (T.1 : Int), .int .i64 (T.2.1 : Int), .int .i64 (T.2.2 : Int)])) : TRow3 W base v (l ++ [T]) := by
  unfold TRow3
  rw [List.length_append, tcells_app, tcells_one]
  exact h
theorem infoT : (Try.prog.info? 44).map (fun i => (i.zero, i.size, i.bytes)) = some (some (.agg #[.int .i64 0, .int .i64 0, .int .i64 0]), 3, 24) := by kernel_rfl
theorem underT : Try.prog.underlying 33 = some (.slice 44) := by kernel_rfl
theorem cells_new3 (W : World) (t : TypeId) (u v x : Value) : ∀ (j : Nat) (y : Value), [u, v, x][j]? = some y → (W.alloc (.cells #[u, v, x] t)).cell? ((⟨W.heap.size, 0, none⟩ : Addr).add j) = some y := fun j y h => by
  have hb : BoxN (W.alloc (.cells #[u, v, x] t)) W.heap.size t #[u, v, x] := BoxN.new rfl
  have e : (⟨W.heap.size, 0, none⟩ : Addr).add j = ⟨W.heap.size, j, none⟩ := by
    unfold Addr.add
    split
    · rename_i h0; simp at h0 ⊢; try omega
    · simp
  rw [e, hb.cell j]
  simpa using h
theorem srcI_three (W : World) (a b c : Int) : SrcI (W.alloc (.cells #[.int .i64 a, .int .i64 b, .int .i64 c] 3)) (some ⟨W.heap.size, 0, none⟩) 3 (fun k => if k = 0 then a else if k = 1 then b else c) := fun _ => ⟨_, 0, rfl, by simp, fun j hj => by
  have hb : BoxN (W.alloc (.cells #[.int .i64 a, .int .i64 b, .int .i64 c] 3)) W.heap.size 3 #[.int .i64 a, .int .i64 b, .int .i64 c] := BoxN.new rfl
  rw [Nat.zero_add, hb.cell j]
  rcases (show j = 0 ∨ j = 1 ∨ j = 2 by omega) with rfl | rfl | rfl <;> rfl⟩
/-- put at three numbers that have just been laid -/
theorem put_new (W : World) (a b c : Int) (x y z : Nat) (ha : a = x) (hb : b = y) (hc : c = z) :
    Calls Try.prog 57 #[.slice (some ⟨W.heap.size, 0, none⟩) 3 3] (W.alloc (.cells #[.int .i64 a, .int .i64 b, .int .i64 c] 3)) fun e w' => e = .returned (.agg #[.int .i64 ((put3 x y z).1 : Int), .int .i64 ((put3 x y z).2.1 : Int), .int .i64 ((put3 x y z).2.2 : Int)]) ∧ Below W.heap.size W w' := by
  subst ha; subst hb; subst hc
  refine (put_any _ 3 x y z _ (by decide) (srcI_three W x y z)).mono fun e w' h => ⟨h.1, ?_⟩
  exact (((Below.refl W.heap.size W).alloc (Nat.le_refl _) _)).trans (h.2.mono (by simp))
set_option maxRecDepth 100000 in
set_option maxHeartbeats 4000000 in
theorem bose_any (n m : Nat) (w : World) (hm : n / 3 = m) (hn : n ≤ 27) (hn3 : 3 ≤ n) :
    Calls Try.prog 39 #[.int .i64 (n : Int)] w fun e w' => (∃ p c, e = .returned (.slice p (boseL n).length c) ∧ TRow3 w' w.heap.size (.slice p (boseL n).length c) (boseL n)) ∧ Below w.heap.size w w' := by
  have e1 : Int.tdiv (n : Int) 3 = (m : Int) := by rw [Int.tdiv_eq_ediv_of_nonneg (by omega)]; omega
  obtain ⟨h, hh⟩ : ∃ h, Hid ((m + 1) / 2 = h) := ⟨_, rfl⟩
  have e2 : Int.tdiv ((m : Int) + 1) 2 = (h : Int) := by have := hh.out; rw [Int.tdiv_eq_ediv_of_nonneg (by omega)]; omega
  have hm9 : m ≤ 9 := by omega
  have hm1 : 1 ≤ m := by omega
  have hh5 : h ≤ 5 := by have := hh.out; omega
  obtain ⟨i0, hi0, hz0, hz1, hz2⟩ := info_parts infoT
  have HBL : Hid (boseL n = (List.range m).flatMap (boseX m)) := by unfold Hid boseL; rw [hm]
  go_enter Try.func39, Try.ntmps39
  go_upto_region 5 with (fail)
  go_loopw [5, 16] (fun s5 s16 wr => ∃ (x : Nat) (l : List N3), x ≤ m ∧ s16 = .int .i64 (x : Int) ∧ Hid (l = (List.range x).flatMap (boseX m)) ∧ l.length ≤ x * 40 ∧ Hid (TRow3 wr w.heap.size s5 l) ∧ Hid (Below w.heap.size w wr)) (fun _ s16 _ => m - (intOf s16).toNat)
  case atStart => exact ⟨0, [], by omega, rfl, rfl, by simp, QRow.nil _ _ _ _, Below.refl _ _⟩
  case round =>
    obtain ⟨x, l, hx, rfl, hl, hlen, hQ, hB⟩ := hrel
    obtain ⟨p5, c5, rfl⟩ := hQ.out.isSlice
    have hwr : w.heap.size ≤ wr.heap.size := hB.out.size
    by_cases hxm : x < m
    · have g1 : (x : Int) < (m : Int) := by omega
      have HP := Lib.hid (put_new wr (x : Int) ((x : Int) + (m : Int)) ((x : Int) + 2 * (m : Int)) x (x + m) (x + 2 * m) rfl (by omega) (by omega))
      obtain ⟨T, hT⟩ : ∃ T, Hid (put3 x (x + m) (x + 2 * m) = T) := ⟨_, rfl⟩
      rw [hT.out] at HP
      go_upto_region 9 with (first
        | (go_at_call 57; refine HP.out.mono ?_; rintro e w4 ⟨rfl, hB4⟩; have HB4 := Lib.hid hB4; have HQA := Lib.hid ((hQ.out.below hB4 (fun k hk => (hQ.out.lt k hk).2)).alloc (.cells #[.int .i64 (T.1 : Int), .int .i64 (T.2.1 : Int), .int .i64 (T.2.2 : Int)] 44)); have hw4 := hB4.size; clear hB4)
        | (at_builtin; go_must (refine wpList_append_q _ rfl (.tmp 19) (.tmp 30) 33 rfl w.heap.size 44 i0 _ 3 24 underT hi0 hz0 hz1 hz2 rfl (by decide) _ l.length (tcells l) rfl HQA.out ⟨w4.heap.size, 0, none⟩ 1 1 [.int .i64 (T.1 : Int), .int .i64 (T.2.1 : Int), .int .i64 (T.2.2 : Int)] rfl rfl (cells_new3 _ _ _ _ _) (by simp [Value.oneCell']) (by unfold maxLen; omega) (by omega) (by simp; omega) ?_); intro v7 w7 hq7 hg7 ho7; have HQ7 := Lib.hid hq7; have HG7 := Lib.hid hg7; clear hq7 hg7 ho7))
      have HT7 : Hid (TRow3 w7 w.heap.size v7 (l ++ [T])) := TRow3.snoc HQ7.out
      have HB7 : Hid (Below w.heap.size w w7) := Below.grown ((hB.out.trans (HB4.out.mono hwr)).alloc (by omega) _) HG7.out (by simp; omega) (fun kk e => (hQ.out.lt kk e).1)
      have HXX : Hid (boseX m x = T :: (List.range x).flatMap fun y => (List.range 3).map fun row => boseR m x y row) := by rw [← hT.out]; rfl
      clear HQ7 HG7 HQA HB4 hQ hB HP hT
      go_loopw [5, 33] (fun s5 s33 wr => ∃ (y : Nat) (l' : List N3), y ≤ x ∧ s33 = .int .i64 (y : Int) ∧ Hid (l' = (l ++ [T]) ++ (List.range y).flatMap fun y => (List.range 3).map fun row => boseR m x y row) ∧ l'.length ≤ x * 40 + 1 + y * 3 ∧ Hid (TRow3 wr w.heap.size s5 l') ∧ Hid (Below w.heap.size w wr)) (fun _ s33 _ => x - (intOf s33).toNat)
      case atStart => exact ⟨0, l ++ [T], by omega, rfl, by unfold Hid; simp, by simp; omega, HT7, HB7⟩
      case round =>
        clear HT7 HB7
        obtain ⟨y, l', hy, rfl, hl', hlen', hQ, hB⟩ := hrel
        by_cases hyx : y < x
        · have g2 : (y : Int) < (x : Int) := by omega
          obtain ⟨p, hp⟩ : ∃ p, Hid ((x + y) * h = p) := ⟨_, rfl⟩
          have e3 : ((x : Int) + (y : Int)) * (h : Int) = (p : Int) := by rw [← hp.out]; push_cast; rfl
          have hp90 : p ≤ 90 := by rw [← hp.out]; exact Nat.le_trans (Nat.mul_le_mul (show x + y ≤ 18 by omega) hh5) (by decide)
          obtain ⟨z, hz⟩ : ∃ z, Hid (p % m = z) := ⟨_, rfl⟩
          have hzm : z < m := by rw [← hz.out]; exact Nat.mod_lt _ (by omega)
          have e4 : Int.tmod (p : Int) (m : Int) = (z : Int) := by rw [← hz.out]; rfl
          have g3 : ¬ (m : Int) = 0 := by omega
          have HR : Hid (∀ row, boseR m x y row = put3 (x + row * m) (y + row * m) (z + nx row m)) := fun row => by
            unfold boseR
            rw [hh.out, hp.out, hz.out]
          go_upto_region 13 with (fail)
          go_loopw [5, 43] (fun s5 s43 wr => ∃ (row : Nat) (l'' : List N3), row ≤ 3 ∧ s43 = .int .i64 (row : Int) ∧ Hid (l'' = l' ++ (List.range row).map fun row => boseR m x y row) ∧ l''.length ≤ x * 40 + 1 + y * 3 + row ∧ Hid (TRow3 wr w.heap.size s5 l'') ∧ Hid (Below w.heap.size w wr)) (fun _ s43 _ => 3 - (intOf s43).toNat)
          case atStart => exact ⟨0, l', by omega, rfl, by unfold Hid; simp, by omega, hQ, hB⟩
          case round =>
            clear hQ hB
            obtain ⟨row, l'', hrow, rfl, hl'', hlen'', hQ, hB⟩ := hrel
            obtain ⟨p5', c5', rfl⟩ := hQ.out.isSlice
            have hwr' : w.heap.size ≤ wr.heap.size := hB.out.size
            by_cases hr3 : row < 3
            · have g4 : (row : Int) < 3 := by omega
              obtain ⟨u, hu⟩ : ∃ u, Hid (row * m = u) := ⟨_, rfl⟩
              have hu18 : u ≤ 18 := by rw [← hu.out]; exact Nat.le_trans (Nat.mul_le_mul (show row ≤ 2 by omega) hm9) (by decide)
              have e5 : (row : Int) * (m : Int) = (u : Int) := by rw [← hu.out]; push_cast; rfl
              obtain ⟨v, hv⟩ : ∃ v, Hid ((row + 1) % 3 = v) := ⟨_, rfl⟩
              have hv2 : v ≤ 2 := by have := hv.out; omega
              have e6 : Int.tmod ((row : Int) + 1) 3 = (v : Int) := by have := hv.out; rw [Int.tmod_eq_emod_of_nonneg (by omega)]; omega
              obtain ⟨q, hq⟩ : ∃ q, Hid (v * m = q) := ⟨_, rfl⟩
              have hq18 : q ≤ 18 := by rw [← hq.out]; exact Nat.le_trans (Nat.mul_le_mul hv2 hm9) (by decide)
              have e7 : (v : Int) * (m : Int) = (q : Int) := by rw [← hq.out]; push_cast; rfl
              have HR1 : Hid (boseR m x y row = put3 (x + u) (y + u) (z + q)) := by
                have := HR.out row
                unfold nx at this
                rw [hu.out, hv.out, hq.out] at this
                exact this
              have HP := Lib.hid (put_new wr ((x : Int) + (u : Int)) ((y : Int) + (u : Int)) ((z : Int) + (q : Int)) (x + u) (y + u) (z + q) (by omega) (by omega) (by omega))
              rw [← HR1.out] at HP
              have HSN : Hid (((List.range (row + 1)).map fun row => boseR m x y row) = ((List.range row).map fun row => boseR m x y row) ++ [boseR m x y row]) := by unfold Hid; rw [List.range_succ, List.map_append]; rfl
              generalize boseR m x y row = T' at *
              have g40 : x * 40 ≤ 360 := by omega
              go_wp2_with (first
                | (go_at_call 57; refine HP.out.mono ?_; rintro e w5 ⟨rfl, hB5⟩; have HB5 := Lib.hid hB5; have HQA := Lib.hid ((hQ.out.below hB5 (fun k hk => (hQ.out.lt k hk).2)).alloc (.cells #[.int .i64 (T'.1 : Int), .int .i64 (T'.2.1 : Int), .int .i64 (T'.2.2 : Int)] 44)); have hw5 := hB5.size; clear hB5)
                | (at_builtin; go_must (refine wpList_append_q _ rfl (.tmp 46) (.tmp 66) 33 rfl w.heap.size 44 i0 _ 3 24 underT hi0 hz0 hz1 hz2 rfl (by decide) _ l''.length (tcells l'') rfl HQA.out ⟨w5.heap.size, 0, none⟩ 1 1 [.int .i64 (T'.1 : Int), .int .i64 (T'.2.1 : Int), .int .i64 (T'.2.2 : Int)] rfl rfl (cells_new3 _ _ _ _ _) (by simp [Value.oneCell']) (by unfold maxLen; omega) (by omega) (by simp; omega) ?_); intro v8 w8 hq8 hg8 ho8; have HQ8 := Lib.hid hq8; have HG8 := Lib.hid hg8; clear hq8 hg8 ho8))
              have HT8 : Hid (TRow3 w8 w.heap.size v8 (l'' ++ [T'])) := TRow3.snoc HQ8.out
              have HB8 : Hid (Below w.heap.size w w8) := Below.grown ((hB.out.trans (HB5.out.mono hwr')).alloc (by omega) _) HG8.out (by simp; omega) (fun kk e => (hQ.out.lt kk e).1)
              refine ⟨⟨row + 1, l'' ++ [T'], by omega, int_eq (by omega), ?_, by simp; omega, HT8, HB8⟩, by simp [intOf]; omega⟩
              unfold Hid
              rw [HSN.out, hl''.out, List.append_assoc]
            · have g4 : ¬ (row : Int) < 3 := by omega
              obtain rfl : row = 3 := by omega
              go_wp2
              refine ⟨⟨y + 1, l'', by omega, int_eq (by omega), ?_, by omega, hQ, hB⟩, by simp [intOf]; omega⟩
              unfold Hid
              rw [hl''.out, hl'.out, List.range_succ (n := y), List.flatMap_append, List.append_assoc]
              simp
        · have g2 : ¬ (y : Int) < (x : Int) := by omega
          obtain rfl : x = y := by omega
          go_wp2
          refine ⟨⟨x + 1, l', by omega, int_eq (by omega), ?_, by omega, hQ, hB⟩, by simp [intOf]; omega⟩
          unfold Hid
          rw [hl'.out, hl.out, List.range_succ (n := x), List.flatMap_append, List.append_assoc]
          simp [HXX.out]
    · have g1 : ¬ (x : Int) < (m : Int) := by omega
      obtain rfl : m = x := by omega
      go_wp2
      go_ret
      rw [HBL.out, ← hl.out]
      exact ⟨⟨p5, c5, rfl, hQ.out⟩, hB.out⟩
end Go.Proofs.Ytocnhikohfkcaaa
namespace Go.Proofs.Ytocnhikohfkcaaa
open Go.RowKit Go.Shelf
attribute [local go_sem] Oper.semAt_some

set_option maxRecDepth 100000 in
theorem sum_any (bm bh m h x y : Nat) (w : World) (hm1 : 1 ≤ m) (hm8 : m ≤ 9) (hx : x ≤ 9) (hy : y ≤ 9) (hh : m / 2 = h) (k1 : w.cell? ⟨bm, 0, none⟩ = some (.int .i64 (m : Int))) (k2 : w.cell? ⟨bh, 0, none⟩ = some (.int .i64 (h : Int))) :
    Calls Try.prog 58 #[.int .i64 (x : Int), .int .i64 (y : Int), .pointer (some ⟨bm, 0, none⟩), .pointer (some ⟨bh, 0, none⟩)] w fun e w' => e = .returned (.int .i64 (skS m x y : Int)) ∧ w' = w := by
  obtain ⟨z, hz⟩ : ∃ z, Hid ((x + y) % m = z) := ⟨_, rfl⟩
  have hzm : z < m := by rw [← hz.out]; exact Nat.mod_lt _ (by omega)
  have e1 : Int.tmod ((x : Int) + (y : Int)) (m : Int) = (z : Int) := by
    rw [← hz.out, Int.tmod_eq_emod_of_nonneg (by omega)]; push_cast; rfl
  have HS : Hid (skS m x y = if z % 2 = 0 then z / 2 else (z - 1) / 2 + h) := by unfold Hid skS; rw [hz.out, hh]
  have g1 : ¬ (m : Int) = 0 := by omega
  have hh4 : h ≤ 4 := by omega
  clear hh
  by_cases hp : z % 2 = 0
  · have e2 : Int.tmod (z : Int) 2 = 0 := by rw [Int.tmod_eq_emod_of_nonneg (by omega)]; omega
    have e3 : Int.tdiv (z : Int) 2 = ((z / 2 : Nat) : Int) := by rw [Int.tdiv_eq_ediv_of_nonneg (by omega)]; omega
    have hu : z / 2 ≤ 4 := by omega
    rw [if_pos hp] at HS
    generalize z / 2 = u at *
    go_enter Try.func58, Try.ntmps58
    go_wp2
    go_ret
    exact ⟨by rw [HS.out]; rfl, rfl⟩
  · have e2 : Int.tmod (z : Int) 2 = 1 := by rw [Int.tmod_eq_emod_of_nonneg (by omega)]; omega
    have e3 : Int.tdiv ((z : Int) - 1) 2 = (((z - 1) / 2 : Nat) : Int) := by rw [Int.tdiv_eq_ediv_of_nonneg (by omega)]; omega
    have hu : (z - 1) / 2 ≤ 4 := by omega
    rw [if_neg hp] at HS
    generalize (z - 1) / 2 = u at *
    go_enter Try.func58, Try.ntmps58
    go_wp2
    go_ret
    exact ⟨by rw [HS.out]; simp; try omega, rfl⟩
theorem skS_lt {m x y : Nat} (hm : 1 ≤ m) : skS m x y ≤ m := by
  unfold skS
  have := Nat.mod_lt (x + y) (show m > 0 by omega)
  split <;> omega
set_option maxRecDepth 100000 in
set_option maxHeartbeats 8000000 in
theorem skolem_any (n m : Nat) (w : World) (hm : n / 3 = m) (hn : n ≤ 27) (hn3 : 3 ≤ n) :
    Calls Try.prog 40 #[.int .i64 (n : Int)] w fun e w' => (∃ p c, e = .returned (.slice p (skolemL n).length c) ∧ TRow3 w' w.heap.size (.slice p (skolemL n).length c) (skolemL n)) ∧ Below w.heap.size w w' := by
  have e1 : Int.tdiv (n : Int) 3 = (m : Int) := by rw [Int.tdiv_eq_ediv_of_nonneg (by omega)]; omega
  obtain ⟨h, hh⟩ : ∃ h, Hid (m / 2 = h) := ⟨_, rfl⟩
  have e2 : Int.tdiv (m : Int) 2 = (h : Int) := by have := hh.out; rw [Int.tdiv_eq_ediv_of_nonneg (by omega)]; omega
  have hm9 : m ≤ 9 := by omega
  have hm1 : 1 ≤ m := by omega
  have hh5 : h ≤ 4 := by have := hh.out; omega
  have en : (n : Int) - 1 = ((n - 1 : Nat) : Int) := by omega
  obtain ⟨i0, hi0, hz0, hz1, hz2⟩ := info_parts infoT
  have HBL : Hid (skolemL n = (List.range m).flatMap (skX n m)) := by unfold Hid skolemL; rw [hm]
  go_enter Try.func40, Try.ntmps40
  go_upto_region 6 with (fail)
  have HX0 : Hid (Boxed ((w.alloc (.cells #[.int .i64 (m : Int)] 3)).alloc (.cells #[.int .i64 (h : Int)] 3)) w.heap.size 3 (.int .i64 (m : Int))) := (boxed_at rfl).alloc _
  have HX1 : Hid (Boxed ((w.alloc (.cells #[.int .i64 (m : Int)] 3)).alloc (.cells #[.int .i64 (h : Int)] 3)) (w.heap.size + 1) 3 (.int .i64 (h : Int))) := boxed_at (by simp)
  have HBU : Hid (Below w.heap.size w ((w.alloc (.cells #[.int .i64 (m : Int)] 3)).alloc (.cells #[.int .i64 (h : Int)] 3))) := ((Below.refl _ _).alloc (Nat.le_refl _) _).alloc (by simp) _
  obtain ⟨bm, hbm⟩ : ∃ bm, Hid (bm = w.heap.size) := ⟨_, rfl⟩
  obtain ⟨bh, hbh⟩ : ∃ bh, Hid (bh = w.heap.size + 1) := ⟨_, rfl⟩
  rw [← hbh.out] at HX1 ⊢
  rw [← hbm.out] at HX0 ⊢
  generalize hUU : ((w.alloc (.cells #[.int .i64 (m : Int)] 3)).alloc (.cells #[.int .i64 (h : Int)] 3)) = U at *
  clear hUU
  clear hbm hbh
  have HSM : Hid (∀ W, Below U.heap.size U W → W.cell? ⟨bm, 0, none⟩ = some (.int .i64 (m : Int)) ∧ W.cell? ⟨bh, 0, none⟩ = some (.int .i64 (h : Int))) := fun W hW => ⟨(hW.cell (p := ⟨bm, 0, none⟩) HX0.out.lt).trans HX0.out.cell, (hW.cell (p := ⟨bh, 0, none⟩) HX1.out.lt).trans HX1.out.cell⟩
  have hwU : w.heap.size ≤ U.heap.size := HBU.out.size
  clear HX0 HX1
  go_loopw [6, 16] (fun s6 s16 wr => ∃ (x : Nat) (l : List N3), x ≤ m ∧ s16 = .int .i64 (x : Int) ∧ Hid (l = (List.range x).flatMap (skX n m)) ∧ l.length ≤ x * 40 ∧ Hid (TRow3 wr U.heap.size s6 l) ∧ Hid (Below U.heap.size U wr)) (fun _ s16 _ => m - (intOf s16).toNat)
  case atStart => exact ⟨0, [], by omega, rfl, rfl, by simp, QRow.nil _ _ _ _, Below.refl _ _⟩
  case round =>
    obtain ⟨x, l, hx, rfl, hl, hlen, hQ, hB⟩ := hrel
    obtain ⟨p6, c6, rfl⟩ := hQ.out.isSlice
    have hwr : U.heap.size ≤ wr.heap.size := hB.out.size
    by_cases hxm : x < m
    · have g1 : (x : Int) < (m : Int) := by omega
      obtain ⟨k1, k2⟩ := HSM.out wr hB.out
      obtain ⟨A, hA⟩ : ∃ A, Hid (A = if x < h then [put3 x (x + m) (x + 2 * m)] else []) := ⟨_, rfl⟩
      rcases Nat.lt_or_ge x h with hxh | hxh
      · have g2 : (x : Int) < (h : Int) := by omega
        have HP := Lib.hid (put_new wr (x : Int) ((x : Int) + (m : Int)) ((x : Int) + 2 * (m : Int)) x (x + m) (x + 2 * m) rfl (by omega) (by omega))
        obtain ⟨T, hT⟩ : ∃ T, Hid (put3 x (x + m) (x + 2 * m) = T) := ⟨_, rfl⟩
        rw [hT.out] at HP
        have hA1 : Hid (A = [T]) := by rw [hA.out, if_pos hxh, hT.out]; exact rfl
        have k5 : ∀ W, Below U.heap.size U W → W.cell? ⟨bm, 0, none⟩ = some (.int .i64 (m : Int)) := fun W hW => (HSM.out W hW).1
        go_upto_region 11 with (first
          | (go_at_call 57; refine HP.out.mono ?_; rintro e w4 ⟨rfl, hB4⟩; have HB4 := Lib.hid hB4; have HQA := Lib.hid ((hQ.out.below hB4 (fun k hk => (hQ.out.lt k hk).2)).alloc (.cells #[.int .i64 (T.1 : Int), .int .i64 (T.2.1 : Int), .int .i64 (T.2.2 : Int)] 44)); have hw4 := hB4.size; clear hB4)
          | (at_builtin; go_must (refine wpList_append_q _ rfl (.tmp 22) (.tmp 33) 33 rfl U.heap.size 44 i0 _ 3 24 underT hi0 hz0 hz1 hz2 rfl (by decide) _ l.length (tcells l) rfl HQA.out ⟨w4.heap.size, 0, none⟩ 1 1 [.int .i64 (T.1 : Int), .int .i64 (T.2.1 : Int), .int .i64 (T.2.2 : Int)] rfl rfl (cells_new3 _ _ _ _ _) (by simp [Value.oneCell']) (by unfold maxLen; omega) (by omega) (by simp; omega) ?_); intro v7 w7 hq7 hg7 ho7; have HQ7 := Lib.hid hq7; have HG7 := Lib.hid hg7; clear hq7 hg7 ho7))
        have HT7 : Hid (TRow3 w7 U.heap.size v7 (l ++ A)) := by rw [hA1.out]; exact TRow3.snoc HQ7.out
        have HB7 : Hid (Below U.heap.size U w7) := Below.grown ((hB.out.trans (HB4.out.mono hwr)).alloc (by omega) _) HG7.out (by simp; omega) (fun kk e => (hQ.out.lt kk e).1)
        have hA1l : A.length ≤ 1 := by rw [hA1.out]; exact Nat.le_refl _
        clear HQ7 HG7 HQA HB4 hQ hB HP hT hA1 k1 k2 k5
        go_loopw [6, 35] (fun s6 s35 wr => ∃ (row : Nat) (l' : List N3), row ≤ 3 ∧ s35 = .int .i64 (row : Int) ∧ Hid (l' = (l ++ A) ++ (List.range row).flatMap (skR n m x)) ∧ l'.length ≤ x * 40 + 1 + row * 10 ∧ Hid (TRow3 wr U.heap.size s6 l') ∧ Hid (Below U.heap.size U wr)) (fun _ s35 _ => 3 - (intOf s35).toNat)
        case atStart => exact ⟨0, l ++ A, by omega, rfl, by unfold Hid; simp, by simp; omega, HT7, HB7⟩
        case round =>
          clear HT7 HB7
          obtain ⟨row, l', hrow, rfl, hl', hlen', hQ, hB⟩ := hrel
          obtain ⟨p6', c6', rfl⟩ := hQ.out.isSlice
          have hwr : U.heap.size ≤ wr.heap.size := hB.out.size
          by_cases hr3 : row < 3
          · have g3 : (row : Int) < 3 := by omega
            obtain ⟨k1, k2⟩ := HSM.out wr hB.out
            obtain ⟨u, hu⟩ : ∃ u, Hid (row * m = u) := ⟨_, rfl⟩
            have hu18 : u ≤ 18 := by rw [← hu.out]; exact Nat.le_trans (Nat.mul_le_mul (show row ≤ 2 by omega) hm9) (by decide)
            have e5 : (row : Int) * (m : Int) = (u : Int) := by rw [← hu.out]; push_cast; rfl
            obtain ⟨v, hv⟩ : ∃ v, Hid ((row + 1) % 3 = v) := ⟨_, rfl⟩
            have hv2 : v ≤ 2 := by have := hv.out; omega
            have e6 : Int.tmod ((row : Int) + 1) 3 = (v : Int) := by have := hv.out; rw [Int.tmod_eq_emod_of_nonneg (by omega)]; omega
            obtain ⟨q, hq⟩ : ∃ q, Hid (v * m = q) := ⟨_, rfl⟩
            have hq18 : q ≤ 18 := by rw [← hq.out]; exact Nat.le_trans (Nat.mul_le_mul hv2 hm9) (by decide)
            have e7 : (v : Int) * (m : Int) = (q : Int) := by rw [← hq.out]; push_cast; rfl
            have g4 : (x : Int) < (h : Int) := by omega
            have HP := Lib.hid (put_new wr (((n - 1 : Nat) : Int)) ((x : Int) + (h : Int) + (u : Int)) ((x : Int) + (q : Int)) (n - 1) (x + h + u) (x + q) rfl (by omega) (by omega))
            obtain ⟨T1, hT1⟩ : ∃ T1, Hid (put3 (n - 1) (x + h + u) (x + q) = T1) := ⟨_, rfl⟩
            rw [hT1.out] at HP
            have k5 : ∀ W, Below U.heap.size U W → W.cell? ⟨bm, 0, none⟩ = some (.int .i64 (m : Int)) := fun W hW => (HSM.out W hW).1
            go_upto_region 16 with (first
              | (go_at_call 57; refine HP.out.mono ?_; rintro e w5 ⟨rfl, hB5⟩; have HB5 := Lib.hid hB5; have HQA := Lib.hid ((hQ.out.below hB5 (fun k hk => (hQ.out.lt k hk).2)).alloc (.cells #[.int .i64 (T1.1 : Int), .int .i64 (T1.2.1 : Int), .int .i64 (T1.2.2 : Int)] 44)); have hw5 := hB5.size; clear hB5)
              | (at_builtin; go_must (refine wpList_append_q _ rfl (.tmp 41) (.tmp 60) 33 rfl U.heap.size 44 i0 _ 3 24 underT hi0 hz0 hz1 hz2 rfl (by decide) _ l'.length (tcells l') rfl HQA.out ⟨w5.heap.size, 0, none⟩ 1 1 [.int .i64 (T1.1 : Int), .int .i64 (T1.2.1 : Int), .int .i64 (T1.2.2 : Int)] rfl rfl (cells_new3 _ _ _ _ _) (by simp [Value.oneCell']) (by unfold maxLen; omega) (by omega) (by simp; omega) ?_); intro v6 w6 hq6 hg6 ho6; have HQ6 := Lib.hid hq6; have HG6 := Lib.hid hg6; clear hq6 hg6 ho6))
            obtain ⟨l1, HL1⟩ : ∃ l1, Hid (l1 = l' ++ [put3 (n - 1) (x + h + row * m) (x + nx row m)]) := ⟨_, rfl⟩
            have HTR : Hid (TRow3 w6 U.heap.size v6 l1) := by
              rw [HL1.out, show put3 (n - 1) (x + h + row * m) (x + nx row m) = T1 by rw [← hT1.out, hu.out, ← hq.out, ← hv.out]; rfl]
              exact TRow3.snoc HQ6.out
            have HBR : Hid (Below U.heap.size U w6) := Below.grown ((hB.out.trans (HB5.out.mono hwr)).alloc (by omega) _) HG6.out (by simp; omega) (fun kk e => (hQ.out.lt kk e).1)
            have hlen1 : l1.length ≤ x * 40 + 1 + row * 10 + 1 := by rw [HL1.out, List.length_append]; simp; omega
            clear HQ6 HG6 HQA HB5 hQ hB HP hT1 k1 k2 k5
            go_loopw [6, 63] (fun s6 s63 wr => ∃ (y : Nat) (l2 : List N3), y ≤ x ∧ s63 = .int .i64 (y : Int) ∧ Hid (l2 = l1 ++ (List.range y).map fun y => put3 (x + row * m) (y + row * m) (skS m x y + nx row m)) ∧ l2.length ≤ x * 40 + 1 + row * 10 + 1 + y ∧ Hid (TRow3 wr U.heap.size s6 l2) ∧ Hid (Below U.heap.size U wr)) (fun _ s63 _ => x - (intOf s63).toNat)
            case atStart => exact ⟨0, l1, by omega, rfl, by unfold Hid; simp, by omega, HTR, HBR⟩
            case round =>
              clear HTR HBR
              obtain ⟨y, l2, hy, rfl, hl2, hlen2, hQ, hB⟩ := hrel
              obtain ⟨p7, c7, rfl⟩ := hQ.out.isSlice
              have hwr : U.heap.size ≤ wr.heap.size := hB.out.size
              by_cases hyx : y < x
              · have g5 : (y : Int) < (x : Int) := by omega
                obtain ⟨sy, hsy⟩ : ∃ sy, Hid (skS m x y = sy) := ⟨_, rfl⟩
                have hsl : sy ≤ m := by rw [← hsy.out]; exact skS_lt hm1
                have m0 : ∀ d : BW wr.heap.size wr, d.w.cell? ⟨bm, 0, none⟩ = some (.int .i64 (m : Int)) := fun d => (HSM.out d.w (hB.out.trans (d.b.mono hwr))).1
                have HSU : Hid (∀ d : BW wr.heap.size wr, Calls Try.prog 58 #[.int .i64 (x : Int), .int .i64 (y : Int), .pointer (some ⟨bm, 0, none⟩), .pointer (some ⟨bh, 0, none⟩)] d.w fun e w' => e = .returned (.int .i64 (sy : Int)) ∧ ∃ d' : BW wr.heap.size wr, w' = d'.w) := fun d => Calls.bw ((sum_any bm bh m h x y d.w hm1 hm9 (by omega) (by omega) hh.out (m0 d) (HSM.out d.w (hB.out.trans (d.b.mono hwr))).2).mono fun e w' h => ⟨by rw [h.1, hsy.out], by rw [h.2]; exact d.b⟩)
                have HTE : Hid (put3 (x + row * m) (y + row * m) (skS m x y + nx row m) = put3 (x + u) (y + u) (sy + q)) := by rw [hu.out, hsy.out, ← hq.out, ← hv.out]; rfl
                obtain ⟨T2, hT2⟩ : ∃ T2, Hid (put3 (x + u) (y + u) (sy + q) = T2) := ⟨_, rfl⟩
                have HPW := Lib.hid (fun W => put_new W ((x : Int) + (u : Int)) ((y : Int) + (u : Int)) ((sy : Int) + (q : Int)) (x + u) (y + u) (sy + q) (by omega) (by omega) (by omega))
                rw [hT2.out] at HPW
                go_upto_region 18 with (fail)
                refine wp_region_bw_copy_tail 21 (by kernel_rfl) (by kernel_rfl) (fun _ _ _ h => h) (.inl ⟨rfl, fun _ => rfl⟩) ?_
                simp only [Act.put, Act.eval, List.getElem?_toArray, List.getElem?_cons_zero, List.getElem?_cons_succ, Option.getD_some, List.setIfInBounds_toArray, List.set_cons_zero, List.set_cons_succ, Nat.reduceSub, Array.getD_eq_getD_getElem?]
                simp only [List.take_succ_cons, List.take_zero, List.drop_succ_cons, List.drop_zero]
                repeat (go_big_quiet_step ((first
                  | rfl
                  | (go_at_call 58; exact HSU.out _))))
                refine wpQuiet_nil ?_
                rintro _ ⟨d, rfl⟩
                have hQd : Hid (TRow3 d.w U.heap.size (.slice p7 l2.length c7) l2) := hQ.out.below d.b (fun k hk => (hQ.out.lt k hk).2)
                have hBd : Hid (Below U.heap.size U d.w) := hB.out.trans (d.b.mono hwr)
                clear m0 HSU hQ hB
                generalize d.w = Z at *
                have hwZ : U.heap.size ≤ Z.heap.size := hBd.out.size
                have HP := Lib.hid (HPW.out Z)
                go_wp2_with (first
                  | (go_at_call 57; refine HP.out.mono ?_; rintro e w8 ⟨rfl, hB8⟩; have HB8 := Lib.hid hB8; have HQA := Lib.hid ((hQd.out.below hB8 (fun k hk => (hQd.out.lt k hk).2)).alloc (.cells #[.int .i64 (T2.1 : Int), .int .i64 (T2.2.1 : Int), .int .i64 (T2.2.2 : Int)] 44)); have hw8 := hB8.size; clear hB8)
                  | (at_builtin; go_must (refine wpList_append_q _ rfl (.tmp 66) (.tmp 89) 33 rfl U.heap.size 44 i0 _ 3 24 underT hi0 hz0 hz1 hz2 rfl (by decide) _ l2.length (tcells l2) rfl HQA.out ⟨w8.heap.size, 0, none⟩ 1 1 [.int .i64 (T2.1 : Int), .int .i64 (T2.2.1 : Int), .int .i64 (T2.2.2 : Int)] rfl rfl (cells_new3 _ _ _ _ _) (by simp [Value.oneCell']) (by unfold maxLen; omega) (by omega) (by simp; omega) ?_); intro v9 w9 hq9 hg9 ho9; have HQ9 := Lib.hid hq9; have HG9 := Lib.hid hg9; clear hq9 hg9 ho9))
                have HT9 : Hid (TRow3 w9 U.heap.size v9 (l2 ++ [T2])) := TRow3.snoc HQ9.out
                have HB9 : Hid (Below U.heap.size U w9) := Below.grown ((hBd.out.trans (HB8.out.mono hwZ)).alloc (by omega) _) HG9.out (by simp; omega) (fun kk e => (hQd.out.lt kk e).1)
                refine ⟨⟨y + 1, l2 ++ [T2], by omega, int_eq (by omega), ?_, by simp; omega, HT9, HB9⟩, by simp [intOf]; omega⟩
                unfold Hid
                rw [hl2.out, List.range_succ (n := y), List.map_append, ← List.append_assoc, ← hT2.out, ← HTE.out]
                rfl
              · have g5 : ¬ (y : Int) < (x : Int) := by omega
                obtain rfl : x = y := by omega
                go_wp2
                refine ⟨⟨row + 1, l2, by omega, int_eq (by omega), ?_, by omega, hQ, hB⟩, by simp [intOf]; omega⟩
                unfold Hid
                rw [hl2.out, HL1.out, hl'.out, List.range_succ (n := row), List.flatMap_append]
                simp [skR, hh.out, show x < h from hxh]
          · have g3 : ¬ (row : Int) < 3 := by omega
            obtain rfl : row = 3 := by omega
            go_wp2
            refine ⟨⟨x + 1, l', by omega, int_eq (by omega), ?_, by omega, hQ, hB⟩, by simp [intOf]; omega⟩
            unfold Hid
            rw [hl'.out, hl.out, List.range_succ (n := x), List.flatMap_append, List.append_assoc, hA.out]
            simp [skX, hh.out]
      · have g2 : ¬ (x : Int) < (h : Int) := by omega
        have hA1 : Hid (A = []) := by rw [hA.out, if_neg (by omega)]; exact rfl
        go_upto_region 11 with (fail)
        have HT7 : Hid (TRow3 wr U.heap.size (.slice p6 l.length c6) (l ++ A)) := by rw [hA1.out, List.append_nil]; exact hQ.out
        have HB7 : Hid (Below U.heap.size U wr) := hB.out
        have hA1l : A.length ≤ 1 := by rw [hA1.out]; exact Nat.zero_le _
        clear hQ hB hA1 k1 k2
        go_loopw [6, 35] (fun s6 s35 wr => ∃ (row : Nat) (l' : List N3), row ≤ 3 ∧ s35 = .int .i64 (row : Int) ∧ Hid (l' = (l ++ A) ++ (List.range row).flatMap (skR n m x)) ∧ l'.length ≤ x * 40 + 1 + row * 10 ∧ Hid (TRow3 wr U.heap.size s6 l') ∧ Hid (Below U.heap.size U wr)) (fun _ s35 _ => 3 - (intOf s35).toNat)
        case atStart => exact ⟨0, l ++ A, by omega, rfl, by unfold Hid; simp, by simp; omega, HT7, HB7⟩
        case round =>
          clear HT7 HB7
          obtain ⟨row, l', hrow, rfl, hl', hlen', hQ, hB⟩ := hrel
          obtain ⟨p6', c6', rfl⟩ := hQ.out.isSlice
          have hwr : U.heap.size ≤ wr.heap.size := hB.out.size
          by_cases hr3 : row < 3
          · have g3 : (row : Int) < 3 := by omega
            obtain ⟨k1, k2⟩ := HSM.out wr hB.out
            obtain ⟨u, hu⟩ : ∃ u, Hid (row * m = u) := ⟨_, rfl⟩
            have hu18 : u ≤ 18 := by rw [← hu.out]; exact Nat.le_trans (Nat.mul_le_mul (show row ≤ 2 by omega) hm9) (by decide)
            have e5 : (row : Int) * (m : Int) = (u : Int) := by rw [← hu.out]; push_cast; rfl
            obtain ⟨v, hv⟩ : ∃ v, Hid ((row + 1) % 3 = v) := ⟨_, rfl⟩
            have hv2 : v ≤ 2 := by have := hv.out; omega
            have e6 : Int.tmod ((row : Int) + 1) 3 = (v : Int) := by have := hv.out; rw [Int.tmod_eq_emod_of_nonneg (by omega)]; omega
            obtain ⟨q, hq⟩ : ∃ q, Hid (v * m = q) := ⟨_, rfl⟩
            have hq18 : q ≤ 18 := by rw [← hq.out]; exact Nat.le_trans (Nat.mul_le_mul hv2 hm9) (by decide)
            have e7 : (v : Int) * (m : Int) = (q : Int) := by rw [← hq.out]; push_cast; rfl
            have g4 : ¬ (x : Int) < (h : Int) := by omega
            go_upto_region 16 with (fail)
            obtain ⟨l1, HL1⟩ : ∃ l1, Hid (l1 = l' ++ []) := ⟨l' ++ [], (rfl : l' ++ [] = l' ++ [])⟩
            have HTR : Hid (TRow3 wr U.heap.size (.slice p6' l'.length c6') l1) := by rw [HL1.out, List.append_nil]; exact hQ.out
            have HBR : Hid (Below U.heap.size U wr) := hB.out
            have hlen1 : l1.length ≤ x * 40 + 1 + row * 10 + 1 := by rw [HL1.out, List.append_nil]; omega
            clear hQ hB k1 k2
            go_loopw [6, 63] (fun s6 s63 wr => ∃ (y : Nat) (l2 : List N3), y ≤ x ∧ s63 = .int .i64 (y : Int) ∧ Hid (l2 = l1 ++ (List.range y).map fun y => put3 (x + row * m) (y + row * m) (skS m x y + nx row m)) ∧ l2.length ≤ x * 40 + 1 + row * 10 + 1 + y ∧ Hid (TRow3 wr U.heap.size s6 l2) ∧ Hid (Below U.heap.size U wr)) (fun _ s63 _ => x - (intOf s63).toNat)
            case atStart => exact ⟨0, l1, by omega, rfl, by unfold Hid; simp, by omega, HTR, HBR⟩
            case round =>
              clear HTR HBR
              obtain ⟨y, l2, hy, rfl, hl2, hlen2, hQ, hB⟩ := hrel
              obtain ⟨p7, c7, rfl⟩ := hQ.out.isSlice
              have hwr : U.heap.size ≤ wr.heap.size := hB.out.size
              by_cases hyx : y < x
              · have g5 : (y : Int) < (x : Int) := by omega
                obtain ⟨sy, hsy⟩ : ∃ sy, Hid (skS m x y = sy) := ⟨_, rfl⟩
                have hsl : sy ≤ m := by rw [← hsy.out]; exact skS_lt hm1
                have m0 : ∀ d : BW wr.heap.size wr, d.w.cell? ⟨bm, 0, none⟩ = some (.int .i64 (m : Int)) := fun d => (HSM.out d.w (hB.out.trans (d.b.mono hwr))).1
                have HSU : Hid (∀ d : BW wr.heap.size wr, Calls Try.prog 58 #[.int .i64 (x : Int), .int .i64 (y : Int), .pointer (some ⟨bm, 0, none⟩), .pointer (some ⟨bh, 0, none⟩)] d.w fun e w' => e = .returned (.int .i64 (sy : Int)) ∧ ∃ d' : BW wr.heap.size wr, w' = d'.w) := fun d => Calls.bw ((sum_any bm bh m h x y d.w hm1 hm9 (by omega) (by omega) hh.out (m0 d) (HSM.out d.w (hB.out.trans (d.b.mono hwr))).2).mono fun e w' h => ⟨by rw [h.1, hsy.out], by rw [h.2]; exact d.b⟩)
                have HTE : Hid (put3 (x + row * m) (y + row * m) (skS m x y + nx row m) = put3 (x + u) (y + u) (sy + q)) := by rw [hu.out, hsy.out, ← hq.out, ← hv.out]; rfl
                obtain ⟨T2, hT2⟩ : ∃ T2, Hid (put3 (x + u) (y + u) (sy + q) = T2) := ⟨_, rfl⟩
                have HPW := Lib.hid (fun W => put_new W ((x : Int) + (u : Int)) ((y : Int) + (u : Int)) ((sy : Int) + (q : Int)) (x + u) (y + u) (sy + q) (by omega) (by omega) (by omega))
                rw [hT2.out] at HPW
                go_upto_region 18 with (fail)
                refine wp_region_bw_copy_tail 21 (by kernel_rfl) (by kernel_rfl) (fun _ _ _ h => h) (.inl ⟨rfl, fun _ => rfl⟩) ?_
                simp only [Act.put, Act.eval, List.getElem?_toArray, List.getElem?_cons_zero, List.getElem?_cons_succ, Option.getD_some, List.setIfInBounds_toArray, List.set_cons_zero, List.set_cons_succ, Nat.reduceSub, Array.getD_eq_getD_getElem?]
                simp only [List.take_succ_cons, List.take_zero, List.drop_succ_cons, List.drop_zero]
                repeat (go_big_quiet_step ((first
                  | rfl
                  | (go_at_call 58; exact HSU.out _))))
                refine wpQuiet_nil ?_
                rintro _ ⟨d, rfl⟩
                have hQd : Hid (TRow3 d.w U.heap.size (.slice p7 l2.length c7) l2) := hQ.out.below d.b (fun k hk => (hQ.out.lt k hk).2)
                have hBd : Hid (Below U.heap.size U d.w) := hB.out.trans (d.b.mono hwr)
                clear m0 HSU hQ hB
                generalize d.w = Z at *
                have hwZ : U.heap.size ≤ Z.heap.size := hBd.out.size
                have HP := Lib.hid (HPW.out Z)
                go_wp2_with (first
                  | (go_at_call 57; refine HP.out.mono ?_; rintro e w8 ⟨rfl, hB8⟩; have HB8 := Lib.hid hB8; have HQA := Lib.hid ((hQd.out.below hB8 (fun k hk => (hQd.out.lt k hk).2)).alloc (.cells #[.int .i64 (T2.1 : Int), .int .i64 (T2.2.1 : Int), .int .i64 (T2.2.2 : Int)] 44)); have hw8 := hB8.size; clear hB8)
                  | (at_builtin; go_must (refine wpList_append_q _ rfl (.tmp 66) (.tmp 89) 33 rfl U.heap.size 44 i0 _ 3 24 underT hi0 hz0 hz1 hz2 rfl (by decide) _ l2.length (tcells l2) rfl HQA.out ⟨w8.heap.size, 0, none⟩ 1 1 [.int .i64 (T2.1 : Int), .int .i64 (T2.2.1 : Int), .int .i64 (T2.2.2 : Int)] rfl rfl (cells_new3 _ _ _ _ _) (by simp [Value.oneCell']) (by unfold maxLen; omega) (by omega) (by simp; omega) ?_); intro v9 w9 hq9 hg9 ho9; have HQ9 := Lib.hid hq9; have HG9 := Lib.hid hg9; clear hq9 hg9 ho9))
                have HT9 : Hid (TRow3 w9 U.heap.size v9 (l2 ++ [T2])) := TRow3.snoc HQ9.out
                have HB9 : Hid (Below U.heap.size U w9) := Below.grown ((hBd.out.trans (HB8.out.mono hwZ)).alloc (by omega) _) HG9.out (by simp; omega) (fun kk e => (hQd.out.lt kk e).1)
                refine ⟨⟨y + 1, l2 ++ [T2], by omega, int_eq (by omega), ?_, by simp; omega, HT9, HB9⟩, by simp [intOf]; omega⟩
                unfold Hid
                rw [hl2.out, List.range_succ (n := y), List.map_append, ← List.append_assoc, ← hT2.out, ← HTE.out]
                rfl
              · have g5 : ¬ (y : Int) < (x : Int) := by omega
                obtain rfl : x = y := by omega
                go_wp2
                refine ⟨⟨row + 1, l2, by omega, int_eq (by omega), ?_, by omega, hQ, hB⟩, by simp [intOf]; omega⟩
                unfold Hid
                rw [hl2.out, HL1.out, hl'.out, List.range_succ (n := row), List.flatMap_append]
                simp [skR, hh.out, show ¬ x < h by omega]
          · have g3 : ¬ (row : Int) < 3 := by omega
            obtain rfl : row = 3 := by omega
            go_wp2
            refine ⟨⟨x + 1, l', by omega, int_eq (by omega), ?_, by omega, hQ, hB⟩, by simp [intOf]; omega⟩
            unfold Hid
            rw [hl'.out, hl.out, List.range_succ (n := x), List.flatMap_append, List.append_assoc, hA.out]
            simp [skX, hh.out]
    · have g1 : ¬ (x : Int) < (m : Int) := by omega
      obtain rfl : m = x := by omega
      go_wp2
      go_ret
      rw [HBL.out, ← hl.out]
      exact ⟨⟨p6, c6, rfl, hQ.out.mono hwU⟩, HBU.out.trans (hB.out.mono hwU)⟩
end Go.Proofs.Ytocnhikohfkcaaa
