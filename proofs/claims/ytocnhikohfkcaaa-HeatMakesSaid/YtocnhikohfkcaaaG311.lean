/- slices.SortFunc off the shelf, at triples. Lists of triples, put in order: walks. -/
import Derived.Shelf.SlSortCmp.WholeK
import Derived.Shelf.SlSortCmp.NoneTotal
import Derived.Ground.SlsfProg
import Derived.Test.YtocnhikohfkcaaaProg
import Derived.WalkKit
import Derived.Test.YtocnhikohfkcaaaG310
import Derived.Test.YtocnhikohfkcaaaG305
import Derived.Lib.SliceRun
set_option linter.unusedVariables false
set_option linter.unusedSimpArgs false
namespace Go.Proofs
open Go.Shelf
def Try.sortT_ren : Go.Shelf.Ren := ⟨fun | 6 => 54 | 15 => 67 | 14 => 66 | 28 => 80 | 29 => 81 | 20 => 72 | 21 => 73 | 22 => 74 | 23 => 75 | 24 => 76 | 25 => 77 | 26 => 78 | 27 => 79 | 46 => 85 | 47 => 86 | 48 => 87 | 49 => 88 | 50 => 89 | 57 => 99 | n => n, fun | 22 => 33 | 24 => 44 | 25 => 84 | 3 => 3 | 39 => 31 | 0 => 0 | 53 => 113 | 55 => 115 | 4 => 4 | 46 => 106 | 45 => 105 | 50 => 110 | 5 => 5 | 9 => 9 | 66 => 119 | 70 => 123 | 76 => 131 | 77 => 132 | n => n, fun | n => n⟩
theorem Try.sortT : Go.Proofs.SlLaysF0.n6 Try.prog Try.sortT_ren := {
  mixed := by kernel_rfl
  f6 := ⟨Try.f54.name, by decide, Try.func54.trans (congrArg some (by kernel_rfl))⟩
  f14 := ⟨Try.f66.name, by decide, Try.func66.trans (congrArg some (by kernel_rfl))⟩
  f15 := Try.func67.trans (congrArg some (by kernel_rfl))
  f20 := ⟨Try.f72.name, by decide, Try.func72.trans (congrArg some (by kernel_rfl))⟩
  f21 := ⟨Try.f73.name, by decide, Try.func73.trans (congrArg some (by kernel_rfl))⟩
  f22 := ⟨Try.f74.name, by decide, Try.func74.trans (congrArg some (by kernel_rfl))⟩
  f23 := ⟨Try.f75.name, by decide, Try.func75.trans (congrArg some (by kernel_rfl))⟩
  f24 := ⟨Try.f76.name, by decide, Try.func76.trans (congrArg some (by kernel_rfl))⟩
  f25 := ⟨Try.f77.name, by decide, Try.func77.trans (congrArg some (by kernel_rfl))⟩
  f26 := ⟨Try.f78.name, by decide, Try.func78.trans (congrArg some (by kernel_rfl))⟩
  f27 := ⟨Try.f79.name, by decide, Try.func79.trans (congrArg some (by kernel_rfl))⟩
  f28 := Try.func80.trans (congrArg some (by kernel_rfl))
  f29 := Try.func81.trans (congrArg some (by kernel_rfl))
  f46 := ⟨Try.f85.name, by decide, Try.func85.trans (congrArg some (by kernel_rfl))⟩
  f47 := Try.func86.trans (congrArg some (by kernel_rfl))
  f48 := Try.func87.trans (congrArg some (by kernel_rfl))
  f49 := ⟨Try.f88.name, by decide, Try.func88.trans (congrArg some (by kernel_rfl))⟩
  f50 := ⟨Try.f89.name, by decide, Try.func89.trans (congrArg some (by kernel_rfl))⟩
  f57 := ⟨Try.f99.name, by decide, Try.func99.trans (congrArg some (by kernel_rfl))⟩
  t0 := Try.underlying0
  a0 := Try.isAgg0
  z0 := Try.sizeOf0
  v0 := Try.zeroValue0
  t3 := Try.underlying3
  a3 := Try.isAgg3
  z3 := Try.sizeOf3
  v3 := Try.zeroValue3
  t4 := Try.underlying4
  a4 := Try.isAgg4
  z4 := Try.sizeOf4
  v4 := Try.zeroValue4
  t5 := Try.underlying5
  a5 := Try.isAgg5
  z5 := Try.sizeOf5
  v5 := Try.zeroValue5
  t9 := Try.underlying9
  a9 := Try.isAgg9
  z9 := Try.sizeOf9
  v9 := Try.zeroValue9
  t22 := Try.underlying33
  a22 := Try.isAgg33
  z22 := Try.sizeOf33
  v22 := Try.zeroValue33
  t25 := Try.underlying84
  a25 := Try.isAgg84
  z25 := Try.sizeOf84
  v25 := Try.zeroValue84
  t39 := Try.underlying31
  a39 := Try.isAgg31
  z39 := Try.sizeOf31
  v39 := Try.zeroValue31
  t45 := Try.underlying105
  a45 := Try.isAgg105
  z45 := Try.sizeOf105
  v45 := Try.zeroValue105
  t46 := Try.underlying106
  a46 := Try.isAgg106
  z46 := Try.sizeOf106
  v46 := Try.zeroValue106
  t50 := Try.underlying110
  a50 := Try.isAgg110
  z50 := Try.sizeOf110
  v50 := Try.zeroValue110
  t53 := Try.underlying113
  a53 := Try.isAgg113
  z53 := Try.sizeOf113
  v53 := Try.zeroValue113
  t55 := Try.underlying115
  a55 := Try.isAgg115
  z55 := Try.sizeOf115
  v55 := Try.zeroValue115
  t66 := Try.underlying119
  a66 := Try.isAgg119
  z66 := Try.sizeOf119
  v66 := Try.zeroValue119
  t70 := Try.underlying123
  a70 := Try.isAgg123
  z70 := Try.sizeOf123
  v70 := Try.zeroValue123
  t76 := Try.underlying131
  a76 := Try.isAgg131
  z76 := Try.sizeOf131
  v76 := Try.zeroValue131
  t77 := Try.underlying132
  a77 := Try.isAgg132
  z77 := Try.sizeOf132
  v77 := Try.zeroValue132 }
end Go.Proofs
namespace Go.Proofs.Ytocnhikohfkcaaa
open Go.RowKit Go.Shelf Go.Lib Go.Sort

/-- triples of any numbers, as they lie in memory -/
def zc3 (t : Z3) : List Value := [.int .i64 t.1, .int .i64 t.2.1, .int .i64 t.2.2]
def zcells (l : List Z3) : List Value := l.flatMap zc3
theorem zcells_of (l : List N3) : zcells (l.map zc) = tcells l := by
  unfold zcells tcells
  induction l with
  | nil => rfl
  | cons t l ih => rw [List.map_cons, List.flatMap_cons, List.flatMap_cons, ih]; rfl
theorem flat_get {α : Type} [Inhabited α] (enc : α → List Value) (k : Nat) (hk : ∀ x, (enc x).length = k) (hk0 : 0 < k) : ∀ (l : List α) (t : Nat), t < l.length * k → (l.flatMap enc)[t]? = some (enc (l[t / k]?.getD default))[t % k]!
  | [], t, h => by simp at h
  | x :: l, t, h => by
    rw [List.flatMap_cons]
    by_cases ht : t < k
    · rw [List.getElem?_append_left (by rw [hk]; exact ht), Nat.div_eq_of_lt ht, Nat.mod_eq_of_lt ht]
      have : t < (enc x).length := by rw [hk]; exact ht
      rw [List.getElem?_eq_getElem this]
      simp [getElem!_pos, this]
    · rw [List.getElem?_append_right (by rw [hk]; omega), hk]
      have h1 : t - k < l.length * k := by
        rw [List.length_cons, Nat.add_mul, Nat.one_mul] at h
        omega
      rw [flat_get enc k hk hk0 l (t - k) h1]
      have e1 : t / k = (t - k) / k + 1 := by
        have : t = (t - k) + k := by omega
        rw [this, Nat.add_div_right _ hk0]; simp
      have e2 : t % k = (t - k) % k := by
        have : t = (t - k) + k := by omega
        rw [this, Nat.add_mod_right]; simp
      rw [e1, e2, List.getElem?_cons_succ]
theorem flatK_list {α : Type} [Inhabited α] (enc : α → List Value) (k : Nat) (hk : ∀ x, (enc x).length = k) (hk0 : 0 < k) (d : Array α) : (flatK enc k d).toList = d.toList.flatMap enc := by
  have hl : (d.toList.flatMap enc).length = d.size * k := by
    rw [List.length_flatMap]
    have : ∀ l : List α, (l.map fun a => (enc a).length).sum = l.length * k := by
      intro l
      induction l with
      | nil => simp
      | cons a l ih => rw [List.map_cons, List.sum_cons, ih, hk, List.length_cons, Nat.add_mul, Nat.one_mul, Nat.add_comm]
    rw [this]; simp
  refine List.ext_getElem? fun t => ?_
  by_cases ht : t < d.size * k
  · rw [flat_get enc k hk hk0 d.toList t (by simpa using ht)]
    have h1 : t < (flatK enc k d).size := by rw [size_flatK]; exact ht
    have h2 := get_flatK enc k d t ht
    rw [getElem!_pos _ t h1] at h2
    have hdk : t / k < d.size := by rw [Nat.div_lt_iff_lt_mul hk0]; exact ht
    rw [Array.getElem?_toList, Array.getElem?_eq_getElem h1, h2]
    congr 2
    rw [getElem!_pos d _ hdk]
    simp [hdk]
  · rw [List.getElem?_eq_none (by simp; omega), List.getElem?_eq_none (by omega)]
theorem heap_sorted_any {α : Type} [Inhabited α] (enc : α → Value) {w : World} {g o n : Nat} {os : Array Obj} {cur : Array Value} {e : TypeId} {fr : Nat × Nat} (d : Array α) (hb : w.heap[g]? = some (.cells cur e fr)) :
    (sortWorld enc w g o n d os).heap[g]? = some (.cells (putCells enc o d cur) e fr) := by
  have hg : g < w.heap.size := (Array.getElem?_eq_some_iff.1 hb).1
  unfold sortWorld
  rw [heap_grow_old _ _ (by simpa using hg)]
  simp [putRow, mapBlock, Sort.ahead, Array.getElem?_modify, hb, onCells]
theorem ag_sorted {α : Type} [Inhabited α] (enc : α → Value) (w : World) (g o n : Nat) (os : Array Obj) (d : Array α) : Ag (· = g) w (sortWorld enc w g o n d os) := by
  unfold sortWorld
  refine ⟨rfl, rfl, rfl, by simp, fun k hk hne => ?_⟩
  rw [heap_grow_old _ _ (by simpa using hk)]
  have : g ≠ k := fun e => hne e.symm
  simp [putRow, mapBlock, Sort.ahead, Array.getElem?_modify, this]
theorem qrow_sortedK {w : World} {base g o n cap k sz : Nat} {e : TypeId} {os : Array Obj} {xs : List Value} (d : Array Value) (hd : d.size = k * sz) (h : QRow w base e sz (.slice (some ⟨g, o, none⟩) k cap) k xs) :
    QRow (sortWorld id w g o n d os) base e sz (.slice (some ⟨g, o, none⟩) k cap) k d.toList := by
  refine ⟨by simp [hd], .inr ?_⟩
  rcases h.2 with ⟨e0, _⟩ | ⟨g', o', cap', cur, e1, hb, hg, h1, h2, h3, h4⟩
  · cases e0
  · cases e1
    refine ⟨g, o, cap, _, rfl, hb, heap_sorted_any id d hg, h1, h2, by simpa [putCells] using h3, fun j hj => ?_⟩
    have hkc : k * sz ≤ cap * sz := Nat.mul_le_mul_right sz h1
    have hjc : o + j < cur.size := by omega
    have hjd : j < d.size := by omega
    simp [putCells, hjc, hjd]
def cf3 (a b : Z3) : Int := if lt3 a b then -1 else if lt3 b a then 1 else 0
theorem ltOf_cf3 (a b : Z3) : ltOf cf3 a b = lt3 a b := by
  unfold ltOf cf3
  cases h : lt3 a b with
  | true => simp
  | false => cases lt3 b a <;> simp
theorem swo3 : SWO (ltOf cf3) where
  irrefl x := by rw [ltOf_cf3]; exact lt3_irr x
  trans x y z h1 h2 := by
    rw [ltOf_cf3] at *
    rw [lt3_iff] at *
    omega
  ntrans x y z h1 h2 := by
    rw [ltOf_cf3] at *
    have h1' : ¬ lt3 x y = true := by rw [h1]; simp
    have h2' : ¬ lt3 y z = true := by rw [h2]; simp
    cases e : lt3 x z with
    | false => rfl
    | true =>
      rw [lt3_iff] at *
      omega
theorem cmpL_cf3 (a b : Z3) : cmpL [a.1, a.2.1, a.2.2] [b.1, b.2.1, b.2.2] = cf3 a b := by
  obtain ⟨a1, a2, a3⟩ := a
  obtain ⟨b1, b2, b3⟩ := b
  unfold cf3 lt3
  simp only [cmpL, cmpI]
  by_cases h1 : a1 < b1 <;> by_cases h2 : b1 < a1 <;> by_cases h3 : a2 < b2 <;> by_cases h4 : b2 < a2 <;> by_cases h5 : a3 < b3 <;> by_cases h6 : b3 < a3 <;> simp [h1, h2, h3, h4, h5, h6] <;> omega
end Go.Proofs.Ytocnhikohfkcaaa
namespace Go.Proofs.Ytocnhikohfkcaaa
open Go.RowKit Go.Shelf Go.Lib Go.Sort

def ZRow (W : World) (base : Nat) (v : Value) (l : List Z3) : Prop := QRow W base 44 3 v l.length (zcells l)
theorem TRow3.z {W : World} {base : Nat} {v : Value} {l : List N3} (h : TRow3 W base v l) : ZRow W base v (l.map zc) := by
  unfold ZRow
  rw [List.length_map, zcells_of]
  exact h
theorem zc3_len (t : Z3) : (zc3 t).length = 3 := rfl
theorem zcells_len (l : List Z3) : (zcells l).length = l.length * 3 := by
  unfold zcells
  rw [List.length_flatMap]
  induction l with
  | nil => rfl
  | cons a l ih => rw [List.map_cons, List.sum_cons, ih, zc3_len, List.length_cons, Nat.add_mul, Nat.one_mul, Nat.add_comm]
theorem zcells_get (l : List Z3) (i : Nat) (hi : i < l.length) : (zcells l)[i * 3]? = some (.int .i64 (l[i]).1) ∧ (zcells l)[i * 3 + 1]? = some (.int .i64 (l[i]).2.1) ∧ (zcells l)[i * 3 + 2]? = some (.int .i64 (l[i]).2.2) := by
  have key : ∀ j, j < 3 → (zcells l)[i * 3 + j]? = some (zc3 l[i])[j]! := fun j hj => by
    have := flat_get zc3 3 zc3_len (by decide) l (i * 3 + j) (by omega)
    rw [show (i * 3 + j) / 3 = i by omega, show (i * 3 + j) % 3 = j by omega, List.getElem?_eq_getElem hi] at this
    exact this
  exact ⟨key 0 (by decide), key 1 (by decide), key 2 (by decide)⟩
set_option maxRecDepth 100000 in
theorem ordc_any (a b : Z3) (w : World) :
    Calls Try.prog 55 #[.agg (zc3 a).toArray, .agg (zc3 b).toArray] w fun e w' => e = .returned (.int .i64 (cf3 a b)) ∧ ∃ q os', w' = grow (w.drewN q) os' := by
  have hb1 : BoxN (w.alloc (.cells #[.int .i64 a.1, .int .i64 a.2.1, .int .i64 a.2.2] 44)) w.heap.size 44 #[.int .i64 a.1, .int .i64 a.2.1, .int .i64 a.2.2] := BoxN.new rfl
  have HB1 := Lib.hid (hb1.alloc (.cells #[.int .i64 b.1, .int .i64 b.2.1, .int .i64 b.2.2] 44))
  have HB2 : Hid (BoxN ((w.alloc (.cells #[.int .i64 a.1, .int .i64 a.2.1, .int .i64 a.2.2] 44)).alloc (.cells #[.int .i64 b.1, .int .i64 b.2.1, .int .i64 b.2.2] 44)) (w.heap.size + 1) 44 #[.int .i64 b.1, .int .i64 b.2.1, .int .i64 b.2.2]) := BoxN.new (by simp)
  have HG : Hid (∃ os', ((w.alloc (.cells #[.int .i64 a.1, .int .i64 a.2.1, .int .i64 a.2.2] 44)).alloc (.cells #[.int .i64 b.1, .int .i64 b.2.1, .int .i64 b.2.2] 44)) = grow w os') := ⟨_, by rw [alloc_eq_grow, alloc_eq_grow, grow_grow]⟩
  clear hb1
  have HCM : Hid (∀ q, Calls Try.prog 56 #[.slice (some ⟨w.heap.size, 0, none⟩) 3 3, .slice (some ⟨w.heap.size + 1, 0, none⟩) 3 3] (((w.alloc (.cells #[.int .i64 a.1, .int .i64 a.2.1, .int .i64 a.2.2] 44)).alloc (.cells #[.int .i64 b.1, .int .i64 b.2.1, .int .i64 b.2.2] 44)).drewN q) fun e w' => e = .returned (.int .i64 (cf3 a b)) ∧ w' = (((w.alloc (.cells #[.int .i64 a.1, .int .i64 a.2.1, .int .i64 a.2.2] 44)).alloc (.cells #[.int .i64 b.1, .int .i64 b.2.1, .int .i64 b.2.2] 44)).drewN q)) := fun q => by
    have h1 : BoxN (((w.alloc (.cells #[.int .i64 a.1, .int .i64 a.2.1, .int .i64 a.2.2] 44)).alloc (.cells #[.int .i64 b.1, .int .i64 b.2.1, .int .i64 b.2.2] 44)).drewN q) w.heap.size 44 #[.int .i64 a.1, .int .i64 a.2.1, .int .i64 a.2.2] := HB1.out
    have h2 : BoxN (((w.alloc (.cells #[.int .i64 a.1, .int .i64 a.2.1, .int .i64 a.2.2] 44)).alloc (.cells #[.int .i64 b.1, .int .i64 b.2.1, .int .i64 b.2.2] 44)).drewN q) (w.heap.size + 1) 44 #[.int .i64 b.1, .int .i64 b.2.1, .int .i64 b.2.2] := HB2.out
    have := compareL_any w.heap.size 0 (w.heap.size + 1) 0 3 3 [a.1, a.2.1, a.2.2] [b.1, b.2.1, b.2.2] _ 3 rfl rfl (by decide) (fun j hj => by
      rw [Nat.zero_add, h1.cell j]
      rcases (show j = 0 ∨ j = 1 ∨ j = 2 by omega) with rfl | rfl | rfl <;> rfl) (fun j hj => by
      rw [Nat.zero_add, h2.cell j]
      rcases (show j = 0 ∨ j = 1 ∨ j = 2 by omega) with rfl | rfl | rfl <;> rfl)
    rw [cmpL_cf3] at this
    exact this
  clear HB1 HB2
  unfold zc3
  go_enter Try.func55, Try.ntmps55
  go_wp2
  go_quiet ((go_at_call 56; exact Calls.quiet_of_same (HCM.out _)))
  go_wp2
  go_ret
  obtain ⟨os', hos⟩ := HG.out
  exact ⟨rfl, nq, os', by rw [hos]; rfl⟩
/-- the sort at triples -/
theorem sortT_q (W : World) (base : Nat) (v : Value) (l : List Z3) (h : ZRow W base v l) (hn : l.length ≤ 1099511627776) :
    Calls Try.prog 54 #[v, .func (.func 55) #[] #[]] W fun e w' => e = .returned (.tuple #[]) ∧ (∃ ys : List Z3, ys.Perm l ∧ ys.Pairwise (fun a b => lt3 b a = false) ∧ ZRow w' base v ys) ∧ Ag (fun k => v.ownBlock = some k) W w' := by
  unfold ZRow at h
  by_cases h0 : l.length = 0
  · obtain ⟨p, c, rfl⟩ := h.isSlice
    have hS := AnyF.slices_SortFunc_none (P := Try.prog) (ρ := Try.sortT_ren) { Try.sortT with } p c (.func (.func 55) #[] #[]) W
    change Calls Try.prog 54 _ _ _ at hS
    have hx : l = [] := List.length_eq_zero_iff.1 h0
    subst hx
    refine hS.mono ?_
    rintro e w' ⟨rfl, rfl⟩
    exact ⟨rfl, ⟨[], List.Perm.refl _, List.Pairwise.nil, h⟩, Ag.refl _ _⟩
  · obtain ⟨b, o, cap, rfl, hb, hblt, hnc, hcm, hc, hf⟩ := h.at (by omega)
    have hds : l.toArray.size = l.length := by simp
    have hfl := flatK_list zc3 3 zc3_len (by decide) l.toArray
    have hH : HoldsK zc3 3 W b o l.toArray := fun j hj => by
      rw [size_flatK, hds] at hj
      refine ⟨?_, hf _⟩
      rw [hc j hj]
      have hj2 : j < (flatK zc3 3 l.toArray).size := by rw [size_flatK, hds]; exact hj
      rw [show zcells l = (flatK zc3 3 l.toArray).toList by rw [hfl]; rfl, Array.getElem?_toList, Array.getElem?_eq_getElem hj2, getElem!_pos _ j hj2]
      rfl
    have eg : ∀ args w, (callFunc 55 args).run Try.prog w = .ok (.enter 55 args) w := enters_of Try.func55 (by kernel_rfl) rfl
    have hS := AnyQ.slices_SortFunc Try.sortT 3 Try.isAgg44 Try.sizeOf44 zc3 zc3_len (fun x v hv => by unfold zc3 at hv; simp at hv; rcases hv with rfl | rfl | rfl <;> rfl) cf3 swo3 55 #[] b o cap l.toArray W eg (fun m os dk _ x y => ordc_any x y _) hH hblt (by rw [hds]; omega)
    change Calls Try.prog 54 _ _ _ at hS
    rw [hds] at hS
    refine hS.mono ?_
    rintro e w' ⟨rfl, d', n, os, ⟨hp1, hp2, hp3⟩, hs, rfl⟩
    have hd' : d'.size = l.length := by rw [hp1, hds]
    have hperm : d'.toList.Perm l := by
      have e1 : (d'.extract 0 l.length).toList = d'.toList := by rw [← hd', Array.extract_size]
      have e2 : (l.toArray.extract 0 l.length).toList = l := by
        rw [show l.length = l.toArray.size by simp, Array.extract_size]
      rw [e1, e2] at hp3
      exact hp3
    have hq := qrow_sortedK (n := n) (os := os) (flatK zc3 3 d') (by rw [size_flatK, hd']) h
    rw [flatK_list zc3 3 zc3_len (by decide) d'] at hq
    refine ⟨rfl, ⟨d'.toList, hperm, ?_, ?_⟩, (ag_sorted id W b o n os (flatK zc3 3 d')).mono fun k hk => by subst hk; rfl⟩
    · rw [List.pairwise_iff_getElem]
      intro i j hi hj hij
      have hj' : j < d'.size := by simpa using hj
      have := hs i j (Nat.zero_le _) hij (by omega)
      rw [getElem!_pos _ j hj', getElem!_pos _ i (by omega), ltOf_cf3] at this
      simpa using this
    · unfold ZRow
      rw [show d'.toList.length = l.length by simp [hd']]
      exact hq
set_option maxRecDepth 100000 in
theorem cloneT_any (p : Option Addr) (c : Nat) (l : List Z3) (w : World) (hn : l.length ≤ 1000) (hc : l.length ≤ c) (hS : Src w p l.length 3 (zcells l)) (hb : ∀ a, p = some a → a.block < w.heap.size) :
    Calls Try.prog 53 #[.slice p l.length c] w fun e w' => (∃ v, e = .returned v ∧ ZRow w' w.heap.size v l) ∧ Below w.heap.size w w' := by
  obtain ⟨i0, hi0, hz0, hz1, hz2⟩ := info_parts infoT
  have hE : ∀ W (p : Option Addr) (m c : Nat), (binOp .eql 33 (.slice p m c) (.slice none 0 0)).run Try.prog W = .ok (.bool p.isNone) W := fun W p m c => Go.Lib.run_eql_slice_nil W 33 44 p m c 0 0 Try.underlying33
  cases p with
  | none =>
    have h0 : l = [] := by
      refine List.length_eq_zero_iff.1 (Classical.byContradiction fun h => ?_)
      obtain ⟨ad, e, _⟩ := hS.2 h
      cases e
    subst h0
    go_enter Try.func53, Try.ntmps53
    go_wp2
    go_ret
    exact ⟨⟨_, rfl, QRow.nil _ _ _ _⟩, Below.refl _ _⟩
  | some a =>
    have HQ0 := Lib.hid (qrow_empty w 44 3 (Nat.le_refl w.heap.size))
    have HB0 : Hid (Below w.heap.size w (w.alloc (.cells #[] 44))) := (Below.refl _ _).alloc (Nat.le_refl _) _
    have HSZ : Hid ((w.alloc (.cells #[] 44)).heap.size = w.heap.size + 1) := by unfold Hid; simp
    have HS0 : Hid (Src (w.alloc (.cells #[] 44)) (some a) l.length 3 (zcells l)) := ⟨hS.1, fun hm => by
      obtain ⟨ad, e, h2⟩ := hS.2 hm
      refine ⟨ad, e, fun j u hu => ?_⟩
      have hlt := hb ad e
      have h3 := h2 j u hu
      have hblk : (ad.add j).block = ad.block := by unfold Addr.add; split <;> rfl
      exact (HB0.out.cell (p := ad.add j) (by rw [hblk]; exact hlt)).trans h3⟩
    have HO0 : Hid (∀ u ∈ zcells l, u.oneCell' = true) := fun u hu => by
      obtain ⟨t, _, ht⟩ := List.mem_flatMap.1 hu
      unfold zc3 at ht
      simp at ht
      rcases ht with rfl | rfl | rfl <;> rfl
    obtain ⟨len, hlen⟩ : ∃ len, Hid (l.length = len) := ⟨_, rfl⟩
    rw [hlen.out] at HS0 hn ⊢
    clear hS hb hc
    go_enter Try.func53, Try.ntmps53
    go_wp2_with (at_builtin; go_must (refine wpList_append_qq _ rfl (.tmp 5) (.tmp 6) 33 rfl w.heap.size 44 i0 _ 3 24 underT hi0 hz0 hz1 hz2 rfl (by decide) _ 0 [] rfl HQ0.out (some a) len c (zcells l) rfl HS0.out HO0.out (by unfold maxLen; omega) (by omega) (by rw [HSZ.out]; omega) ?_); intro v6 w6 hq6 hg6 ho6; rw [Nat.zero_add, List.nil_append] at hq6; have HQ6 := Lib.hid hq6; have HB6 : Hid (Below w.heap.size w w6) := Below.grown HB0.out hg6 (by rw [HSZ.out]; omega) (fun kk e => by cases e; exact Nat.le_refl _); clear hq6 hg6 ho6)
    go_ret
    refine ⟨⟨_, rfl, ?_⟩, HB6.out⟩
    unfold ZRow
    rw [hlen.out]
    exact HQ6.out
set_option maxRecDepth 100000 in
/-- a copy, put in order -/
theorem ordered_any (p : Option Addr) (c : Nat) (l : List Z3) (w : World) (hn : l.length ≤ 1000) (hc : l.length ≤ c) (hS : Src w p l.length 3 (zcells l)) (hb : ∀ a, p = some a → a.block < w.heap.size) :
    Calls Try.prog 38 #[.slice p l.length c] w fun e w' => (∃ q d ys, e = .returned (.slice q l.length d) ∧ ys.Perm l ∧ ys.Pairwise (fun a b => lt3 b a = false) ∧ ZRow w' w.heap.size (.slice q l.length d) ys) ∧ Below w.heap.size w w' := by
  have HC := Lib.hid (cloneT_any p c l w hn hc hS hb)
  have hn' := hn
  obtain ⟨len, hlen⟩ : ∃ len, Hid (l.length = len) := ⟨_, rfl⟩
  have HLL : Hid (l.length ≤ 1099511627776) := by unfold Hid; omega
  rw [hlen.out] at HC ⊢
  clear hS hb hc hn hn'
  go_enter Try.func38, Try.ntmps38
  go_upto_region 2 with (go_at_call 53; refine HC.out.mono ?_; rintro e w1 ⟨⟨v1, rfl, hz1⟩, hB1⟩; have HS1 := Lib.hid (sortT_q w1 _ v1 l hz1 HLL.out); have HZ1 := Lib.hid hz1; have HB1 := Lib.hid hB1; clear hz1 hB1)
  go_wp2_with (go_at_call 54; refine HS1.out.mono ?_; rintro e w2 ⟨rfl, ⟨ys, hp, hs, hz2⟩, hA⟩; have HP := Lib.hid hp; have HS := Lib.hid hs; have HZ2 := Lib.hid hz2; have HA := Lib.hid hA; clear hp hs hz2 hA)
  have hly : ys.length = len := by rw [HP.out.length_eq, hlen.out]
  have hq2 := HZ2.out
  unfold ZRow at hq2
  rw [hly] at hq2
  obtain ⟨q, d, rfl⟩ := hq2.isSlice
  go_ret
  exact ⟨⟨q, d, ys, rfl, HP.out, HS.out, HZ2.out⟩, HA.out.below HB1.out HB1.out.size (fun k hk e => by have := ((show QRow w1 _ _ _ _ _ _ from HZ1.out).lt k e).1; omega)⟩
end Go.Proofs.Ytocnhikohfkcaaa
