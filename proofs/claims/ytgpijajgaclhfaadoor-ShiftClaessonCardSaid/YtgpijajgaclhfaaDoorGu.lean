/- slices.SortFunc by its contract off the shelf, at a list of numbers. -/
import Derived.Test.YtgpijajgaclhfaaDoorProg
import Derived.Test.YtgpijajgaclhfaaDoorG1108
import Derived.Shelf.SlSortCmp.NoneTotal
import Derived.Ground.SlsfProg
import Derived.WalkKit
set_option linter.unusedVariables false
set_option linter.unusedSimpArgs false
namespace Go.Proofs
open Go.Shelf
def Tryd.sortF_ren : Go.Shelf.Ren := ⟨fun | 6 => 52 | 15 => 74 | 14 => 73 | 28 => 95 | 29 => 96 | 20 => 87 | 21 => 88 | 22 => 89 | 23 => 90 | 24 => 91 | 25 => 92 | 26 => 93 | 27 => 94 | 46 => 103 | 47 => 104 | 48 => 105 | 49 => 106 | 50 => 107 | 57 => 108 | n => n, fun | 22 => 28 | 24 => 3 | 25 => 79 | 3 => 3 | 39 => 56 | 0 => 0 | 53 => 127 | 55 => 129 | 4 => 4 | 46 => 120 | 45 => 119 | 50 => 124 | 5 => 5 | 9 => 9 | 66 => 131 | 70 => 135 | 76 => 139 | 77 => 33 | n => n, fun | n => n⟩
theorem Tryd.sortF : Go.Proofs.SlLaysF.n6 Tryd.prog Tryd.sortF_ren := {
  mixed := by kernel_rfl
  f6 := ⟨Tryd.f52.name, by decide, Tryd.func52.trans (congrArg some (by kernel_rfl))⟩
  f14 := ⟨Tryd.f73.name, by decide, Tryd.func73.trans (congrArg some (by kernel_rfl))⟩
  f15 := Tryd.func74.trans (congrArg some (by kernel_rfl))
  f20 := ⟨Tryd.f87.name, by decide, Tryd.func87.trans (congrArg some (by kernel_rfl))⟩
  f21 := ⟨Tryd.f88.name, by decide, Tryd.func88.trans (congrArg some (by kernel_rfl))⟩
  f22 := ⟨Tryd.f89.name, by decide, Tryd.func89.trans (congrArg some (by kernel_rfl))⟩
  f23 := ⟨Tryd.f90.name, by decide, Tryd.func90.trans (congrArg some (by kernel_rfl))⟩
  f24 := ⟨Tryd.f91.name, by decide, Tryd.func91.trans (congrArg some (by kernel_rfl))⟩
  f25 := ⟨Tryd.f92.name, by decide, Tryd.func92.trans (congrArg some (by kernel_rfl))⟩
  f26 := ⟨Tryd.f93.name, by decide, Tryd.func93.trans (congrArg some (by kernel_rfl))⟩
  f27 := ⟨Tryd.f94.name, by decide, Tryd.func94.trans (congrArg some (by kernel_rfl))⟩
  f28 := Tryd.func95.trans (congrArg some (by kernel_rfl))
  f29 := Tryd.func96.trans (congrArg some (by kernel_rfl))
  f46 := ⟨Tryd.f103.name, by decide, Tryd.func103.trans (congrArg some (by kernel_rfl))⟩
  f47 := Tryd.func104.trans (congrArg some (by kernel_rfl))
  f48 := Tryd.func105.trans (congrArg some (by kernel_rfl))
  f49 := ⟨Tryd.f106.name, by decide, Tryd.func106.trans (congrArg some (by kernel_rfl))⟩
  f50 := ⟨Tryd.f107.name, by decide, Tryd.func107.trans (congrArg some (by kernel_rfl))⟩
  f57 := ⟨Tryd.f108.name, by decide, Tryd.func108.trans (congrArg some (by kernel_rfl))⟩
  t0 := Tryd.underlying0
  a0 := Tryd.isAgg0
  z0 := Tryd.sizeOf0
  v0 := Tryd.zeroValue0
  t3 := Tryd.underlying3
  a3 := Tryd.isAgg3
  z3 := Tryd.sizeOf3
  v3 := Tryd.zeroValue3
  t4 := Tryd.underlying4
  a4 := Tryd.isAgg4
  z4 := Tryd.sizeOf4
  v4 := Tryd.zeroValue4
  t5 := Tryd.underlying5
  a5 := Tryd.isAgg5
  z5 := Tryd.sizeOf5
  v5 := Tryd.zeroValue5
  t9 := Tryd.underlying9
  a9 := Tryd.isAgg9
  z9 := Tryd.sizeOf9
  v9 := Tryd.zeroValue9
  t22 := Tryd.underlying28
  a22 := Tryd.isAgg28
  z22 := Tryd.sizeOf28
  v22 := Tryd.zeroValue28
  a24 := Tryd.isAgg3
  z24 := Tryd.sizeOf3
  t25 := Tryd.underlying79
  a25 := Tryd.isAgg79
  z25 := Tryd.sizeOf79
  v25 := Tryd.zeroValue79
  t39 := Tryd.underlying56
  a39 := Tryd.isAgg56
  z39 := Tryd.sizeOf56
  v39 := Tryd.zeroValue56
  t45 := Tryd.underlying119
  a45 := Tryd.isAgg119
  z45 := Tryd.sizeOf119
  v45 := Tryd.zeroValue119
  t46 := Tryd.underlying120
  a46 := Tryd.isAgg120
  z46 := Tryd.sizeOf120
  v46 := Tryd.zeroValue120
  t50 := Tryd.underlying124
  a50 := Tryd.isAgg124
  z50 := Tryd.sizeOf124
  v50 := Tryd.zeroValue124
  t53 := Tryd.underlying127
  a53 := Tryd.isAgg127
  z53 := Tryd.sizeOf127
  v53 := Tryd.zeroValue127
  t55 := Tryd.underlying129
  a55 := Tryd.isAgg129
  z55 := Tryd.sizeOf129
  v55 := Tryd.zeroValue129
  t66 := Tryd.underlying131
  a66 := Tryd.isAgg131
  z66 := Tryd.sizeOf131
  v66 := Tryd.zeroValue131
  t70 := Tryd.underlying135
  a70 := Tryd.isAgg135
  z70 := Tryd.sizeOf135
  v70 := Tryd.zeroValue135
  t76 := Tryd.underlying139
  a76 := Tryd.isAgg139
  z76 := Tryd.sizeOf139
  v76 := Tryd.zeroValue139
  t77 := Tryd.underlying33
  a77 := Tryd.isAgg33
  z77 := Tryd.sizeOf33
  v77 := Tryd.zeroValue33 }
end Go.Proofs
namespace Go.Proofs.YtgpijajgaclhfaaDoor
open Go.RowKit Go.Shelf Go.Lib Go.Sort

theorem heap_sorted_any {α : Type} [Inhabited α] (enc : α → Value) {w : World} {g o n : Nat} {os : Array Obj} {cur : Array Value} {e : TypeId} {fr : Nat × Nat} (d : Array α) (hb : w.heap[g]? = some (.cells cur e fr)) :
    (sortWorld enc w g o n d os).heap[g]? = some (.cells (putCells enc o d cur) e fr) := by
  have hg : g < w.heap.size := (Array.getElem?_eq_some_iff.1 hb).1
  unfold sortWorld
  rw [heap_grow_old _ _ (by simpa using hg)]
  simp [putRow, mapBlock, Sort.ahead, Array.getElem?_modify, hb, onCells]
theorem ag_sorted {α : Type} [Inhabited α] (enc : α → Value) (w : World) (g o n : Nat) (os : Array Obj) (d : Array α) : Ag (· = g) w (sortWorld enc w g o n d os) := by
  unfold sortWorld
  refine ⟨rfl, rfl, rfl, by simp, fun k hk hne => ?_⟩
  rw [heap_grow_old _ _ (by simpa using hk)]
  have : g ≠ k := fun e => hne e.symm
  simp [putRow, mapBlock, Sort.ahead, Array.getElem?_modify, this]
theorem qrow_sorted {α : Type} [Inhabited α] (enc : α → Value) {w : World} {base g o n cap k : Nat} {e : TypeId} {os : Array Obj} {xs : List Value} (d : Array α) (hd : d.size = k) (h : QRow w base e 1 (.slice (some ⟨g, o, none⟩) k cap) k xs) :
    QRow (sortWorld enc w g o n d os) base e 1 (.slice (some ⟨g, o, none⟩) k cap) k (d.toList.map enc) := by
  refine ⟨by simp [hd], .inr ?_⟩
  rcases h.2 with ⟨e0, _⟩ | ⟨g', o', cap', cur, e1, hb, hg, h1, h2, h3, h4⟩
  · cases e0
  · cases e1
    refine ⟨g, o, cap, _, rfl, hb, heap_sorted_any enc d hg, h1, h2, by simpa [putCells] using h3, fun j hj => ?_⟩
    rw [Nat.mul_one] at hj h3
    have hjc : o + j < cur.size := by omega
    have hjd : j < d.size := by omega
    simp [putCells, hjc, hjd]
/-- what the sort is told of the order, and what it leaves -/
theorem sortF_q (g : Nat) (cb : Array Value) (enc : Nat → Value) (h1 : OneCell enc) (cf : Nat → Nat → Int) (hO : SWO (ltOf cf)) (eg : ∀ args w, (callFunc g args).run Tryd.prog w = .ok (.enter g args) w) (W : World) (base : Nat) (v : Value) (xs : List Nat) (henc : ∀ x ∈ xs, enc x = .int .i64 (x : Int))
    (h : QRow W base 3 1 v xs.length (iv xs)) (hn : xs.length ≤ 1099511627776)
    (hcmp : xs.length ≠ 0 → ∀ W', Ag (fun k => v.ownBlock = some k) W W' → ∀ x y, Calls Tryd.prog g (#[enc x, enc y] ++ cb) W' fun e w' => e = .returned (.int .i64 (cf x y)) ∧ ∃ q, w' = W'.drewN q) :
    Calls Tryd.prog 52 #[v, .func (.func g) #[] cb] W fun e w' => e = .returned (.tuple #[]) ∧ (∃ ys : List Nat, ys.Perm xs ∧ (∀ i j, i < j → j < ys.length → ltOf cf (nth ys j) (nth ys i) = false) ∧ QRow w' base 3 1 v xs.length (iv ys)) ∧ Ag (fun k => v.ownBlock = some k) W w' := by
  by_cases h0 : xs.length = 0
  · obtain ⟨p, c, rfl⟩ := h.isSlice
    have hS := AnyF.slices_SortFunc_none (P := Tryd.prog) (ρ := Tryd.sortF_ren) { Tryd.sortF with } p c (.func (.func g) #[] cb) W
    change Calls Tryd.prog 52 _ _ _ at hS
    rw [h0] at h ⊢
    refine hS.mono ?_
    rintro e w' ⟨rfl, rfl⟩
    have hx : xs = [] := List.length_eq_zero_iff.1 h0
    subst hx
    exact ⟨rfl, ⟨[], List.Perm.refl _, fun i j _ hj => by simp at hj, h⟩, Ag.refl _ _⟩
  · obtain ⟨b, o, cap, rfl, hb, hblt, hnc, hcm, hc, hf⟩ := h.at (by omega)
    have hds : xs.toArray.size = xs.length := by simp
    have hH : Holds enc W b o xs.toArray := fun j hj => by
      have hj' : j < xs.length := by simpa using hj
      refine ⟨?_, hf _⟩
      rw [hc j (by omega), iv_get hj', getElem!_pos _ j hj]
      have : (xs.toArray[j]'hj) = nth xs j := by unfold nth; rw [List.getElem?_eq_getElem hj']; simp
      rw [this, henc _ (by unfold nth; rw [List.getElem?_eq_getElem hj']; exact List.getElem_mem hj')]
    have hS := Any.slices_SortFunc Tryd.sortF enc h1 cf hO g cb b o cap xs.toArray W eg (CmpReads.lays fun m os dk hdk x y => hcmp h0 _ ((ag_sorted enc W b o m os dk).mono fun k hk => by subst hk; rfl) x y) hH hblt (by rw [hds]; omega)
    change Calls Tryd.prog 52 _ _ _ at hS
    rw [hds] at hS
    refine hS.mono ?_
    rintro e w' ⟨rfl, d', n, os, ⟨hp1, hp2, hp3⟩, hs, rfl⟩
    have hd' : d'.size = xs.length := by rw [hp1, hds]
    have hperm : d'.toList.Perm xs := by
      have e1 : (d'.extract 0 xs.length).toList = d'.toList := by rw [← hd', Array.extract_size]
      have e2 : (xs.toArray.extract 0 xs.length).toList = xs := by
        rw [show xs.length = xs.toArray.size by simp, Array.extract_size]
      rw [e1, e2] at hp3
      exact hp3
    have hq := qrow_sorted enc (n := n) (os := os) d' hd' h
    have he2 : d'.toList.map enc = iv d'.toList := by
      unfold iv
      exact List.map_congr_left fun x hx => henc x (hperm.mem_iff.1 hx)
    rw [he2] at hq
    refine ⟨rfl, ⟨d'.toList, hperm, fun i j hij hj => ?_, hq⟩, (ag_sorted enc W b o n os d').mono fun k hk => by subst hk; rfl⟩
    have hj' : j < d'.size := by simpa using hj
    have := hs i j (Nat.zero_le _) hij (by omega)
    rw [getElem!_pos _ j hj', getElem!_pos _ i (by omega)] at this
    unfold nth
    rw [List.getElem?_eq_getElem hj, List.getElem?_eq_getElem (by simp; omega)]
    simpa using this
end Go.Proofs.YtgpijajgaclhfaaDoor
