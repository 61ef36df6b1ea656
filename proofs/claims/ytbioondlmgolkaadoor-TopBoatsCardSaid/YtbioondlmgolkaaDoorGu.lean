/- slices.SortFunc by its contract off the shelf, at a list of numbers. -/
import Derived.Test.YtbioondlmgolkaaDoorProg
import Derived.Shelf.SlSortCmp.NoneTotal
import Derived.Ground.SlsfProg
import Derived.WalkKit
import Derived.Test.YtbioondlmgolkaaDoorG308
set_option linter.unusedVariables false
set_option linter.unusedSimpArgs false
namespace Go.Proofs
open Go.Shelf
def Tryd.sortF_ren : Go.Shelf.Ren := ⟨fun | 6 => 14 | 15 => 26 | 14 => 25 | 28 => 45 | 29 => 46 | 20 => 37 | 21 => 38 | 22 => 39 | 23 => 40 | 24 => 41 | 25 => 42 | 26 => 43 | 27 => 44 | 46 => 51 | 47 => 52 | 48 => 53 | 49 => 54 | 50 => 55 | 57 => 57 | n => n, fun | 22 => 30 | 24 => 3 | 25 => 23 | 3 => 3 | 39 => 39 | 0 => 0 | 53 => 98 | 55 => 55 | 4 => 4 | 46 => 91 | 45 => 90 | 50 => 95 | 5 => 5 | 9 => 9 | 66 => 102 | 70 => 106 | 76 => 108 | 77 => 109 | n => n, fun | n => n⟩
theorem Tryd.sortF : Go.Proofs.SlLaysF.n6 Tryd.prog Tryd.sortF_ren := {
  mixed := by kernel_rfl
  f6 := ⟨Tryd.f14.name, by decide, Tryd.func14.trans (congrArg some (by kernel_rfl))⟩
  f14 := ⟨Tryd.f25.name, by decide, Tryd.func25.trans (congrArg some (by kernel_rfl))⟩
  f15 := Tryd.func26.trans (congrArg some (by kernel_rfl))
  f20 := ⟨Tryd.f37.name, by decide, Tryd.func37.trans (congrArg some (by kernel_rfl))⟩
  f21 := ⟨Tryd.f38.name, by decide, Tryd.func38.trans (congrArg some (by kernel_rfl))⟩
  f22 := ⟨Tryd.f39.name, by decide, Tryd.func39.trans (congrArg some (by kernel_rfl))⟩
  f23 := ⟨Tryd.f40.name, by decide, Tryd.func40.trans (congrArg some (by kernel_rfl))⟩
  f24 := ⟨Tryd.f41.name, by decide, Tryd.func41.trans (congrArg some (by kernel_rfl))⟩
  f25 := ⟨Tryd.f42.name, by decide, Tryd.func42.trans (congrArg some (by kernel_rfl))⟩
  f26 := ⟨Tryd.f43.name, by decide, Tryd.func43.trans (congrArg some (by kernel_rfl))⟩
  f27 := ⟨Tryd.f44.name, by decide, Tryd.func44.trans (congrArg some (by kernel_rfl))⟩
  f28 := Tryd.func45.trans (congrArg some (by kernel_rfl))
  f29 := Tryd.func46.trans (congrArg some (by kernel_rfl))
  f46 := ⟨Tryd.f51.name, by decide, Tryd.func51.trans (congrArg some (by kernel_rfl))⟩
  f47 := Tryd.func52.trans (congrArg some (by kernel_rfl))
  f48 := Tryd.func53.trans (congrArg some (by kernel_rfl))
  f49 := ⟨Tryd.f54.name, by decide, Tryd.func54.trans (congrArg some (by kernel_rfl))⟩
  f50 := ⟨Tryd.f55.name, by decide, Tryd.func55.trans (congrArg some (by kernel_rfl))⟩
  f57 := ⟨Tryd.f57.name, by decide, Tryd.func57.trans (congrArg some (by kernel_rfl))⟩
  t0 := Tryd.underlying0
  a0 := Tryd.isAgg0
  z0 := Tryd.sizeOf0
  v0 := Tryd.zeroValue0
  t3 := Tryd.underlying3
  a3 := Tryd.isAgg3
  z3 := Tryd.sizeOf3
  v3 := Tryd.zeroValue3
  t4 := Tryd.underlying4
  a4 := Tryd.isAgg4
  z4 := Tryd.sizeOf4
  v4 := Tryd.zeroValue4
  t5 := Tryd.underlying5
  a5 := Tryd.isAgg5
  z5 := Tryd.sizeOf5
  v5 := Tryd.zeroValue5
  t9 := Tryd.underlying9
  a9 := Tryd.isAgg9
  z9 := Tryd.sizeOf9
  v9 := Tryd.zeroValue9
  t22 := Tryd.underlying30
  a22 := Tryd.isAgg30
  z22 := Tryd.sizeOf30
  v22 := Tryd.zeroValue30
  a24 := Tryd.isAgg3
  z24 := Tryd.sizeOf3
  t25 := Tryd.underlying23
  a25 := Tryd.isAgg23
  z25 := Tryd.sizeOf23
  v25 := Tryd.zeroValue23
  t39 := Tryd.underlying39
  a39 := Tryd.isAgg39
  z39 := Tryd.sizeOf39
  v39 := Tryd.zeroValue39
  t45 := Tryd.underlying90
  a45 := Tryd.isAgg90
  z45 := Tryd.sizeOf90
  v45 := Tryd.zeroValue90
  t46 := Tryd.underlying91
  a46 := Tryd.isAgg91
  z46 := Tryd.sizeOf91
  v46 := Tryd.zeroValue91
  t50 := Tryd.underlying95
  a50 := Tryd.isAgg95
  z50 := Tryd.sizeOf95
  v50 := Tryd.zeroValue95
  t53 := Tryd.underlying98
  a53 := Tryd.isAgg98
  z53 := Tryd.sizeOf98
  v53 := Tryd.zeroValue98
  t55 := Tryd.underlying55
  a55 := Tryd.isAgg55
  z55 := Tryd.sizeOf55
  v55 := Tryd.zeroValue55
  t66 := Tryd.underlying102
  a66 := Tryd.isAgg102
  z66 := Tryd.sizeOf102
  v66 := Tryd.zeroValue102
  t70 := Tryd.underlying106
  a70 := Tryd.isAgg106
  z70 := Tryd.sizeOf106
  v70 := Tryd.zeroValue106
  t76 := Tryd.underlying108
  a76 := Tryd.isAgg108
  z76 := Tryd.sizeOf108
  v76 := Tryd.zeroValue108
  t77 := Tryd.underlying109
  a77 := Tryd.isAgg109
  z77 := Tryd.sizeOf109
  v77 := Tryd.zeroValue109 }
end Go.Proofs
namespace Go.Proofs.YtbioondlmgolkaaDoor
open Go.RowKit Go.Shelf Go.Lib Go.Sort

theorem heap_sorted_any {α : Type} [Inhabited α] (enc : α → Value) {w : World} {g o n : Nat} {os : Array Obj} {cur : Array Value} {e : TypeId} {fr : Nat × Nat} (d : Array α) (hb : w.heap[g]? = some (.cells cur e fr)) :
    (sortWorld enc w g o n d os).heap[g]? = some (.cells (putCells enc o d cur) e fr) := by
  have hg : g < w.heap.size := (Array.getElem?_eq_some_iff.1 hb).1
  unfold sortWorld
  rw [heap_grow_old _ _ (by simpa using hg)]
  simp [putRow, mapBlock, Sort.ahead, Array.getElem?_modify, hb, onCells]
theorem ag_sorted {α : Type} [Inhabited α] (enc : α → Value) (w : World) (g o n : Nat) (os : Array Obj) (d : Array α) : Ag (· = g) w (sortWorld enc w g o n d os) := by
  unfold sortWorld
  refine ⟨rfl, rfl, rfl, by simp, fun k hk hne => ?_⟩
  rw [heap_grow_old _ _ (by simpa using hk)]
  have : g ≠ k := fun e => hne e.symm
  simp [putRow, mapBlock, Sort.ahead, Array.getElem?_modify, this]
theorem qrow_sorted {α : Type} [Inhabited α] (enc : α → Value) {w : World} {base g o n cap k : Nat} {e : TypeId} {os : Array Obj} {xs : List Value} (d : Array α) (hd : d.size = k) (h : QRow w base e 1 (.slice (some ⟨g, o, none⟩) k cap) k xs) :
    QRow (sortWorld enc w g o n d os) base e 1 (.slice (some ⟨g, o, none⟩) k cap) k (d.toList.map enc) := by
  refine ⟨by simp [hd], .inr ?_⟩
  rcases h.2 with ⟨e0, _⟩ | ⟨g', o', cap', cur, e1, hb, hg, h1, h2, h3, h4⟩
  · cases e0
  · cases e1
    refine ⟨g, o, cap, _, rfl, hb, heap_sorted_any enc d hg, h1, h2, by simpa [putCells] using h3, fun j hj => ?_⟩
    rw [Nat.mul_one] at hj h3
    have hjc : o + j < cur.size := by omega
    have hjd : j < d.size := by omega
    simp [putCells, hjc, hjd]
/-- what the sort is told of the order, and what it leaves -/
theorem sortF_q (g : Nat) (cb : Array Value) (enc : Nat → Value) (h1 : OneCell enc) (cf : Nat → Nat → Int) (hO : SWO (ltOf cf)) (eg : ∀ args w, (callFunc g args).run Tryd.prog w = .ok (.enter g args) w) (W : World) (base : Nat) (v : Value) (xs : List Nat) (henc : ∀ x ∈ xs, enc x = .int .i64 (x : Int))
    (h : QRow W base 3 1 v xs.length (iv xs)) (hn : xs.length ≤ 1099511627776)
    (hcmp : xs.length ≠ 0 → ∀ W', Ag (fun k => v.ownBlock = some k) W W' → ∀ x y, Calls Tryd.prog g (#[enc x, enc y] ++ cb) W' fun e w' => e = .returned (.int .i64 (cf x y)) ∧ ∃ q, w' = W'.drewN q) :
    Calls Tryd.prog 14 #[v, .func (.func g) #[] cb] W fun e w' => e = .returned (.tuple #[]) ∧ (∃ ys : List Nat, ys.Perm xs ∧ (∀ i j, i < j → j < ys.length → ltOf cf (nth ys j) (nth ys i) = false) ∧ QRow w' base 3 1 v xs.length (iv ys)) ∧ Ag (fun k => v.ownBlock = some k) W w' := by
  by_cases h0 : xs.length = 0
  · obtain ⟨p, c, rfl⟩ := h.isSlice
    have hS := AnyF.slices_SortFunc_none (P := Tryd.prog) (ρ := Tryd.sortF_ren) { Tryd.sortF with } p c (.func (.func g) #[] cb) W
    change Calls Tryd.prog 14 _ _ _ at hS
    rw [h0] at h ⊢
    refine hS.mono ?_
    rintro e w' ⟨rfl, rfl⟩
    have hx : xs = [] := List.length_eq_zero_iff.1 h0
    subst hx
    exact ⟨rfl, ⟨[], List.Perm.refl _, fun i j _ hj => by simp at hj, h⟩, Ag.refl _ _⟩
  · obtain ⟨b, o, cap, rfl, hb, hblt, hnc, hcm, hc, hf⟩ := h.at (by omega)
    have hds : xs.toArray.size = xs.length := by simp
    have hH : Holds enc W b o xs.toArray := fun j hj => by
      have hj' : j < xs.length := by simpa using hj
      refine ⟨?_, hf _⟩
      rw [hc j (by omega), iv_get hj', getElem!_pos _ j hj]
      have : (xs.toArray[j]'hj) = nth xs j := by unfold nth; rw [List.getElem?_eq_getElem hj']; simp
      rw [this, henc _ (by unfold nth; rw [List.getElem?_eq_getElem hj']; exact List.getElem_mem hj')]
    have hS := Any.slices_SortFunc Tryd.sortF enc h1 cf hO g cb b o cap xs.toArray W eg (CmpReads.lays fun m os dk hdk x y => hcmp h0 _ ((ag_sorted enc W b o m os dk).mono fun k hk => by subst hk; rfl) x y) hH hblt (by rw [hds]; omega)
    change Calls Tryd.prog 14 _ _ _ at hS
    rw [hds] at hS
    refine hS.mono ?_
    rintro e w' ⟨rfl, d', n, os, ⟨hp1, hp2, hp3⟩, hs, rfl⟩
    have hd' : d'.size = xs.length := by rw [hp1, hds]
    have hperm : d'.toList.Perm xs := by
      have e1 : (d'.extract 0 xs.length).toList = d'.toList := by rw [← hd', Array.extract_size]
      have e2 : (xs.toArray.extract 0 xs.length).toList = xs := by
        rw [show xs.length = xs.toArray.size by simp, Array.extract_size]
      rw [e1, e2] at hp3
      exact hp3
    have hq := qrow_sorted enc (n := n) (os := os) d' hd' h
    have he2 : d'.toList.map enc = iv d'.toList := by
      unfold iv
      exact List.map_congr_left fun x hx => henc x (hperm.mem_iff.1 hx)
    rw [he2] at hq
    refine ⟨rfl, ⟨d'.toList, hperm, fun i j hij hj => ?_, hq⟩, (ag_sorted enc W b o n os d').mono fun k hk => by subst hk; rfl⟩
    have hj' : j < d'.size := by simpa using hj
    have := hs i j (Nat.zero_le _) hij (by omega)
    rw [getElem!_pos _ j hj', getElem!_pos _ i (by omega)] at this
    unfold nth
    rw [List.getElem?_eq_getElem hj, List.getElem?_eq_getElem (by simp; omega)]
    simpa using this
end Go.Proofs.YtbioondlmgolkaaDoor
