/- slices.SortFunc by its contract off the shelf, at a list of numbers. -/
import Derived.Test.YtpknnjcbcndbbaaDoorProg
import Derived.Test.YtpknnjcbcndbbaaDoorA14
import Derived.Test.YtpknnjcbcndbbaaDoorA10
import Derived.Test.YtpknnjcbcndbbaaDoorE01
import Derived.Shelf.SlSortCmp.NoneTotal
import Derived.Ground.SlsfProg
import Derived.WalkKit
set_option linter.unusedVariables false
set_option linter.unusedSimpArgs false
namespace Go.Proofs
open Go.Shelf
def Tryd.sortF_ren : Go.Shelf.Ren := ⟨fun | 6 => 104 | 15 => 109 | 14 => 108 | 28 => 119 | 29 => 120 | 20 => 111 | 21 => 112 | 22 => 113 | 23 => 114 | 24 => 115 | 25 => 116 | 26 => 117 | 27 => 118 | 46 => 121 | 47 => 122 | 48 => 123 | 49 => 124 | 50 => 125 | 57 => 126 | n => n, fun | 22 => 25 | 24 => 3 | 25 => 92 | 3 => 3 | 39 => 44 | 0 => 0 | 53 => 135 | 55 => 83 | 4 => 4 | 46 => 150 | 45 => 149 | 50 => 47 | 5 => 5 | 9 => 9 | 66 => 155 | 70 => 159 | 76 => 161 | 77 => 145 | n => n, fun | n => n⟩
theorem Tryd.sortF : Go.Proofs.SlLaysF.n6 Tryd.prog Tryd.sortF_ren := {
  mixed := by kernel_rfl
  f6 := ⟨Tryd.f104.name, by decide, Tryd.func104.trans (congrArg some (by kernel_rfl))⟩
  f14 := ⟨Tryd.f108.name, by decide, Tryd.func108.trans (congrArg some (by kernel_rfl))⟩
  f15 := Tryd.func109.trans (congrArg some (by kernel_rfl))
  f20 := ⟨Tryd.f111.name, by decide, Tryd.func111.trans (congrArg some (by kernel_rfl))⟩
  f21 := ⟨Tryd.f112.name, by decide, Tryd.func112.trans (congrArg some (by kernel_rfl))⟩
  f22 := ⟨Tryd.f113.name, by decide, Tryd.func113.trans (congrArg some (by kernel_rfl))⟩
  f23 := ⟨Tryd.f114.name, by decide, Tryd.func114.trans (congrArg some (by kernel_rfl))⟩
  f24 := ⟨Tryd.f115.name, by decide, Tryd.func115.trans (congrArg some (by kernel_rfl))⟩
  f25 := ⟨Tryd.f116.name, by decide, Tryd.func116.trans (congrArg some (by kernel_rfl))⟩
  f26 := ⟨Tryd.f117.name, by decide, Tryd.func117.trans (congrArg some (by kernel_rfl))⟩
  f27 := ⟨Tryd.f118.name, by decide, Tryd.func118.trans (congrArg some (by kernel_rfl))⟩
  f28 := Tryd.func119.trans (congrArg some (by kernel_rfl))
  f29 := Tryd.func120.trans (congrArg some (by kernel_rfl))
  f46 := ⟨Tryd.f121.name, by decide, Tryd.func121.trans (congrArg some (by kernel_rfl))⟩
  f47 := Tryd.func122.trans (congrArg some (by kernel_rfl))
  f48 := Tryd.func123.trans (congrArg some (by kernel_rfl))
  f49 := ⟨Tryd.f124.name, by decide, Tryd.func124.trans (congrArg some (by kernel_rfl))⟩
  f50 := ⟨Tryd.f125.name, by decide, Tryd.func125.trans (congrArg some (by kernel_rfl))⟩
  f57 := ⟨Tryd.f126.name, by decide, Tryd.func126.trans (congrArg some (by kernel_rfl))⟩
  t0 := Tryd.underlying0
  a0 := Tryd.isAgg0
  z0 := Tryd.sizeOf0
  v0 := Tryd.zeroValue0
  t3 := Tryd.underlying3
  a3 := Tryd.isAgg3
  z3 := Tryd.sizeOf3
  v3 := Tryd.zeroValue3
  t4 := Tryd.underlying4
  a4 := Tryd.isAgg4
  z4 := Tryd.sizeOf4
  v4 := Tryd.zeroValue4
  t5 := Tryd.underlying5
  a5 := Tryd.isAgg5
  z5 := Tryd.sizeOf5
  v5 := Tryd.zeroValue5
  t9 := Tryd.underlying9
  a9 := Tryd.isAgg9
  z9 := Tryd.sizeOf9
  v9 := Tryd.zeroValue9
  t22 := Tryd.underlying25
  a22 := Tryd.isAgg25
  z22 := Tryd.sizeOf25
  v22 := Tryd.zeroValue25
  a24 := Tryd.isAgg3
  z24 := Tryd.sizeOf3
  t25 := Tryd.underlying92
  a25 := Tryd.isAgg92
  z25 := Tryd.sizeOf92
  v25 := Tryd.zeroValue92
  t39 := Tryd.underlying44
  a39 := Tryd.isAgg44
  z39 := Tryd.sizeOf44
  v39 := Tryd.zeroValue44
  t45 := Tryd.underlying149
  a45 := Tryd.isAgg149
  z45 := Tryd.sizeOf149
  v45 := Tryd.zeroValue149
  t46 := Tryd.underlying150
  a46 := Tryd.isAgg150
  z46 := Tryd.sizeOf150
  v46 := Tryd.zeroValue150
  t50 := Tryd.underlying47
  a50 := Tryd.isAgg47
  z50 := Tryd.sizeOf47
  v50 := Tryd.zeroValue47
  t53 := Tryd.underlying135
  a53 := Tryd.isAgg135
  z53 := Tryd.sizeOf135
  v53 := Tryd.zeroValue135
  t55 := Tryd.underlying83
  a55 := Tryd.isAgg83
  z55 := Tryd.sizeOf83
  v55 := Tryd.zeroValue83
  t66 := Tryd.underlying155
  a66 := Tryd.isAgg155
  z66 := Tryd.sizeOf155
  v66 := Tryd.zeroValue155
  t70 := Tryd.underlying159
  a70 := Tryd.isAgg159
  z70 := Tryd.sizeOf159
  v70 := Tryd.zeroValue159
  t76 := Tryd.underlying161
  a76 := Tryd.isAgg161
  z76 := Tryd.sizeOf161
  v76 := Tryd.zeroValue161
  t77 := Tryd.underlying145
  a77 := Tryd.isAgg145
  z77 := Tryd.sizeOf145
  v77 := Tryd.zeroValue145 }
end Go.Proofs
namespace Go.Proofs.YtpknnjcbcndbbaaDoor
open Go.RowKit Go.Shelf Go.Lib Go.Sort

theorem heap_sorted_any {α : Type} [Inhabited α] (enc : α → Value) {w : World} {g o n : Nat} {os : Array Obj} {cur : Array Value} {e : TypeId} {fr : Nat × Nat} (d : Array α) (hb : w.heap[g]? = some (.cells cur e fr)) :
    (sortWorld enc w g o n d os).heap[g]? = some (.cells (putCells enc o d cur) e fr) := by
  have hg : g < w.heap.size := (Array.getElem?_eq_some_iff.1 hb).1
  unfold sortWorld
  rw [heap_grow_old _ _ (by simpa using hg)]
  simp [putRow, mapBlock, Sort.ahead, Array.getElem?_modify, hb, onCells]
theorem ag_sorted {α : Type} [Inhabited α] (enc : α → Value) (w : World) (g o n : Nat) (os : Array Obj) (d : Array α) : Ag (· = g) w (sortWorld enc w g o n d os) := by
  unfold sortWorld
  refine ⟨rfl, rfl, rfl, by simp, fun k hk hne => ?_⟩
  rw [heap_grow_old _ _ (by simpa using hk)]
  have : g ≠ k := fun e => hne e.symm
  simp [putRow, mapBlock, Sort.ahead, Array.getElem?_modify, this]
theorem qrow_sorted {α : Type} [Inhabited α] (enc : α → Value) {w : World} {base g o n cap k : Nat} {e : TypeId} {os : Array Obj} {xs : List Value} (d : Array α) (hd : d.size = k) (h : QRow w base e 1 (.slice (some ⟨g, o, none⟩) k cap) k xs) :
    QRow (sortWorld enc w g o n d os) base e 1 (.slice (some ⟨g, o, none⟩) k cap) k (d.toList.map enc) := by
  refine ⟨by simp [hd], .inr ?_⟩
  rcases h.2 with ⟨e0, _⟩ | ⟨g', o', cap', cur, e1, hb, hg, h1, h2, h3, h4⟩
  · cases e0
  · cases e1
    refine ⟨g, o, cap, _, rfl, hb, heap_sorted_any enc d hg, h1, h2, by simpa [putCells] using h3, fun j hj => ?_⟩
    rw [Nat.mul_one] at hj h3
    have hjc : o + j < cur.size := by omega
    have hjd : j < d.size := by omega
    simp [putCells, hjc, hjd]
/-- what the sort is told of the order, and what it leaves -/
theorem sortF_q (g : Nat) (cb : Array Value) (enc : Nat → Value) (h1 : OneCell enc) (cf : Nat → Nat → Int) (hO : SWO (ltOf cf)) (eg : ∀ args w, (callFunc g args).run Tryd.prog w = .ok (.enter g args) w) (W : World) (base : Nat) (v : Value) (xs : List Nat) (henc : ∀ x ∈ xs, enc x = .int .i64 (x : Int))
    (h : QRow W base 3 1 v xs.length (iv xs)) (hn : xs.length ≤ 1099511627776)
    (hcmp : xs.length ≠ 0 → ∀ W', Ag (fun k => v.ownBlock = some k) W W' → ∀ x y, Calls Tryd.prog g (#[enc x, enc y] ++ cb) W' fun e w' => e = .returned (.int .i64 (cf x y)) ∧ ∃ q, w' = W'.drewN q) :
    Calls Tryd.prog 104 #[v, .func (.func g) #[] cb] W fun e w' => e = .returned (.tuple #[]) ∧ (∃ ys : List Nat, ys.Perm xs ∧ (∀ i j, i < j → j < ys.length → ltOf cf (nth ys j) (nth ys i) = false) ∧ QRow w' base 3 1 v xs.length (iv ys)) ∧ Ag (fun k => v.ownBlock = some k) W w' := by
  by_cases h0 : xs.length = 0
  · obtain ⟨p, c, rfl⟩ := h.isSlice
    have hS := AnyF.slices_SortFunc_none (P := Tryd.prog) (ρ := Tryd.sortF_ren) { Tryd.sortF with } p c (.func (.func g) #[] cb) W
    change Calls Tryd.prog 104 _ _ _ at hS
    rw [h0] at h ⊢
    refine hS.mono ?_
    rintro e w' ⟨rfl, rfl⟩
    have hx : xs = [] := List.length_eq_zero_iff.1 h0
    subst hx
    exact ⟨rfl, ⟨[], List.Perm.refl _, fun i j _ hj => by simp at hj, h⟩, Ag.refl _ _⟩
  · obtain ⟨b, o, cap, rfl, hb, hblt, hnc, hcm, hc, hf⟩ := h.at (by omega)
    have hds : xs.toArray.size = xs.length := by simp
    have hH : Holds enc W b o xs.toArray := fun j hj => by
      have hj' : j < xs.length := by simpa using hj
      refine ⟨?_, hf _⟩
      rw [hc j (by omega), iv_get hj', getElem!_pos _ j hj]
      have : (xs.toArray[j]'hj) = nth xs j := by unfold nth; rw [List.getElem?_eq_getElem hj']; simp
      rw [this, henc _ (by unfold nth; rw [List.getElem?_eq_getElem hj']; exact List.getElem_mem hj')]
    have hS := Any.slices_SortFunc Tryd.sortF enc h1 cf hO g cb b o cap xs.toArray W eg (CmpReads.lays fun m os dk hdk x y => hcmp h0 _ ((ag_sorted enc W b o m os dk).mono fun k hk => by subst hk; rfl) x y) hH hblt (by rw [hds]; omega)
    change Calls Tryd.prog 104 _ _ _ at hS
    rw [hds] at hS
    refine hS.mono ?_
    rintro e w' ⟨rfl, d', n, os, ⟨hp1, hp2, hp3⟩, hs, rfl⟩
    have hd' : d'.size = xs.length := by rw [hp1, hds]
    have hperm : d'.toList.Perm xs := by
      have e1 : (d'.extract 0 xs.length).toList = d'.toList := by rw [← hd', Array.extract_size]
      have e2 : (xs.toArray.extract 0 xs.length).toList = xs := by
        rw [show xs.length = xs.toArray.size by simp, Array.extract_size]
      rw [e1, e2] at hp3
      exact hp3
    have hq := qrow_sorted enc (n := n) (os := os) d' hd' h
    have he2 : d'.toList.map enc = iv d'.toList := by
      unfold iv
      exact List.map_congr_left fun x hx => henc x (hperm.mem_iff.1 hx)
    rw [he2] at hq
    refine ⟨rfl, ⟨d'.toList, hperm, fun i j hij hj => ?_, hq⟩, (ag_sorted enc W b o n os d').mono fun k hk => by subst hk; rfl⟩
    have hj' : j < d'.size := by simpa using hj
    have := hs i j (Nat.zero_le _) hij (by omega)
    rw [getElem!_pos _ j hj', getElem!_pos _ i (by omega)] at this
    unfold nth
    rw [List.getElem?_eq_getElem hj, List.getElem?_eq_getElem (by simp; omega)]
    simpa using this
end Go.Proofs.YtpknnjcbcndbbaaDoor
