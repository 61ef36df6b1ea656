/- slices.SortFunc by its contract off the shelf, at a list of numbers. -/
import Derived.Test.YtbioondlmgolkaaProg
import Derived.Shelf.SlSortCmp.NoneTotal
import Derived.Ground.SlsfProg
import Derived.WalkKit
import Derived.Test.YtbioondlmgolkaaG508
set_option linter.unusedVariables false
set_option linter.unusedSimpArgs false
namespace Go.Proofs
open Go.Shelf
def Try.sortF_ren : Go.Shelf.Ren := ⟨fun | 6 => 84 | 15 => 103 | 14 => 102 | 28 => 119 | 29 => 120 | 20 => 111 | 21 => 112 | 22 => 113 | 23 => 114 | 24 => 115 | 25 => 116 | 26 => 117 | 27 => 118 | 46 => 124 | 47 => 125 | 48 => 126 | 49 => 127 | 50 => 128 | 57 => 132 | n => n, fun | 22 => 34 | 24 => 3 | 25 => 23 | 3 => 3 | 39 => 56 | 0 => 0 | 53 => 165 | 55 => 167 | 4 => 4 | 46 => 195 | 45 => 194 | 50 => 98 | 5 => 5 | 9 => 9 | 66 => 200 | 70 => 204 | 76 => 206 | 77 => 207 | n => n, fun | n => n⟩
theorem Try.sortF : Go.Proofs.SlLaysF.n6 Try.prog Try.sortF_ren := {
  mixed := by kernel_rfl
  f6 := ⟨Try.f84.name, by decide, Try.func84.trans (congrArg some (by kernel_rfl))⟩
  f14 := ⟨Try.f102.name, by decide, Try.func102.trans (congrArg some (by kernel_rfl))⟩
  f15 := Try.func103.trans (congrArg some (by kernel_rfl))
  f20 := ⟨Try.f111.name, by decide, Try.func111.trans (congrArg some (by kernel_rfl))⟩
  f21 := ⟨Try.f112.name, by decide, Try.func112.trans (congrArg some (by kernel_rfl))⟩
  f22 := ⟨Try.f113.name, by decide, Try.func113.trans (congrArg some (by kernel_rfl))⟩
  f23 := ⟨Try.f114.name, by decide, Try.func114.trans (congrArg some (by kernel_rfl))⟩
  f24 := ⟨Try.f115.name, by decide, Try.func115.trans (congrArg some (by kernel_rfl))⟩
  f25 := ⟨Try.f116.name, by decide, Try.func116.trans (congrArg some (by kernel_rfl))⟩
  f26 := ⟨Try.f117.name, by decide, Try.func117.trans (congrArg some (by kernel_rfl))⟩
  f27 := ⟨Try.f118.name, by decide, Try.func118.trans (congrArg some (by kernel_rfl))⟩
  f28 := Try.func119.trans (congrArg some (by kernel_rfl))
  f29 := Try.func120.trans (congrArg some (by kernel_rfl))
  f46 := ⟨Try.f124.name, by decide, Try.func124.trans (congrArg some (by kernel_rfl))⟩
  f47 := Try.func125.trans (congrArg some (by kernel_rfl))
  f48 := Try.func126.trans (congrArg some (by kernel_rfl))
  f49 := ⟨Try.f127.name, by decide, Try.func127.trans (congrArg some (by kernel_rfl))⟩
  f50 := ⟨Try.f128.name, by decide, Try.func128.trans (congrArg some (by kernel_rfl))⟩
  f57 := ⟨Try.f132.name, by decide, Try.func132.trans (congrArg some (by kernel_rfl))⟩
  t0 := Try.underlying0
  a0 := Try.isAgg0
  z0 := Try.sizeOf0
  v0 := Try.zeroValue0
  t3 := Try.underlying3
  a3 := Try.isAgg3
  z3 := Try.sizeOf3
  v3 := Try.zeroValue3
  t4 := Try.underlying4
  a4 := Try.isAgg4
  z4 := Try.sizeOf4
  v4 := Try.zeroValue4
  t5 := Try.underlying5
  a5 := Try.isAgg5
  z5 := Try.sizeOf5
  v5 := Try.zeroValue5
  t9 := Try.underlying9
  a9 := Try.isAgg9
  z9 := Try.sizeOf9
  v9 := Try.zeroValue9
  t22 := Try.underlying34
  a22 := Try.isAgg34
  z22 := Try.sizeOf34
  v22 := Try.zeroValue34
  a24 := Try.isAgg3
  z24 := Try.sizeOf3
  t25 := Try.underlying23
  a25 := Try.isAgg23
  z25 := Try.sizeOf23
  v25 := Try.zeroValue23
  t39 := Try.underlying56
  a39 := Try.isAgg56
  z39 := Try.sizeOf56
  v39 := Try.zeroValue56
  t45 := Try.underlying194
  a45 := Try.isAgg194
  z45 := Try.sizeOf194
  v45 := Try.zeroValue194
  t46 := Try.underlying195
  a46 := Try.isAgg195
  z46 := Try.sizeOf195
  v46 := Try.zeroValue195
  t50 := Try.underlying98
  a50 := Try.isAgg98
  z50 := Try.sizeOf98
  v50 := Try.zeroValue98
  t53 := Try.underlying165
  a53 := Try.isAgg165
  z53 := Try.sizeOf165
  v53 := Try.zeroValue165
  t55 := Try.underlying167
  a55 := Try.isAgg167
  z55 := Try.sizeOf167
  v55 := Try.zeroValue167
  t66 := Try.underlying200
  a66 := Try.isAgg200
  z66 := Try.sizeOf200
  v66 := Try.zeroValue200
  t70 := Try.underlying204
  a70 := Try.isAgg204
  z70 := Try.sizeOf204
  v70 := Try.zeroValue204
  t76 := Try.underlying206
  a76 := Try.isAgg206
  z76 := Try.sizeOf206
  v76 := Try.zeroValue206
  t77 := Try.underlying207
  a77 := Try.isAgg207
  z77 := Try.sizeOf207
  v77 := Try.zeroValue207 }
end Go.Proofs
namespace Go.Proofs.Ytbioondlmgolkaa
open Go.RowKit Go.Shelf Go.Lib Go.Sort

theorem heap_sorted_any {α : Type} [Inhabited α] (enc : α → Value) {w : World} {g o n : Nat} {os : Array Obj} {cur : Array Value} {e : TypeId} {fr : Nat × Nat} (d : Array α) (hb : w.heap[g]? = some (.cells cur e fr)) :
    (sortWorld enc w g o n d os).heap[g]? = some (.cells (putCells enc o d cur) e fr) := by
  have hg : g < w.heap.size := (Array.getElem?_eq_some_iff.1 hb).1
  unfold sortWorld
  rw [heap_grow_old _ _ (by simpa using hg)]
  simp [putRow, mapBlock, Sort.ahead, Array.getElem?_modify, hb, onCells]
theorem ag_sorted {α : Type} [Inhabited α] (enc : α → Value) (w : World) (g o n : Nat) (os : Array Obj) (d : Array α) : Ag (· = g) w (sortWorld enc w g o n d os) := by
  unfold sortWorld
  refine ⟨rfl, rfl, rfl, by simp, fun k hk hne => ?_⟩
  rw [heap_grow_old _ _ (by simpa using hk)]
  have : g ≠ k := fun e => hne e.symm
  simp [putRow, mapBlock, Sort.ahead, Array.getElem?_modify, this]
theorem qrow_sorted {α : Type} [Inhabited α] (enc : α → Value) {w : World} {base g o n cap k : Nat} {e : TypeId} {os : Array Obj} {xs : List Value} (d : Array α) (hd : d.size = k) (h : QRow w base e 1 (.slice (some ⟨g, o, none⟩) k cap) k xs) :
    QRow (sortWorld enc w g o n d os) base e 1 (.slice (some ⟨g, o, none⟩) k cap) k (d.toList.map enc) := by
  refine ⟨by simp [hd], .inr ?_⟩
  rcases h.2 with ⟨e0, _⟩ | ⟨g', o', cap', cur, e1, hb, hg, h1, h2, h3, h4⟩
  · cases e0
  · cases e1
    refine ⟨g, o, cap, _, rfl, hb, heap_sorted_any enc d hg, h1, h2, by simpa [putCells] using h3, fun j hj => ?_⟩
    rw [Nat.mul_one] at hj h3
    have hjc : o + j < cur.size := by omega
    have hjd : j < d.size := by omega
    simp [putCells, hjc, hjd]
/-- what the sort is told of the order, and what it leaves -/
theorem sortF_q (g : Nat) (cb : Array Value) (enc : Nat → Value) (h1 : OneCell enc) (cf : Nat → Nat → Int) (hO : SWO (ltOf cf)) (eg : ∀ args w, (callFunc g args).run Try.prog w = .ok (.enter g args) w) (W : World) (base : Nat) (v : Value) (xs : List Nat) (henc : ∀ x ∈ xs, enc x = .int .i64 (x : Int))
    (h : QRow W base 3 1 v xs.length (iv xs)) (hn : xs.length ≤ 1099511627776)
    (hcmp : xs.length ≠ 0 → ∀ W', Ag (fun k => v.ownBlock = some k) W W' → ∀ x y, Calls Try.prog g (#[enc x, enc y] ++ cb) W' fun e w' => e = .returned (.int .i64 (cf x y)) ∧ ∃ q, w' = W'.drewN q) :
    Calls Try.prog 84 #[v, .func (.func g) #[] cb] W fun e w' => e = .returned (.tuple #[]) ∧ (∃ ys : List Nat, ys.Perm xs ∧ (∀ i j, i < j → j < ys.length → ltOf cf (nth ys j) (nth ys i) = false) ∧ QRow w' base 3 1 v xs.length (iv ys)) ∧ Ag (fun k => v.ownBlock = some k) W w' := by
  by_cases h0 : xs.length = 0
  · obtain ⟨p, c, rfl⟩ := h.isSlice
    have hS := AnyF.slices_SortFunc_none (P := Try.prog) (ρ := Try.sortF_ren) { Try.sortF with } p c (.func (.func g) #[] cb) W
    change Calls Try.prog 84 _ _ _ at hS
    rw [h0] at h ⊢
    refine hS.mono ?_
    rintro e w' ⟨rfl, rfl⟩
    have hx : xs = [] := List.length_eq_zero_iff.1 h0
    subst hx
    exact ⟨rfl, ⟨[], List.Perm.refl _, fun i j _ hj => by simp at hj, h⟩, Ag.refl _ _⟩
  · obtain ⟨b, o, cap, rfl, hb, hblt, hnc, hcm, hc, hf⟩ := h.at (by omega)
    have hds : xs.toArray.size = xs.length := by simp
    have hH : Holds enc W b o xs.toArray := fun j hj => by
      have hj' : j < xs.length := by simpa using hj
      refine ⟨?_, hf _⟩
      rw [hc j (by omega), iv_get hj', getElem!_pos _ j hj]
      have : (xs.toArray[j]'hj) = nth xs j := by unfold nth; rw [List.getElem?_eq_getElem hj']; simp
      rw [this, henc _ (by unfold nth; rw [List.getElem?_eq_getElem hj']; exact List.getElem_mem hj')]
    have hS := Any.slices_SortFunc Try.sortF enc h1 cf hO g cb b o cap xs.toArray W eg (CmpReads.lays fun m os dk hdk x y => hcmp h0 _ ((ag_sorted enc W b o m os dk).mono fun k hk => by subst hk; rfl) x y) hH hblt (by rw [hds]; omega)
    change Calls Try.prog 84 _ _ _ at hS
    rw [hds] at hS
    refine hS.mono ?_
    rintro e w' ⟨rfl, d', n, os, ⟨hp1, hp2, hp3⟩, hs, rfl⟩
    have hd' : d'.size = xs.length := by rw [hp1, hds]
    have hperm : d'.toList.Perm xs := by
      have e1 : (d'.extract 0 xs.length).toList = d'.toList := by rw [← hd', Array.extract_size]
      have e2 : (xs.toArray.extract 0 xs.length).toList = xs := by
        rw [show xs.length = xs.toArray.size by simp, Array.extract_size]
      rw [e1, e2] at hp3
      exact hp3
    have hq := qrow_sorted enc (n := n) (os := os) d' hd' h
    have he2 : d'.toList.map enc = iv d'.toList := by
      unfold iv
      exact List.map_congr_left fun x hx => henc x (hperm.mem_iff.1 hx)
    rw [he2] at hq
    refine ⟨rfl, ⟨d'.toList, hperm, fun i j hij hj => ?_, hq⟩, (ag_sorted enc W b o n os d').mono fun k hk => by subst hk; rfl⟩
    have hj' : j < d'.size := by simpa using hj
    have := hs i j (Nat.zero_le _) hij (by omega)
    rw [getElem!_pos _ j hj', getElem!_pos _ i (by omega)] at this
    unfold nth
    rw [List.getElem?_eq_getElem hj, List.getElem?_eq_getElem (by simp; omega)]
    simpa using this
end Go.Proofs.Ytbioondlmgolkaa
