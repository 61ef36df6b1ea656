/- Walks of the functions that look at edges. The library's comparison of two lists of integers; the program's check of edges. A slice that the call itself has made, wherever in its row it begins: append, cut off the first, store, read. What a stretch of a walk leaves as it was: all blocks but some. And the law of a loop over the sets within a set whose body writes a map. The law's own: a copy of the first pairs; the reference's check. append onto a row of the call's own, the source another row, nil or not. -/
import Derived.Test.YtgpijajgaclhfaaDoorIu
import Derived.Test.YtgpijajgaclhfaaDoorQr
import Derived.Deep.QuietTactic
import Derived.BigQuiet
import Derived.WalkKit
import Derived.OwnWalkIn
set_option linter.unusedVariables false
set_option linter.unusedSimpArgs false
namespace Go.Proofs.YtgpijajgaclhfaaDoor
open Go.RowKit

/-- a row of pairs of integers in memory, where there is one -/
def Pairs (w : World) (a : Option Addr) (ps : List (Int × Int)) : Prop :=
  ps ≠ [] → ∃ b off, a = some ⟨b, off, none⟩ ∧ b < w.heap.size ∧ ∀ j, j < ps.length → w.cell? ⟨b, off + j * 2, none⟩ = some (.int .i64 (ps[j]?.getD (0, 0)).1) ∧ w.cell? ⟨b, off + j * 2 + 1, none⟩ = some (.int .i64 (ps[j]?.getD (0, 0)).2)
theorem Pairs.below {n : Nat} {w W : World} {a : Option Addr} {ps : List (Int × Int)} (h : Pairs w a ps) (hb : Below n w W) (hn : w.heap.size ≤ n) : Pairs W a ps := fun hne => by
  obtain ⟨b, off, e, hlt, hc⟩ := h hne
  exact ⟨b, off, e, Nat.lt_of_lt_of_le hlt hb.size, fun j hj => ⟨(hb.cell (p := ⟨b, off + j * 2, none⟩) (Nat.lt_of_lt_of_le hlt hn)).trans (hc j hj).1, (hb.cell (p := ⟨b, off + j * 2 + 1, none⟩) (Nat.lt_of_lt_of_le hlt hn)).trans (hc j hj).2⟩⟩

end Go.Proofs.YtgpijajgaclhfaaDoor
namespace Go.Proofs.YtgpijajgaclhfaaDoor
open Go.RowKit

def cmpI (x y : Int) : Int := if x < y then -1 else if y < x then 1 else 0
def cmpL : List Int → List Int → Int
  | [], [] => 0
  | [], _ :: _ => -1
  | _ :: _, [] => 1
  | x :: xs, y :: ys => if x < y then -1 else if y < x then 1 else cmpL xs ys
theorem cmpL_drop (xs ys : List Int) : ∀ (k : Nat), (∀ j, j < k → xs[j]?.getD 0 = ys[j]?.getD 0) → k ≤ xs.length → k ≤ ys.length → cmpL xs ys = cmpL (xs.drop k) (ys.drop k)
  | 0, _, _, _ => by simp
  | k + 1, h, h1, h2 => by
    rw [cmpL_drop xs ys k (fun j hj => h j (by omega)) (by omega) (by omega)]
    have e := h k (by omega)
    rw [List.drop_eq_getElem_cons (by omega : k < xs.length), List.drop_eq_getElem_cons (by omega : k < ys.length)]
    have e1 : xs[k] = ys[k] := by simpa [List.getElem?_eq_getElem (by omega : k < xs.length), List.getElem?_eq_getElem (by omega : k < ys.length)] using e
    simp only [cmpL, e1, Int.lt_irrefl, if_false]
theorem cmpL_at (xs ys : List Int) (k : Nat) (h : ∀ j, j < k → xs[j]?.getD 0 = ys[j]?.getD 0) (h1 : k < xs.length) (h2 : k < ys.length) (hne : xs[k]?.getD 0 ≠ ys[k]?.getD 0) : cmpL xs ys = cmpI (xs[k]?.getD 0) (ys[k]?.getD 0) := by
  rw [cmpL_drop xs ys k h (by omega) (by omega), List.drop_eq_getElem_cons h1, List.drop_eq_getElem_cons h2]
  simp only [List.getElem?_eq_getElem h1, List.getElem?_eq_getElem h2, Option.getD_some] at hne ⊢
  simp only [cmpL, cmpI]
  split
  · rfl
  · split
    · rfl
    · omega

theorem isNaN_any (x : Int) (w : World) : Calls Tryd.prog 97 #[.int .i64 x] w fun e w' => e = .returned (.bool false) ∧ w' = w := by
  go_enter Tryd.func97, Tryd.ntmps97
  go_wp2
  go_ret
  exact ⟨rfl, rfl⟩
theorem compare_any (x y : Int) (w : World) : Calls Tryd.prog 75 #[.int .i64 x, .int .i64 y] w fun e w' => e = .returned (.int .i64 (cmpI x y)) ∧ w' = w := by
  have H : Hid (cmpI x y = if x < y then -1 else if y < x then 1 else 0) := rfl
  go_enter Tryd.func75, Tryd.ntmps75
  go_wp2_with (first | (go_at_call 97; refine (isNaN_any _ _).mono ?_; rintro e w' ⟨rfl, rfl⟩))
  all_goals (go_ret; refine ⟨ret_int ?_, rfl⟩; rw [H.out])
  · rw [if_pos (by assumption)]
  · rw [if_neg (by omega), if_pos (by assumption)]
  · rw [if_neg (by omega), if_neg (by omega)]
set_option maxHeartbeats 1000000 in
theorem compareL_any (b1 o1 b2 o2 c1 c2 : Nat) (xs ys : List Int) (w : World) (len : Nat) (hx : xs.length = len) (hy : ys.length = len) (hl : len ≤ 1099511627776)
    (h1 : ∀ j, j < len → w.cell? ⟨b1, o1 + j, none⟩ = some (.int .i64 (xs[j]?.getD 0))) (h2 : ∀ j, j < len → w.cell? ⟨b2, o2 + j, none⟩ = some (.int .i64 (ys[j]?.getD 0))) :
    Calls Tryd.prog 54 #[.slice (some ⟨b1, o1, none⟩) len c1, .slice (some ⟨b2, o2, none⟩) len c2] w fun e w' => e = .returned (.int .i64 (cmpL xs ys)) ∧ w' = w := by
  have HX := Lib.hid hx
  have HY := Lib.hid hy
  clear hx hy
  go_enter Tryd.func54, Tryd.ntmps54
  go_wp2
  go_loopw [11] (fun i wr => ∃ k : Nat, k ≤ len ∧ i = .int .i64 k ∧ Hid (∀ j, j < k → xs[j]?.getD 0 = ys[j]?.getD 0) ∧ wr = w) (fun i _ => len - (intOf i).toNat)
  case atStart => exact ⟨0, Nat.zero_le _, rfl, (fun j hj => by omega : ∀ j, j < 0 → xs[j]?.getD 0 = ys[j]?.getD 0), rfl⟩
  case round =>
    obtain ⟨k, hk, rfl, hh, rfl⟩ := hrel
    have g1 : k < len → wr.cell? ⟨b1, o1 + k, none⟩ = some (.int .i64 (xs[k]?.getD 0)) := fun h => h1 k h
    have g2 : k < len → wr.cell? ⟨b2, o2 + k, none⟩ = some (.int .i64 (ys[k]?.getD 0)) := fun h => h2 k h
    clear h1 h2
    obtain ⟨x, hx⟩ : ∃ x, x = xs[k]?.getD 0 := ⟨_, rfl⟩
    obtain ⟨y, hy⟩ : ∃ y, y = ys[k]?.getD 0 := ⟨_, rfl⟩
    rw [← hx] at g1
    rw [← hy] at g2
    have Hx := Lib.hid hx
    have Hy := Lib.hid hy
    clear hx hy
    have hcz : x = y → cmpI x y = 0 := fun e => by simp [cmpI, e]
    have hcn : x ≠ y → cmpI x y ≠ 0 := fun e => by unfold cmpI; split; · decide
                                                   · split
                                                     · decide
                                                     · omega
    have HC := And.intro hcz hcn
    clear hcz hcn
    have HC' := Lib.hid HC
    clear HC
    go_wp2_with (first | (go_at_call 75; refine (compare_any x y _).mono ?_; rintro e w' ⟨rfl, rfl⟩))
    · have hc : (cmpI x y != 0) = true := by assumption
      have hne : x ≠ y := fun e => by rw [HC'.out.1 e] at hc; simp at hc
      go_ret
      refine ⟨ret_int ?_, rfl⟩
      rw [cmpL_at xs ys k hh.out (by rw [HX.out]; assumption) (by rw [HY.out]; assumption) (by rw [← Hx.out, ← Hy.out]; exact hne), ← Hx.out, ← Hy.out]
    · have hc : (cmpI x y != 0) = false := by assumption
      have he : x = y := Classical.byContradiction fun e => by have := HC'.out.2 e; rw [bne_eq_false_iff_eq] at hc; exact this hc
      go_roundw
      case rel =>
        refine ⟨k + 1, by omega, by go_num, ?_, trivial⟩
        show ∀ j, j < k + 1 → _
        intro j hj
        by_cases e : j = k
        · rw [e, ← Hx.out, ← Hy.out, he]
        · exact hh.out j (by omega)
      case measure => simp [intOf]; omega
    · have : k = len := by omega
      subst this
      go_ret
      refine ⟨ret_int ?_, rfl⟩
      rw [cmpL_drop xs ys k hh.out (by rw [HX.out]; exact Nat.le_refl _) (by rw [HY.out]; exact Nat.le_refl _), ← HX.out, List.drop_length, HX.out, ← HY.out, List.drop_length]
      rfl

end Go.Proofs.YtgpijajgaclhfaaDoor
namespace Go.Proofs.YtgpijajgaclhfaaDoor
open Go.RowKit
variable {F : Fence} {N : Nat} {P : Program}

def QRow (w : World) (base : Nat) (e : TypeId) (size : Nat) (v : Value) (n : Nat) (xs : List Value) : Prop :=
  xs.length = n * size ∧
  ((v = .slice none 0 0 ∧ n = 0) ∨
   ∃ g o cap cur, v = .slice (some ⟨g, o, none⟩) n cap ∧ base ≤ g ∧ w.heap[g]? = some (.cells cur e (0, 0)) ∧ n ≤ cap ∧ cap ≤ maxLen ∧ o + cap * size ≤ cur.size ∧ ∀ j, j < n * size → cur[o + j]? = xs[j]?)
theorem QRow.nil (w : World) (base : Nat) (e : TypeId) (size : Nat) : QRow w base e size (.slice none 0 0) 0 [] := ⟨by simp, .inl ⟨rfl, rfl⟩⟩
theorem QRow.of_own {w : World} {base : Nat} {e : TypeId} {size : Nat} {v : Value} {n : Nat} {xs : List Value} (h : w.ownsRow base e size v n xs) : QRow w base e size v n xs := by
  refine ⟨h.1, h.2.imp id ?_⟩
  rintro ⟨g, cap, cur, e1, e2, e3, e4, e5, e6, e7⟩
  refine ⟨g, 0, cap, cur, e1, e2, e3, e4, e5, by omega, fun j hj => ?_⟩
  rw [← e7, List.getElem?_take, if_pos hj]; simp
theorem QRow.lt {w : World} {base : Nat} {e : TypeId} {size : Nat} {v : Value} {n : Nat} {xs : List Value} (h : QRow w base e size v n xs) : ∀ k, v.ownBlock = some k → base ≤ k ∧ k < w.heap.size := by
  intro k hk
  rcases h.2 with ⟨rfl, _⟩ | ⟨g, o, cap, cur, rfl, hb, hg, _⟩
  · cases hk
  · cases hk; exact ⟨hb, (Array.getElem?_eq_some_iff.1 hg).1⟩
theorem QRow.kept {w w' : World} {base : Nat} {e : TypeId} {size : Nat} {v : Value} {n : Nat} {xs : List Value} {row : Option Nat} (h : QRow w base e size v n xs) (hg : w.grownBy w' row) (hne : v.ownBlock = none ∨ v.ownBlock ≠ row) : QRow w' base e size v n xs := by
  refine ⟨h.1, h.2.imp id ?_⟩
  rintro ⟨g, o, cap, cur, rfl, e2, e3, e4⟩
  refine ⟨g, o, cap, cur, rfl, e2, ?_, e4⟩
  rcases hne with hne | hne
  · cases hne
  · exact (hg.block g (Array.getElem?_eq_some_iff.1 e3).1 hne).trans e3
theorem QRow.alloc {w : World} {base : Nat} {e : TypeId} {size : Nat} {v : Value} {n : Nat} {xs : List Value} (h : QRow w base e size v n xs) (ob : Obj) : QRow (w.alloc ob) base e size v n xs :=
  h.kept (row := none) (World.grownBy_alloc w ob none) (by cases e : v.ownBlock <;> simp)
theorem QRow.other {w : World} {base : Nat} {e : TypeId} {size : Nat} {v : Value} {n : Nat} {xs : List Value} (h : QRow w base e size v n xs) {a : Addr} (hne : ∀ k, v.ownBlock = some k → k ≠ a.block) (x : Value) : QRow (w.setCell a x) base e size v n xs := by
  refine ⟨h.1, h.2.imp id ?_⟩
  rintro ⟨g, o, cap, cur, rfl, e2, e3, e4⟩
  refine ⟨g, o, cap, cur, rfl, e2, ?_, e4⟩
  rw [← e3]
  show (w.heap.modify a.block _)[g]? = _
  rw [Array.getElem?_modify]
  simp [Ne.symm (hne g rfl)]
theorem QRow.below {n₀ : Nat} {w W : World} {base : Nat} {e : TypeId} {size : Nat} {v : Value} {n : Nat} {xs : List Value} (h : QRow w base e size v n xs) (hb : Below n₀ w W) (hn : ∀ k, v.ownBlock = some k → k < n₀) : QRow W base e size v n xs := by
  refine ⟨h.1, h.2.imp id ?_⟩
  rintro ⟨g, o, cap, cur, rfl, e2, e3, e4⟩
  exact ⟨g, o, cap, cur, rfl, e2, (hb.block g (hn g rfl)).trans e3, e4⟩
theorem QRow.mono {w : World} {base base' : Nat} {e : TypeId} {size : Nat} {v : Value} {n : Nat} {xs : List Value} (h : QRow w base e size v n xs) (hb : base' ≤ base) : QRow w base' e size v n xs :=
  ⟨h.1, h.2.imp id fun ⟨g, o, cap, cur, e1, e2, e3⟩ => ⟨g, o, cap, cur, e1, Nat.le_trans hb e2, e3⟩⟩
/-- its cells, where it is not empty -/
theorem QRow.at {w : World} {base : Nat} {e : TypeId} {size : Nat} {v : Value} {n : Nat} {xs : List Value} (h : QRow w base e size v n xs) (hn : 0 < n) :
    ∃ g o cap, v = .slice (some ⟨g, o, none⟩) n cap ∧ base ≤ g ∧ g < w.heap.size ∧ n ≤ cap ∧ cap ≤ maxLen ∧ (∀ j, j < n * size → w.cell? ⟨g, o + j, none⟩ = xs[j]?) ∧ ∀ j, w.frozen? ⟨g, j, none⟩ = false := by
  rcases h.2 with ⟨_, e0⟩ | ⟨g, o, cap, cur, rfl, hb, hg, h1, h2, h3, h4⟩
  · omega
  · refine ⟨g, o, cap, rfl, hb, (Array.getElem?_eq_some_iff.1 hg).1, h1, h2, fun j hj => ?_, fun j => ?_⟩
    · simp [World.cell?, hg, h4 j hj]
    · simp [World.frozen?, hg]
/-- a store into it -/
theorem QRow.set {w : World} {base : Nat} {e : TypeId} {size : Nat} {g o cap n : Nat} {xs : List Value} (h : QRow w base e size (.slice (some ⟨g, o, none⟩) n cap) n xs) (j : Nat) (hj : j < n * size) (x : Value) :
    QRow (w.setCell ⟨g, o + j, none⟩ x) base e size (.slice (some ⟨g, o, none⟩) n cap) n (xs.set j x) := by
  refine ⟨by simp [h.1], .inr ?_⟩
  rcases h.2 with ⟨e0, _⟩ | ⟨g', o', cap', cur, e1, hb, hg, h1, h2, h3, h4⟩
  · cases e0
  · cases e1
    refine ⟨g, o, cap, cur.setIfInBounds (o + j) x, rfl, hb, ?_, h1, h2, by simpa using h3, fun i hi => ?_⟩
    · exact BoxN.set (vs := cur) hg (o + j) x
    · by_cases e : i = j
      · subst e
        have : n * size ≤ cap * size := Nat.mul_le_mul_right _ h1
        rw [Array.getElem?_setIfInBounds_self_of_lt (by omega), List.getElem?_set_self (by rw [h.1]; exact hi)]
      · rw [Array.getElem?_setIfInBounds_ne (by omega), List.getElem?_set_ne (Ne.symm e)]; exact h4 i hi

theorem run_append_q (w : World) (base : Nat) (t ty e : TypeId) (i : TypeInfo) (z : Value) (size bytes : Nat) (ht : P.underlying t = some (.slice e)) (hi : P.info? e = some i) (hz : i.zero = some z)
    (hsize : i.size = size) (hby : i.bytes = bytes) (hzs : z.cells.size = size) (hsz : 0 < size)
    (v : Value) (n : Nat) (xs : List Value) (hown : QRow w base e size v n xs)
    (a : Addr) (m c : Nat) (news : List Value) (hl : news.length = m * size) (hnews : ∀ j u, news[j]? = some u → w.cell? (a.add j) = some u) (h1 : ∀ u ∈ news, u.oneCell' = true)
    (h63 : n + m ≤ maxLen) (hbytes : (n + m) * bytes ≤ 140737488355328) (hbase : base ≤ w.heap.size) :
    ∃ v' w', (Builtin.append_ #[t, t] ty #[v, .slice (some a) m c]).run P w = .ok v' w' ∧ QRow w' base e size v' (n + m) (xs ++ news) ∧ w.grownBy w' v.ownBlock ∧ ∀ k, v'.ownBlock = some k → v.ownBlock = some k ∨ w.heap.size ≤ k := by
  rcases hown.2 with ⟨rfl, rfl⟩ | ⟨g, o, cap, cur, rfl, hbg, hg, hnc, hcm, hcs, htake⟩
  · have hx : xs = [] := List.eq_nil_of_length_eq_zero (by simpa using hown.1)
    subst hx
    obtain ⟨v', w', r, r1, r2, _⟩ := run_append_own (P := P) w w.heap.size t ty e i z size bytes ht hi hz hsize hby hzs hsz (.slice none 0 0) 0 [] (World.ownsRow_nil w w.heap.size e size) a m c news hl hnews h1 h63 hbytes (Nat.le_refl _)
    exact ⟨v', w', r, (QRow.of_own r1).mono hbase, r2, fun k hk => .inr ((QRow.of_own r1).lt k hk).1⟩
  · subst hsize
    subst hby
    have hlen : (xs ++ news).length = (n + m) * i.size := by rw [List.length_append, hown.1, hl, Nat.add_mul]
    by_cases hroom : n + m ≤ cap
    · have hmul : (n + m) * i.size ≤ cap * i.size := Nat.mul_le_mul_right _ hroom
      have hfit : o + n * i.size + 0 + news.length ≤ cur.size := by rw [hl]; rw [Nat.add_mul] at hmul; omega
      have hf := run_firstCells_some (P := P) w i.size m a m c news hl hnews
      have hst := run_storeCells_at P g (o + n * i.size) e news 0 cur w hg hfit h1
      simp only [Nat.add_zero] at hst hfit
      refine ⟨.slice (some ⟨g, o, none⟩) (n + m) cap, w.setRow g (cur.toList.take (o + n * i.size) ++ news ++ cur.toList.drop (o + n * i.size + news.length)).toArray, ?_, ⟨hlen, .inr ⟨g, o, cap, _, rfl, hbg, setRow_heap w g cur (cur.toList.take (o + n * i.size) ++ news ++ cur.toList.drop (o + n * i.size + news.length)).toArray e _ hg, hroom, hcm, ?_, ?_⟩⟩, ⟨rfl, rfl, rfl, by simp, fun k _ hk => setRow_other w g k _ (fun e => hk (by simp [Value.ownBlock, e]))⟩, fun k hk => .inl hk⟩
      · simp [Builtin.append_, run_underlying ht, sizeOf, typeInfo, hi, Builtin.lenOf, hroom, hf, Addr.add_lit, hst]
      · simp only [List.size_toArray, List.length_append, List.length_take, List.length_drop, Array.length_toList]
        omega
      · intro j hj
        simp only [List.getElem?_toArray]
        have ht1 : (cur.toList.take (o + n * i.size)).length = o + n * i.size := by simp; omega
        by_cases hjn : j < n * i.size
        · rw [List.append_assoc, List.getElem?_append_left (by omega), List.getElem?_take, if_pos (by omega)]
          rw [List.getElem?_append_left (by rw [hown.1]; exact hjn)]
          simpa using htake j hjn
        · rw [List.append_assoc, List.getElem?_append_right (by omega), ht1, List.getElem?_append_left (by rw [hl]; rw [Nat.add_mul] at hj; omega)]
          rw [List.getElem?_append_right (by rw [hown.1]; omega), hown.1]
          congr 1; omega
    · have holds : ∀ j u, xs[j]? = some u → w.cell? ((⟨g, o, none⟩ : Addr).add j) = some u := fun j u hu => by
        have hj : j < n * i.size := by rw [← hown.1]; exact (List.getElem?_eq_some_iff.1 hu).1
        rw [Addr.add_lit]
        simp [World.cell?, hg, htake j hj, hu]
      have hr := run_append_grow (P := P) (ty := ty) w t e i z ht hi hz ⟨g, o, none⟩ n cap xs hown.1 holds a m c news hl hnews (by omega) (by simp only [maxLen] at h63; omega) (growslice_fits (by omega) hbytes)
      have hge := grownCap_ge w (n + m) cap e
      have hcm' : grownCap w (n + m) cap e ≤ maxLen := grownCap_le_maxLen w (n + m) cap e h63
      refine ⟨_, _, hr, ⟨hlen, .inr ⟨w.heap.size, 0, _, _, rfl, hbase, World.alloc_heap_new w.drew _, hge, hcm', ?_, ?_⟩⟩, ⟨rfl, rfl, rfl, by simp, fun k hk _ => Below.heap_alloc w.drew _ k hk⟩, fun k hk => .inr (by cases hk; exact Nat.le_refl _)⟩
      · simp only [Array.size_append, List.size_toArray, size_zeroCells, hzs, hown.1, hl, ← Nat.add_mul, Nat.zero_add]
        apply Nat.le_of_eq
        congr 1
        omega
      · intro j hj
        rw [Nat.zero_add, Array.append_assoc, Array.getElem?_append]
        by_cases hjx : j < xs.length
        · rw [if_pos (by simpa using hjx), List.getElem?_append_left hjx]; simp
        · rw [if_neg (by simpa using hjx), List.getElem?_append_right (by omega), Array.getElem?_append, if_pos (by have := hown.1; rw [Nat.add_mul] at hj; simp; omega)]
          simp
theorem wpList_append_q (w : World) {ops : Array Oper} {rest : List Oper} {o : Oper} {a : Act} {Q : Exit → Act → World → Prop}
    (hgd : o.guard = none) (s x : Operand) (t : TypeId) (ho : o.op = Op.call { callee := Callee.builtin Builtin.append, args := #[s, x], argTypes := #[t, t] })
    (base : Nat) (e : TypeId) (i : TypeInfo) (z : Value) (size bytes : Nat) (h1 : P.underlying t = some (.slice e)) (h2 : P.info? e = some i) (h3 : i.zero = some z) (h4 : i.size = size) (h5 : i.bytes = bytes) (h6 : z.cells.size = size) (h7 : 0 < size)
    (v : Value) (k : Nat) (xs : List Value) (hs : a.eval s = v) (hown : QRow w base e size v k xs) (ad : Addr) (m c : Nat) (news : List Value) (hx : a.eval x = .slice (some ad) m c) (hn : news.length = m * size)
    (hc : ∀ j u, news[j]? = some u → w.cell? (ad.add j) = some u) (h1c : ∀ u ∈ news, u.oneCell' = true) (b1 : k + m ≤ maxLen) (b2 : (k + m) * bytes ≤ 140737488355328) (b3 : base ≤ w.heap.size)
    (hK : ∀ v' w', QRow w' base e size v' (k + m) (xs ++ news) → w.grownBy w' v.ownBlock → (∀ k, v'.ownBlock = some k → v.ownBlock = some k ∨ w.heap.size ≤ k) → wpList P ops Q rest (a.put o.dst v') w') :
    wpList P ops Q (o :: rest) a w := by
  refine wpList_plain hgd fun K hK' => ?_
  obtain ⟨v', w', hr, r1, r2, r3⟩ := run_append_q (P := P) w base t o.type e i z size bytes h1 h2 h3 h4 h5 h6 h7 v k xs hown ad m c news hn hc h1c b1 b2 b3
  unfold Oper.wp execOp
  simp only [ho, resolve, invoke, builtin, Sem.run_bind, Sem.run_pure, Result.andThen_ok, List.map_toArray, List.map_cons, List.map_nil, hs, hx, hr]
  exact hK' _ _ (hK v' w' r1 r2 r3)
theorem wpListIn_append_q (w : World) {ops : Array Oper} {rest : List Oper} {o : Oper} {a : Act} {Q : Exit → Act → World → Prop}
    (hg : o.guard = none) (s x : Operand) (t : TypeId) (hop : o.op = Op.call { callee := Callee.builtin Builtin.append, args := #[s, x], argTypes := #[t, t] })
    (base : Nat) (e : TypeId) (i : TypeInfo) (z : Value) (size bytes : Nat) (h1 : P.underlying t = some (.slice e)) (h2 : P.info? e = some i) (h3 : i.zero = some z) (h4 : i.size = size) (h5 : i.bytes = bytes) (h6 : z.cells.size = size) (h7 : 0 < size)
    (v : Value) (k : Nat) (xs : List Value) (hs : a.eval s = v) (hown : QRow w base e size v k xs) (ad : Addr) (m c : Nat) (news : List Value) (hx : a.eval x = .slice (some ad) m c) (hn : news.length = m * size)
    (hc : ∀ j u, news[j]? = some u → w.cell? (ad.add j) = some u) (h1c : ∀ u ∈ news, u.oneCell' = true) (b1 : k + m ≤ maxLen) (b2 : (k + m) * bytes ≤ 140737488355328) (b3 : base ≤ w.heap.size)
    (hK : ∀ v' w', QRow w' base e size v' (k + m) (xs ++ news) → w.grownBy w' v.ownBlock → (∀ k, v'.ownBlock = some k → v.ownBlock = some k ∨ w.heap.size ≤ k) → wpListIn F N P ops Q rest (a.put o.dst v') w') :
    wpListIn F N P ops Q (o :: rest) a w := by
  refine wpListIn_plain hg fun K hK' => ?_
  obtain ⟨v', w', hrun, r1, r2, r3⟩ := run_append_q (P := P) w base t o.type e i z size bytes h1 h2 h3 h4 h5 h6 h7 v k xs hown ad m c news hn hc h1c b1 b2 b3
  unfold Oper.wpIn
  refine ⟨?_, ?_⟩
  · simp [Oper.about, hop, resolve, Target.leads, Sem.run_pure]
  · rw [Oper.semAt_eq _ _ _ (by rw [hop]; intro c hc'; cases hc')]
    simp [execOp, hop, resolve, invoke, builtin, hs, hx, hrun, Result.andThen]
    exact hK' _ _ (hK v' w' r1 r2 r3)
theorem QRow.isSlice {w : World} {base : Nat} {e : TypeId} {size : Nat} {v : Value} {n : Nat} {xs : List Value} (h : QRow w base e size v n xs) : ∃ p c, v = .slice p n c := by
  rcases h.2 with ⟨rfl, rfl⟩ | ⟨g, o, cap, cur, rfl, _⟩
  · exact ⟨none, 0, rfl⟩
  · exact ⟨_, _, rfl⟩
/-- what is left behind the first -/
theorem QRow.tail {w : World} {base : Nat} {e : TypeId} {size : Nat} {g o cap n : Nat} {xs : List Value} (h : QRow w base e size (.slice (some ⟨g, o, none⟩) (n + 1) cap) (n + 1) xs) :
    QRow w base e size (.slice (some (if cap = 1 then ⟨g, o, none⟩ else ⟨g, o + size, none⟩)) n (cap - 1)) n (xs.drop size) := by
  refine ⟨by rw [List.length_drop, h.1, Nat.add_mul, Nat.one_mul, Nat.add_sub_cancel], .inr ?_⟩
  rcases h.2 with ⟨e0, _⟩ | ⟨g', o', cap', cur, e1, hb, hg, h1, h2, h3, h4⟩
  · cases e0
  · cases e1
    by_cases hc : cap = 1
    · subst hc
      have hn : n = 0 := by omega
      subst hn
      exact ⟨g, o, 0, cur, rfl, hb, hg, by omega, by omega, by omega, fun j hj => by omega⟩
    · have hcs : (cap - 1) * size + size = cap * size := by rw [Nat.sub_mul, Nat.one_mul, Nat.sub_add_cancel]; exact Nat.le_mul_of_pos_left _ (by omega)
      refine ⟨g, o + size, cap - 1, cur, by rw [if_neg hc], hb, hg, by omega, by omega, by omega, fun j hj => ?_⟩
      rw [List.getElem?_drop, ← h4 (size + j) (by rw [Nat.add_mul, Nat.one_mul]; omega), Nat.add_assoc]
end Go.Proofs.YtgpijajgaclhfaaDoor
namespace Go.Proofs.YtgpijajgaclhfaaDoor
open Go.RowKit
attribute [local go_sem] Oper.semAt_some

structure Ag (ex : Nat → Prop) (W W' : World) : Prop where
  os : W'.os = W.os
  tape : W'.tape = W.tape
  output : W'.output = W.output
  size : W.heap.size ≤ W'.heap.size
  block : ∀ k, k < W.heap.size → ¬ ex k → W'.heap[k]? = W.heap[k]?
theorem Ag.refl (ex : Nat → Prop) (W : World) : Ag ex W W := ⟨rfl, rfl, rfl, Nat.le_refl _, fun _ _ _ => rfl⟩
theorem Ag.trans {ex : Nat → Prop} {A B C : World} (h : Ag ex A B) (k : Ag ex B C) : Ag ex A C :=
  ⟨k.os.trans h.os, k.tape.trans h.tape, k.output.trans h.output, Nat.le_trans h.size k.size, fun i hi hn => (k.block i (Nat.lt_of_lt_of_le hi h.size) hn).trans (h.block i hi hn)⟩
theorem Ag.mono {ex ex' : Nat → Prop} {A B : World} (h : Ag ex A B) (he : ∀ k, ex k → ex' k) : Ag ex' A B := ⟨h.os, h.tape, h.output, h.size, fun k hk hn => h.block k hk (fun e => hn (he k e))⟩
theorem Ag.of_grown {ex : Nat → Prop} {A B : World} {row : Option Nat} (h : A.grownBy B row) (he : ∀ k, row = some k → ex k) : Ag ex A B :=
  ⟨h.os, h.tape, h.output, h.size, fun k hk hn => h.block k hk (fun e => hn (he k e.symm))⟩
theorem Ag.alloc {ex : Nat → Prop} {A B : World} (h : Ag ex A B) (o : Obj) : Ag ex A (B.alloc o) := h.trans (Ag.of_grown (World.grownBy_alloc B o none) (fun _ e => by cases e))
theorem Ag.drewN {ex : Nat → Prop} {A B : World} (h : Ag ex A B) (n : Nat) : Ag ex A (B.drewN n) := ⟨h.os, h.tape, h.output, h.size, h.block⟩
theorem Ag.set {ex : Nat → Prop} {A B : World} (h : Ag ex A B) (a : Addr) (v : Value) (he : A.heap.size ≤ a.block ∨ ex a.block) : Ag ex A (B.setCell a v) := by
  refine ⟨h.os, h.tape, h.output, by simpa using h.size, fun k hk hn => ?_⟩
  rw [← h.block k hk hn]
  show (B.heap.modify a.block _)[k]? = _
  rw [Array.getElem?_modify]
  have : a.block ≠ k := fun e => by
    rcases he with he | he
    · omega
    · exact hn (e ▸ he)
  simp [this]
theorem Ag.grown {ex : Nat → Prop} {A B C : World} {row : Option Nat} (h : Ag ex A B) (hg : B.grownBy C row) (he : ∀ k, row = some k → A.heap.size ≤ k ∨ ex k) : Ag ex A C :=
  ⟨hg.os.trans h.os, hg.tape.trans h.tape, hg.output.trans h.output, Nat.le_trans h.size hg.size, fun k hk hn => (hg.block k (Nat.lt_of_lt_of_le hk h.size) (fun e => by
    rcases he k e.symm with he | he
    · omega
    · exact hn he)).trans (h.block k hk hn)⟩
theorem Ag.below {ex : Nat → Prop} {n : Nat} {w A B : World} (h : Ag ex A B) (hb : Below n w A) (hn : n ≤ A.heap.size) (he : ∀ k, k < n → ¬ ex k) : Below n w B :=
  ⟨h.os.trans hb.os, h.tape.trans hb.tape, h.output.trans hb.output, Nat.le_trans hb.size h.size, fun k hk => (h.block k (by omega) (he k hk)).trans (hb.block k hk)⟩
theorem Ag.boxed {ex : Nat → Prop} {A B : World} (h : Ag ex A B) {b : Nat} {t : TypeId} {v : Value} (hb : Boxed A b t v) (he : ¬ ex b) : Boxed B b t v := (h.block b hb.lt he).trans hb
theorem Ag.boxN {ex : Nat → Prop} {A B : World} (h : Ag ex A B) {b : Nat} {t : TypeId} {vs : Array Value} (hb : BoxN A b t vs) (he : ¬ ex b) : BoxN B b t vs := (h.block b hb.lt he).trans hb
theorem Ag.obj {ex : Nat → Prop} {A B : World} (h : Ag ex A B) {b : Nat} {o : Obj} (hb : A.heap[b]? = some o) (he : ¬ ex b) : B.heap[b]? = some o := (h.block b (Array.getElem?_eq_some_iff.1 hb).1 he).trans hb
theorem Ag.qrow {ex : Nat → Prop} {A B : World} (h : Ag ex A B) {base : Nat} {e : TypeId} {size : Nat} {v : Value} {n : Nat} {xs : List Value} (hq : QRow A base e size v n xs) (he : ∀ k, v.ownBlock = some k → ¬ ex k) : QRow B base e size v n xs := by
  refine ⟨hq.1, hq.2.imp id ?_⟩
  rintro ⟨g, o, cap, cur, rfl, e2, e3, e4⟩
  exact ⟨g, o, cap, cur, rfl, e2, h.obj e3 (he g rfl), e4⟩
/-- a row and a box of another type lie apart -/
theorem QRow.ne_box {W : World} {base : Nat} {e : TypeId} {size : Nat} {v : Value} {n : Nat} {xs : List Value} (hq : QRow W base e size v n xs) {b : Nat} {t : TypeId} {u : Value} (hb : Boxed W b t u) (hte : t ≠ e) : v.ownBlock ≠ some b := fun hv => by
  rcases hq.2 with ⟨rfl, _⟩ | ⟨g, o, cap, cur, rfl, _, e3, _⟩
  · cases hv
  · cases hv
    rw [show W.heap[g]? = _ from hb] at e3
    cases e3; exact hte rfl
theorem KeepsFrom.of_ag {ex : Nat → Prop} {B : Nat} {W W' : World} (h : Ag ex W W') (he : ∀ k o, B ≤ k → W.heap[k]? = some o → o.isCells = false → ¬ ex k) : KeepsFrom B W W' :=
  ⟨h.size, fun k o hB hk hc => h.obj hk (he k o hB hk hc)⟩
theorem KeepsBox.of_ag {ex : Nat → Prop} {b : Nat} {W W' : World} (h : Ag ex W W') (he : ¬ ex b) : KeepsBox b W W' := fun v hv => by
  obtain ⟨o, ho, hc⟩ := cells_of_cell hv
  have := h.obj (b := b) ho he
  exact (World.cell?_of_block (this.trans ho.symm)).trans hv

/-- THE LAW OF A LOOP OVER THE SETS WITHIN A SET whose body may write what lay before the loop. -/
theorem rf_setsG {P : Program} {n : Nat} {g : Operand} {t d : Nat} {id : Nat} {ty : TypeId} {pos : String} {aft : Array Edge} {body : Code} {Q : Exit → Act → World → Prop} {a : Act} {w : World}
    (h1 : 1 ≤ n) {gf : Nat} {lb : Array Value} (hg : a.eval g = .func (.func gf) #[] lb) (eg : ∀ args w, (callFunc gf args).run P w = .ok (.enter gf args) w)
    {Kp : World → World → Prop} {S Sp : List S20 → Prop} {N : Nat} (hseq : SeqStopsK Fence.wide (n - 1) P gf lb (fun x : S20 => #[Value.int .i64 (x.1 : Int)]) Kp S Sp N w)
    (hKt : ∀ {A B C : World}, Kp A B → Kp B C → Kp A C) (hKb : ∀ (W : World) (l : Nat) (o o' : Obj), w.heap.size ≤ l → W.heap[l]? = some o → o.isCells = false → o.isWalk = false → Kp W (W.putObj l o')) (hKr : ∀ W, Kp W W)
    (ht : t < a.tmps.size) (I : List S20 → World → Prop) (Ix : Code → List S20 → World → Prop) (hI : OwnFrom w.heap.size I) (hIx : ∀ c, OwnFrom w.heap.size (Ix c)) (h0 : I [] w)
    (hbody : ∀ (l : Nat) (pre : List S20) (x : S20) (W : World), I pre W → pre.length < N → body.wpIn (Fence.wide.inRound l) (n - 1 - 1) P (ownPostG w.heap.size Kp I Ix (pre ++ [x]) W) { tmps := (a.tmps.setIfInBounds t (.int .i64 (x.1 : Int))).setIfInBounds d (.int .i64 (x.1 : Int)), defers := [] } W)
    (hdone : ∀ (D : Nat) (xs : List S20) (W : World), w.heap.size ≤ D → S xs → I xs W → W.heap[D]? = some (.deferred (some [])) → Q .normal { a with defers := { target := .collected D, args := #[] } :: a.defers } W)
    (hstop : ∀ (D : Nat) (c : Code) (pre : List S20) (W : World), w.heap.size ≤ D → Sp pre → Ix c pre W → W.heap[D]? = some (.deferred (some [])) → c.wpIn Fence.wide n P Q { a with defers := { target := .collected D, args := #[] } :: a.defers } W) :
    (Code.rangeFunc g #[t] (Code.region id #[{ dst := some d, op := Op.assign (Operand.tmp t), type := ty, pos := pos, after := aft, guard := none }] false) body).wpIn Fence.wide n P Q a w := by
  refine wpIn_rangeFunc_ownG_of_H rfl h1 hg trivial eg hseq (fun h k => hKt h k) hKb (Below.refl _ _) (fun _ => rfl) I Ix hI hIx h0 (fun x => { tmps := (a.tmps.setIfInBounds t (.int .i64 (x.1 : Int))).setIfInBounds d (.int .i64 (x.1 : Int)), defers := [] }) ?_ hbody hdone hstop hKr
  intro l x W K hK
  have e : (Array.zip #[t] #[Value.int .i64 (x.1 : Int)]).foldl (fun t (p, v) => t.setIfInBounds p v) a.tmps = a.tmps.setIfInBounds t (.int .i64 (x.1 : Int)) := by simp
  rw [e]
  have hv : (a.tmps.setIfInBounds t (.int .i64 (x.1 : Int))).getD t undef = .int .i64 (x.1 : Int) := by simp [Array.getD, ht]
  gi_wp2
  exact hK
end Go.Proofs.YtgpijajgaclhfaaDoor
namespace Go.Proofs.YtgpijajgaclhfaaDoor
open Go.RowKit Go.Shelf

/-- a slice of pairs as it comes in: it fits its capacity, and is nil only if it has none -/
structure PairsIn (w : World) (a : Option Addr) (cap : Nat) (ps : List (Int × Int)) : Prop where
  g : Pairs w a ps
  fits : ps.length ≤ cap
  capm : cap ≤ maxLen
  nil : a = none → cap = 0
theorem info49 : (Tryd.prog.info? 39).map (fun i => (i.zero, i.size, i.bytes)) = some (some (.agg #[.int .i64 0, .int .i64 0]), 2, 16) := by kernel_rfl
def pairCells : List (Int × Int) → List Value
  | [] => []
  | p :: ps => .int .i64 p.1 :: .int .i64 p.2 :: pairCells ps
theorem pairCells_length : ∀ ps, (pairCells ps).length = ps.length * 2
  | [] => rfl
  | p :: ps => by simp only [pairCells, List.length_cons, pairCells_length ps]; omega
theorem pairCells_get : ∀ (ps : List (Int × Int)) (j : Nat), j < ps.length → (pairCells ps)[j * 2]? = some (.int .i64 (ps[j]?.getD (0, 0)).1) ∧ (pairCells ps)[j * 2 + 1]? = some (.int .i64 (ps[j]?.getD (0, 0)).2)
  | p :: ps, 0, _ => ⟨rfl, rfl⟩
  | p :: ps, j + 1, h => by
    have ih := pairCells_get ps j (by simpa using h)
    rw [show (j + 1) * 2 = j * 2 + 1 + 1 by omega, show j * 2 + 1 + 1 + 1 = (j * 2 + 1) + 1 + 1 by omega]
    simp only [pairCells, List.getElem?_cons_succ]
    exact ih
theorem pairCells_one (ps : List (Int × Int)) : ∀ u ∈ pairCells ps, u.oneCell' = true := by
  induction ps with
  | nil => intro u hu; cases hu
  | cons p ps ih =>
    intro u hu
    rcases List.mem_cons.1 hu with rfl | hu
    · rfl
    · rcases List.mem_cons.1 hu with rfl | hu
      · rfl
      · exact ih u hu
theorem info3 : (Tryd.prog.info? 3).map (fun i => (i.zero, i.size, i.bytes)) = some (some (.int .i64 0), 1, 8) := by kernel_rfl
theorem cells_new1 (W : World) (t : TypeId) (u : Value) : ∀ (j : Nat) (x : Value), [u][j]? = some x → (W.alloc (.cells #[u] t)).cell? ((⟨W.heap.size, 0, none⟩ : Addr).add j) = some x := fun j x h => by
  rw [Addr.add_lit, Nat.zero_add, (BoxN.new (W := W) (t := t) (vs := #[u]) rfl).cell]
  simpa using h
end Go.Proofs.YtgpijajgaclhfaaDoor
namespace Go.Proofs.YtgpijajgaclhfaaDoor
open Go.RowKit
variable {P : Program}

/-- a source of values, nil where there are none -/
def Src (w : World) (p : Option Addr) (m size : Nat) (ys : List Value) : Prop := ys.length = m * size ∧ (m ≠ 0 → ∃ ad, p = some ad ∧ ∀ j u, ys[j]? = some u → w.cell? (ad.add j) = some u)
theorem QRow.src {w : World} {base : Nat} {e : TypeId} {size : Nat} {p : Option Addr} {m c : Nat} {ys : List Value} (h : QRow w base e size (.slice p m c) m ys) : Src w p m size ys := by
  refine ⟨h.1, fun hm => ?_⟩
  obtain ⟨g, o, cap, e1, _, _, _, _, h2, _⟩ := h.at (by omega)
  cases e1
  refine ⟨_, rfl, fun j u hu => ?_⟩
  have hj := (List.getElem?_eq_some_iff.1 hu).1
  rw [h.1] at hj
  rw [Addr.add_lit, h2 j hj]; exact hu
theorem run_append_q_nil (w : World) (base : Nat) (t ty e : TypeId) (i : TypeInfo) (size : Nat) (ht : P.underlying t = some (.slice e)) (hi : P.info? e = some i)
    (v : Value) (n : Nat) (xs : List Value) (hown : QRow w base e size v n xs) (c : Nat) : (Builtin.append_ #[t, t] ty #[v, .slice none 0 c]).run P w = .ok v w := by
  rcases hown.2 with ⟨rfl, rfl⟩ | ⟨g, o, cap, cur, rfl, _, _, hnc, _⟩
  · simp [Builtin.append_, run_underlying ht, sizeOf, typeInfo, hi, Builtin.lenOf, Builtin.firstCells]
  · simp [Builtin.append_, run_underlying ht, sizeOf, typeInfo, hi, Builtin.lenOf, Builtin.firstCells, hnc, storeCells]
theorem run_append_qq (w : World) (base : Nat) (t ty e : TypeId) (i : TypeInfo) (z : Value) (size bytes : Nat) (ht : P.underlying t = some (.slice e)) (hi : P.info? e = some i) (hz : i.zero = some z)
    (hsize : i.size = size) (hby : i.bytes = bytes) (hzs : z.cells.size = size) (hsz : 0 < size)
    (v : Value) (n : Nat) (xs : List Value) (hown : QRow w base e size v n xs)
    (p : Option Addr) (m c : Nat) (ys : List Value) (hs : Src w p m size ys) (h1 : ∀ u ∈ ys, u.oneCell' = true)
    (h63 : n + m ≤ maxLen) (hbytes : (n + m) * bytes ≤ 140737488355328) (hbase : base ≤ w.heap.size) :
    ∃ v' w', (Builtin.append_ #[t, t] ty #[v, .slice p m c]).run P w = .ok v' w' ∧ QRow w' base e size v' (n + m) (xs ++ ys) ∧ w.grownBy w' v.ownBlock ∧ ∀ k, v'.ownBlock = some k → v.ownBlock = some k ∨ w.heap.size ≤ k := by
  by_cases hm : m = 0
  · subst hm
    have hn : ys = [] := List.eq_nil_of_length_eq_zero (by simpa using hs.1)
    subst hn
    cases p with
    | none => exact ⟨v, w, run_append_q_nil w base t ty e i size ht hi v n xs hown c, by simpa using hown, World.grownBy.refl w _, fun k hk => .inl hk⟩
    | some ad => exact run_append_q w base t ty e i z size bytes ht hi hz hsize hby hzs hsz v n xs hown ad 0 c [] (by simp) (fun j u hu => by simp at hu) h1 h63 hbytes hbase
  · obtain ⟨ad, rfl, hc⟩ := hs.2 hm
    exact run_append_q w base t ty e i z size bytes ht hi hz hsize hby hzs hsz v n xs hown ad m c ys hs.1 hc h1 h63 hbytes hbase
theorem wpList_append_qq (w : World) {ops : Array Oper} {rest : List Oper} {o : Oper} {a : Act} {Q : Exit → Act → World → Prop}
    (hgd : o.guard = none) (s x : Operand) (t : TypeId) (ho : o.op = Op.call { callee := Callee.builtin Builtin.append, args := #[s, x], argTypes := #[t, t] })
    (base : Nat) (e : TypeId) (i : TypeInfo) (z : Value) (size bytes : Nat) (h1 : P.underlying t = some (.slice e)) (h2 : P.info? e = some i) (h3 : i.zero = some z) (h4 : i.size = size) (h5 : i.bytes = bytes) (h6 : z.cells.size = size) (h7 : 0 < size)
    (v : Value) (k : Nat) (xs : List Value) (hs : a.eval s = v) (hown : QRow w base e size v k xs) (p : Option Addr) (m c : Nat) (ys : List Value) (hx : a.eval x = .slice p m c) (hn : Src w p m size ys)
    (h1c : ∀ u ∈ ys, u.oneCell' = true) (b1 : k + m ≤ maxLen) (b2 : (k + m) * bytes ≤ 140737488355328) (b3 : base ≤ w.heap.size)
    (hK : ∀ v' w', QRow w' base e size v' (k + m) (xs ++ ys) → w.grownBy w' v.ownBlock → (∀ k, v'.ownBlock = some k → v.ownBlock = some k ∨ w.heap.size ≤ k) → wpList P ops Q rest (a.put o.dst v') w') :
    wpList P ops Q (o :: rest) a w := by
  refine wpList_plain hgd fun K hK' => ?_
  obtain ⟨v', w', hr, r1, r2, r3⟩ := run_append_qq (P := P) w base t o.type e i z size bytes h1 h2 h3 h4 h5 h6 h7 v k xs hown p m c ys hn h1c b1 b2 b3
  unfold Oper.wp execOp
  simp only [ho, resolve, invoke, builtin, Sem.run_bind, Sem.run_pure, Result.andThen_ok, List.map_toArray, List.map_cons, List.map_nil, hs, hx, hr]
  exact hK' _ _ (hK v' w' r1 r2 r3)
end Go.Proofs.YtgpijajgaclhfaaDoor
