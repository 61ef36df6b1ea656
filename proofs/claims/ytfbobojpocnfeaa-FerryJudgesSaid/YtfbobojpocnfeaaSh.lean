/- The library's functions that the chapter calls, by their contracts off the shelf. -/
import Derived.Test.YtfbobojpocnfeaaAg
import Derived.Test.YtfbobojpocnfeaaLib
import Derived.WalkKit
namespace Go.Proofs.Ytfbobojpocnfeaa
open Go.RowKit Go.Shelf
def setL : List Value → Nat → List Value → List Value
  | xs, _, [] => xs
  | xs, k, v :: r => setL (xs.set k v) (k + 1) r
theorem setL_get : ∀ (vs xs : List Value) (k j : Nat), k + vs.length ≤ xs.length → (setL xs k vs)[j]? = if k ≤ j ∧ j < k + vs.length then vs[j - k]? else xs[j]?
  | [], xs, k, j, _ => by simp [setL]; intro h1 h2; omega
  | v :: r, xs, k, j, h => by
    rw [List.length_cons] at h
    rw [setL, setL_get r (xs.set k v) (k + 1) j (by simp; omega), List.length_cons]
    by_cases e : j = k
    · subst e
      rw [if_neg (by omega), if_pos (by omega), List.getElem?_set_self (by omega)]; simp
    · by_cases e2 : k + 1 ≤ j ∧ j < k + 1 + r.length
      · rw [if_pos e2, if_pos (by omega)]
        obtain ⟨m, rfl⟩ : ∃ m, j = k + 1 + m := ⟨j - (k + 1), by omega⟩
        rw [show k + 1 + m - (k + 1) = m by omega, show k + 1 + m - k = m + 1 by omega, List.getElem?_cons_succ]
      · rw [if_neg e2, if_neg (by omega), List.getElem?_set_ne (Ne.symm e)]
theorem QRow.setCells {base : Nat} {e : TypeId} {size : Nat} {g o cap n : Nat} : ∀ (vs : List Value) (W : World) (xs : List Value) (k : Nat), QRow W base e size (.slice (some ⟨g, o, none⟩) n cap) n xs → k + vs.length ≤ n * size →
    QRow (W.setCells g (o + k) vs) base e size (.slice (some ⟨g, o, none⟩) n cap) n (setL xs k vs) ∧ Ag (· = g) W (W.setCells g (o + k) vs)
  | [], W, xs, k, h, _ => ⟨h, Ag.refl _ _⟩
  | v :: r, W, xs, k, h, hk => by
    rw [List.length_cons] at hk
    have h1 := h.set k (by omega) v
    have h2 := QRow.setCells r _ _ (k + 1) h1 (by omega)
    exact ⟨h2.1, ((Ag.refl (· = g) W).set ⟨g, o + k, none⟩ v (.inr rfl)).trans h2.2⟩
theorem QRow.drewN {W : World} {base : Nat} {e : TypeId} {size : Nat} {v : Value} {n : Nat} {xs : List Value} (h : QRow W base e size v n xs) (k : Nat) : QRow (W.drewN k) base e size v n xs := h
theorem reverse_q (W : World) (base : Nat) (v : Value) (xs : List Int) (h : QRow W base 3 1 v xs.length (xs.map (Value.int .i64))) (hn : xs.length ≤ maxLen) :
    Calls Try.prog 46 #[v] W fun e w' => e = .returned (.tuple #[]) ∧ QRow w' base 3 1 v xs.length (xs.reverse.map (Value.int .i64)) ∧ Ag (fun k => v.ownBlock = some k) W w' := by
  rcases hv : xs with _ | ⟨x, r⟩
  · subst hv
    obtain ⟨p, c, rfl⟩ := h.isSlice
    refine (show Calls Try.prog 46 #[.slice p 0 c] W _ from Any.slices_Reverse_int_empty Try.lays112 p c W).mono ?_
    rintro e w' ⟨rfl, rfl⟩
    exact ⟨rfl, h, Ag.refl _ _⟩
  · rw [← hv]
    obtain ⟨g, o, cap, rfl, h1, h2, h3, h4, h5, h6⟩ := h.at (by rw [hv]; simp)
    refine (show Calls Try.prog 46 #[.slice (some ⟨g, o, none⟩) xs.length cap] W _ from Any.slices_Reverse_int_cells Try.lays112 g o xs.length cap xs W (Nat.le_refl _) (by unfold maxLen at hn; omega) (fun j hj => ?_) (fun j hj => h6 _)).mono ?_
    · rw [h5 j (by omega)]
      simp [List.getElem?_map, List.getElem?_eq_getElem hj, List.getD_eq_getElem?_getD]
    · rintro e w' ⟨rfl, q, rfl⟩
      have := QRow.setCells ((xs.take xs.length).reverse.map (Value.int .i64)) (W.drewN q) _ 0 (h.drewN q) (by simp)
      refine ⟨rfl, ?_, ?_⟩
      · have e2 : setL (xs.map (Value.int .i64)) 0 ((xs.take xs.length).reverse.map (Value.int .i64)) = xs.reverse.map (Value.int .i64) := by
          apply List.ext_getElem?
          intro j
          rw [setL_get _ _ _ _ (by simp)]
          by_cases e : j < xs.length
          · rw [if_pos (by simp; exact e), List.take_length]; rfl
          · rw [if_neg (by simp; omega), List.getElem?_eq_none (by simp; omega), List.getElem?_eq_none (by simp; omega)]
        rw [e2] at this
        exact this.1
      · exact ((Ag.refl _ W).drewN q).trans (this.2.mono (fun k hk => by subst hk; rfl))
end Go.Proofs.Ytfbobojpocnfeaa
