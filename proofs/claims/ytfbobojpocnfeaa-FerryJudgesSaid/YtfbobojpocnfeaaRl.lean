/- The laws of loops over the sets within a set, as the program's structure nests them: whatever lay before is kept, but two boxes where it stops. -/
import Derived.Test.YtfbobojpocnfeaaSt
namespace Go.Proofs.Ytfbobojpocnfeaa
open Go.RowKit Go.Shelf
attribute [local go_sem] Oper.semAt_some

theorem ownFrom_ag {β : Type} {B : Nat} {ex : Nat → Prop} {w : World} (hB : w.heap.size ≤ B) : OwnFrom B (fun (_ : β) W => Ag ex w W) := fun _ X Y row hs hg hr =>
  ⟨hg.os.trans hs.os, hg.tape.trans hs.tape, hg.output.trans hs.output, Nat.le_trans hs.size hg.size, fun k hk hn => (hg.block k (Nat.lt_of_lt_of_le hk hs.size) (fun e => by have := (hr k e.symm).1; omega)).trans (hs.block k hk hn)⟩
theorem below_kf {B : Nat} {W W' : World} (h : Below W.heap.size W W') : KeepsFrom B W W' := ⟨h.size, fun k o _ hk _ => (h.block k (Array.getElem?_eq_some_iff.1 hk).1).trans hk⟩
theorem below_kb {B : Nat} {W W' : World} (h : Below W.heap.size W W') : KeepsBox B W W' := fun v hv => by
  obtain ⟨o, ho, hc⟩ := cells_of_cell hv
  exact (h.cell (p := ⟨B, 0, none⟩) (Array.getElem?_eq_some_iff.1 ho).1).trans hv
theorem within_of_stop {set : Nat} (hset : Sm set) {p : List S20} {x : S20} (h : ∃ s, Within s set ∧ p ++ [x] = (subsLt set (s + 1)).map toS) : Within x.1 set := by
  obtain ⟨s, hs, e⟩ := h
  have : x ∈ (subsLt set (s + 1)).map toS := by rw [← e]; simp
  obtain ⟨t, ht, rfl⟩ := List.mem_map.1 this
  have hw := (mem_subsLt.1 ht).2
  rw [toS_val (Nat.lt_of_le_of_lt hw.le hset)]
  exact hw

theorem rfN {P : Program} {n : Nat} {g : Operand} {t : Nat} {assign body : Code} {Q : Exit → Act → World → Prop} {a : Act} {w : World} {l₀ Bs set : Nat}
    (hl₀ : ∃ r, w.heap[l₀]? = some (.loop r)) (h1 : 1 ≤ n) (hn : 1 ≤ n - 1) (hg : a.eval g = .func (.func 52) #[] #[.pointer (some ⟨Bs, 0, none⟩)]) (hP : P = Try.prog)
    (hset : Sm set) (hBs : Bs < w.heap.size) (hc : w.cell? ⟨Bs, 0, none⟩ = some (.int .i64 (set : Int))) (Good : Nat → Prop) (Fd : Nat → World → Prop) (hFd : ∀ x, OwnFrom w.heap.size (fun (_ : Unit) W => Fd x W))
    {b4 b5 : Nat} (h4 : b4 < w.heap.size) (h5 : b5 < w.heap.size) (Ax : S20 → Act → World → Prop) (hAx : ∀ x a', OwnFrom w.heap.size (fun (_ : Unit) W => Ax x a' W))
    (hassign : ∀ (l : Nat) (x : S20) (W : World) (K : Act → World → Prop), Below w.heap.size w W → (∀ a' W', Below W.heap.size W W' → Ax x a' W' → K a' W') →
      assign.wpIn (Fence.wide.inRound l) (n - 1 - 1) P (Exit.then K (fun _ _ _ => False)) { tmps := a.tmps.setIfInBounds t (.int .i64 (x.1 : Int)), defers := [] } W)
    (hbody : ∀ (l : Nat) (x : S20) (a' : Act) (W : World), (∃ r, W.heap[l]? = some (.loop r)) → Below w.heap.size w W → Ax x a' W → body.wpIn (Fence.wide.inRound l) (n - 1 - 1) P (StPost W b4 b5 (Good x.1) (Fd x.1)) a' W)
    (hdone : ∀ W, Below w.heap.size w W → (∀ y, Within y set → ¬ Good y) → Q .normal a W)
    (hstop : ∀ W y, Within y set → Fd y W → Ag (fun k => k = b4 ∨ k = b5) w W → Q (.exit 0) a W) :
    (Code.rangeFunc g #[t] assign body).wpIn (Fence.wide.inRound l₀) n P Q a w := by
  subst hP
  obtain ⟨r, hr⟩ := hl₀
  refine wpIn_rangeFunc_ownN (α := S20) (l₀ := l₀) (r₀ := r) rfl hr h1 (gf := 52) hg trivial (enters_of Try.func52 (by kernel_rfl) rfl)
    ((within_stops (n - 1) hn Bs set hset w hBs hc).inRound l₀) keepsBox_t keepsBox_b (Below.refl _ _) (fun _ => rfl)
    (fun pre W => (∀ y ∈ pre, ¬ Good y.1) ∧ Below w.heap.size w W)
    (fun c pre W => (c = .exit 0 ∧ ∃ p x, pre = p ++ [x] ∧ Fd x.1 W) ∧ Ag (fun k => k = b4 ∨ k = b5) w W)
    (OwnFrom.and (ownFrom_pure _ _) (ownFrom_below (Nat.le_refl _) (Nat.le_refl _)))
    (fun c => OwnFrom.and (fun s A B row hs hg hr => ⟨hs.1, by obtain ⟨p, x, e, hf⟩ := hs.2; exact ⟨p, x, e, hFd x.1 () A B row hf hg hr⟩⟩) (ownFrom_ag (Nat.le_refl _)))
    ⟨fun y hy => by simp at hy, Below.refl _ _⟩ Ax hAx ?assign ?body ?done ?stop
  case assign =>
    rintro l pre x W K ⟨hp, hB⟩ hK
    have e : (Array.zip #[t] #[Value.int .i64 (x.1 : Int)]).foldl (fun t (p, v) => t.setIfInBounds p v) a.tmps = a.tmps.setIfInBounds t (.int .i64 (x.1 : Int)) := by simp
    rw [e]
    exact hassign l x W K hB (fun a' W' h hA => hK a' W' (below_kf h) (below_kb h) ⟨hp, hB.trans (h.mono hB.size)⟩ hA)
  case body =>
    rintro l pre x a' W hl ⟨r, hr⟩ ⟨hp, hB⟩ hA _
    refine wpIn_mono (hbody l x a' W ⟨r, hr⟩ hB hA) ?_
    rintro e a3 W3 hpost
    cases e with
    | normal =>
      obtain ⟨hB3, hno⟩ := hpost
      exact ⟨(below_kf hB3), (below_kb hB3), fun y hy => by
        rcases List.mem_append.1 hy with hy | hy
        · exact hp y hy
        · simp at hy; subst hy; exact hno, hB.trans (hB3.mono hB.size)⟩
    | exit id =>
      obtain ⟨rfl, hf, hag⟩ := hpost
      exact ⟨KeepsFrom.of_ag hag (fun k o hk _ _ e => by rcases e with e | e <;> omega), ⟨rfl, pre, x, rfl, hf⟩, (Ag.of_below (hB.mono (Nat.le_refl _))).trans hag⟩
    | ret => exact hpost.elim
    | goto t => exact hpost.elim
    | panic c => exact hpost.elim
    | outgrown => exact hpost.elim
  case done =>
    rintro xs W rfl ⟨hp, hB⟩
    exact hdone W hB (fun y hy => by have := hp _ (mem_map_toS hset hy); rwa [toS_val (Nat.lt_of_le_of_lt hy.le hset)] at this)
  case stop =>
    rintro c pre W hs ⟨⟨rfl, p, x, rfl, hf⟩, hag⟩
    gi_wp2
    exact hstop W x.1 (within_of_stop hset hs) hf hag
theorem rfH {P : Program} {n : Nat} {g : Operand} {t : Nat} {assign body : Code} {Q : Exit → Act → World → Prop} {a : Act} {w : World} {Bs set : Nat}
    (h1 : 1 ≤ n) (hn : 1 ≤ n - 1) (hg : a.eval g = .func (.func 52) #[] #[.pointer (some ⟨Bs, 0, none⟩)]) (hP : P = Try.prog)
    (hset : Sm set) (hBs : Bs < w.heap.size) (hc : w.cell? ⟨Bs, 0, none⟩ = some (.int .i64 (set : Int))) (Good : Nat → Prop) (Fd : Nat → World → Prop) (hFd : ∀ x, OwnFrom w.heap.size (fun (_ : Unit) W => Fd x W))
    {b4 b5 : Nat} (h4 : b4 < w.heap.size) (h5 : b5 < w.heap.size) (Ax : S20 → Act → World → Prop) (hAx : ∀ x a', OwnFrom w.heap.size (fun (_ : Unit) W => Ax x a' W))
    (hassign : ∀ (l : Nat) (x : S20) (W : World) (K : Act → World → Prop), Below w.heap.size w W → (∀ a' W', Below W.heap.size W W' → Ax x a' W' → K a' W') →
      assign.wpIn (Fence.wide.inRound l) (n - 1 - 1) P (Exit.then K (fun _ _ _ => False)) { tmps := a.tmps.setIfInBounds t (.int .i64 (x.1 : Int)), defers := [] } W)
    (hbody : ∀ (l : Nat) (x : S20) (a' : Act) (W : World), (∃ r, W.heap[l]? = some (.loop r)) → Below w.heap.size w W → Ax x a' W → body.wpIn (Fence.wide.inRound l) (n - 1 - 1) P (StPost W b4 b5 (Good x.1) (Fd x.1)) a' W)
    (hdone : ∀ D W, w.heap.size ≤ D → W.heap[D]? = some (.deferred (some [])) → Below w.heap.size w W → (∀ y, Within y set → ¬ Good y) → Q .normal { a with defers := { target := .collected D, args := #[] } :: a.defers } W)
    (hstop : ∀ D W y, w.heap.size ≤ D → W.heap[D]? = some (.deferred (some [])) → Within y set → Fd y W → Ag (fun k => k = b4 ∨ k = b5) w W → Q (.exit 0) { a with defers := { target := .collected D, args := #[] } :: a.defers } W) :
    (Code.rangeFunc g #[t] assign body).wpIn Fence.wide n P Q a w := by
  subst hP
  refine wpIn_rangeFunc_ownH (α := S20) rfl h1 (gf := 52) hg trivial (enters_of Try.func52 (by kernel_rfl) rfl)
    (within_stops (n - 1) hn Bs set hset w hBs hc) keepsBox_t keepsBox_b (Below.refl _ _) (fun _ => rfl)
    (fun pre W => (∀ y ∈ pre, ¬ Good y.1) ∧ Below w.heap.size w W)
    (fun c pre W => (c = .exit 0 ∧ ∃ p x, pre = p ++ [x] ∧ Fd x.1 W) ∧ Ag (fun k => k = b4 ∨ k = b5) w W)
    (OwnFrom.and (ownFrom_pure _ _) (ownFrom_below (Nat.le_refl _) (Nat.le_refl _)))
    (fun c => OwnFrom.and (fun s A B row hs hg hr => ⟨hs.1, by obtain ⟨p, x, e, hf⟩ := hs.2; exact ⟨p, x, e, hFd x.1 () A B row hf hg hr⟩⟩) (ownFrom_ag (Nat.le_refl _)))
    ⟨fun y hy => by simp at hy, Below.refl _ _⟩ Ax hAx ?assign ?body ?done ?stop
  case assign =>
    rintro l pre x W K ⟨hp, hB⟩ hK
    have e : (Array.zip #[t] #[Value.int .i64 (x.1 : Int)]).foldl (fun t (p, v) => t.setIfInBounds p v) a.tmps = a.tmps.setIfInBounds t (.int .i64 (x.1 : Int)) := by simp
    rw [e]
    exact hassign l x W K hB (fun a' W' h hA => hK a' W' (below_kf h) (below_kb h) ⟨hp, hB.trans (h.mono hB.size)⟩ hA)
  case body =>
    rintro l pre x a' W hl ⟨r, hr⟩ ⟨hp, hB⟩ hA _
    refine wpIn_mono (hbody l x a' W ⟨r, hr⟩ hB hA) ?_
    rintro e a3 W3 hpost
    cases e with
    | normal =>
      obtain ⟨hB3, hno⟩ := hpost
      exact ⟨(below_kf hB3), (below_kb hB3), fun y hy => by
        rcases List.mem_append.1 hy with hy | hy
        · exact hp y hy
        · simp at hy; subst hy; exact hno, hB.trans (hB3.mono hB.size)⟩
    | exit id =>
      obtain ⟨rfl, hf, hag⟩ := hpost
      exact ⟨KeepsFrom.of_ag hag (fun k o hk _ _ e => by rcases e with e | e <;> omega), ⟨rfl, pre, x, rfl, hf⟩, (Ag.of_below (hB.mono (Nat.le_refl _))).trans hag⟩
    | ret => exact hpost.elim
    | goto t => exact hpost.elim
    | panic c => exact hpost.elim
    | outgrown => exact hpost.elim
  case done =>
    rintro D xs W hD rfl ⟨hp, hB⟩ hK
    exact hdone D W hD hK hB (fun y hy => by have := hp _ (mem_map_toS hset hy); rwa [toS_val (Nat.lt_of_le_of_lt hy.le hset)] at this)
  case stop =>
    rintro D c pre W hD hs ⟨⟨rfl, p, x, rfl, hf⟩, hag⟩ hK
    gi_wp2
    exact hstop D W x.1 hD hK (within_of_stop hset hs) hf hag
end Go.Proofs.Ytfbobojpocnfeaa
