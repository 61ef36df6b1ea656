/- The program's crowd is made out of edges. -/
import Derived.Test.YtfbobojpocnfeaaCm
import Derived.BigRegion
namespace Go.Proofs.Ytfbobojpocnfeaa
open Go.RowKit

/-- an edge more -/
def addE (g : List Nat) (x y : Nat) : List Nat := (g.set x ((g[x]?.getD 0) ||| pw y)).set y ((g[y]?.getD 0) ||| pw x)
/-- the neighbours of each, of edges whose ends are below n -/
def ofE (n : Nat) (ps : List (Int × Int)) : List Nat := ps.foldl (fun g e => addE g e.1.toNat e.2.toNat) (List.replicate n 0)
theorem addE_length (g : List Nat) (x y : Nat) : (addE g x y).length = g.length := by simp [addE]
theorem foldE_length : ∀ (ps : List (Int × Int)) (g : List Nat), (ps.foldl (fun g e => addE g e.1.toNat e.2.toNat) g).length = g.length
  | [], _ => rfl
  | e :: ps, g => by rw [List.foldl_cons, foldE_length ps, addE_length]
theorem ofE_length (n : Nat) (ps : List (Int × Int)) : (ofE n ps).length = n := by unfold ofE; rw [foldE_length]; simp
theorem addE_at (g : List Nat) (x y j : Nat) (hxy : x ≠ y) (hx : x < g.length) (hy : y < g.length) :
    (addE g x y)[j]?.getD 0 = if j = x then (g[x]?.getD 0) ||| pw y else if j = y then (g[y]?.getD 0) ||| pw x else g[j]?.getD 0 := by
  unfold addE
  by_cases e1 : j = x
  · subst e1; rw [List.getElem?_set_ne (Ne.symm hxy), List.getElem?_set_self hx]; simp
  · by_cases e2 : j = y
    · subst e2; rw [List.getElem?_set_self (by simpa using hy)]; simp [e1]
    · rw [List.getElem?_set_ne (Ne.symm e2), List.getElem?_set_ne (Ne.symm e1)]; simp [e1, e2]
theorem addE_sm (g : List Nat) (x y : Nat) (hxy : x ≠ y) (hx : x < g.length) (hy : y < g.length) (hl : g.length < 20) (h : ∀ i : Nat, Sm (g[i]?.getD 0)) (i : Nat) : Sm ((addE g x y)[i]?.getD 0) := by
  rw [addE_at g x y i hxy hx hy]
  split
  · exact sm_or (h x) (sm_pw (by omega))
  · split
    · exact sm_or (h y) (sm_pw (by omega))
    · exact h i
/-- what the check of edges says of each -/
theorem edgesB_at {n : Int} {ps : List (Int × Int)} (h : edgesB n ps = true) (k : Nat) (hk : k < ps.length) : 0 ≤ (ps[k]?.getD (0, 0)).1 ∧ (ps[k]?.getD (0, 0)).1 < (ps[k]?.getD (0, 0)).2 ∧ (ps[k]?.getD (0, 0)).2 < n := by
  unfold edgesB at h
  rw [List.all_eq_true] at h
  have := h k (List.mem_range.2 hk)
  unfold badAt at this
  simp at this
  omega

/-- the cells of a crowd -/
def CrowdCells (vs : Array Value) (n : Nat) (g : List Nat) : Prop := vs.size = 11 ∧ vs[0]? = some (.int .i64 (n : Int)) ∧ ∀ j, j < 10 → vs[1 + j]? = some (.int .i64 ((g[j]?.getD 0 : Nat) : Int))
theorem Crowd.ofBox {W : World} {B : Nat} {t : TypeId} {vs : Array Value} {g : List Nat} (h : BoxN W B t vs) (hc : CrowdCells vs g.length g) : Crowd W B g :=
  ⟨h.lt, by rw [h.cell]; exact hc.2.1, fun j hj => by rw [h.cell]; exact hc.2.2 j hj⟩
theorem CrowdCells.add {vs : Array Value} {n : Nat} {g : List Nat} (h : CrowdCells vs n g) (x y : Nat) (hxy : x ≠ y) (hx : x < g.length) (hy : y < g.length) (hl : g.length ≤ 10) :
    CrowdCells ((vs.setIfInBounds (1 + x) (.int .i64 (((g[x]?.getD 0) ||| pw y : Nat) : Int))).setIfInBounds (1 + y) (.int .i64 (((g[y]?.getD 0) ||| pw x : Nat) : Int))) n (addE g x y) := by
  obtain ⟨h0, h1, h2⟩ := h
  refine ⟨by simp [h0], ?_, fun j hj => ?_⟩
  · rw [Array.getElem?_setIfInBounds_ne (by omega), Array.getElem?_setIfInBounds_ne (by omega)]; exact h1
  · rw [addE_at g x y j hxy hx hy]
    by_cases e1 : j = x
    · subst e1
      rw [Array.getElem?_setIfInBounds_ne (by omega), Array.getElem?_setIfInBounds_self_of_lt (by omega)]; simp
    · by_cases e2 : j = y
      · subst e2
        rw [Array.getElem?_setIfInBounds_self_of_lt (by simp; omega)]; simp [e1]
      · rw [Array.getElem?_setIfInBounds_ne (by omega), Array.getElem?_setIfInBounds_ne (by omega)]; simp [e1, e2]; exact h2 j hj

set_option maxHeartbeats 1000000 in
theorem open_ok (n : Nat) (a : Option Addr) (cap : Nat) (ps : List (Int × Int)) (w : World) (hl : ps.length ≤ 1099511627776) (hg : Pairs w a ps) (hn1 : 1 ≤ n) (hn2 : n ≤ 10) (hok : edgesB n ps = true) :
    Calls Try.prog 33 #[.int .i64 n, .slice a ps.length cap] w fun e w' => ∃ B, e = .returned (.tuple #[.pointer (some ⟨B, 0, none⟩), .int .i64 0]) ∧ w.heap.size ≤ B ∧ Crowd w' B (ofE n ps) ∧ Below w.heap.size w w' := by
  have hchk := pcheck_any n a cap ps w hl hg
  have e0 : checkP n ps = 0 := by unfold checkP; rw [if_neg (by omega), if_pos hok]
  rw [e0] at hchk
  have HCK := Lib.hid hchk
  clear hchk e0
  have HOK := Lib.hid hok
  clear hok
  obtain ⟨len, HL⟩ : ∃ len, Hid (ps.length = len) := ⟨_, rfl⟩
  have HCK2 := HCK.out
  rw [HL.out] at hl HCK2 ⊢
  clear HCK
  have HCK := Lib.hid HCK2
  clear HCK2
  go_enter Try.func33, Try.ntmps33
  go_wp2_with (first | (go_at_call 43; refine (HCK.out).mono ?_; rintro e w1 ⟨rfl, hB1⟩))
  have hsz1 := hB1.size
  go_loopw [23] (fun i wr => ∃ (k : Nat) (vs : Array Value) (g : List Nat), k ≤ len ∧ i = .int .i64 k ∧ Hid (g = ofE n (ps.take k)) ∧ BoxN wr w1.heap.size 68 vs ∧ CrowdCells vs n g ∧ (∀ i : Nat, Sm (g[i]?.getD 0)) ∧ Below w.heap.size w wr) (fun i _ => len - (intOf i).toNat)
  case atStart =>
    refine ⟨0, _, ofE n (ps.take 0), Nat.zero_le _, rfl, rfl, BoxN.new rfl, ⟨rfl, rfl, fun j hj => ?_⟩, fun i => ?_, hB1.alloc hsz1 _⟩
    · have : (ofE n (ps.take 0))[j]?.getD 0 = 0 := by simp [ofE, List.getElem?_replicate]; split <;> rfl
      rw [this]
      rcases (show j = 0 ∨ j = 1 ∨ j = 2 ∨ j = 3 ∨ j = 4 ∨ j = 5 ∨ j = 6 ∨ j = 7 ∨ j = 8 ∨ j = 9 by omega) with rfl | rfl | rfl | rfl | rfl | rfl | rfl | rfl | rfl | rfl <;> rfl
    · have : (ofE n (ps.take 0))[i]?.getD 0 = 0 := by simp [ofE, List.getElem?_replicate]; split <;> rfl
      rw [this]; exact sm_of (by decide)
  case round =>
    obtain ⟨k, vs, g, hk, rfl, hgk, hbox, hcc, hgsm, hB⟩ := hrel
    have hglen : g.length = n := by rw [hgk.out, ofE_length]
    by_cases hkl : k < len
    · have hsz := hbox.lt
      obtain ⟨b, off, rfl, hb, hc⟩ := hg (by intro e; rw [e] at HL; have := HL.out; simp at this; omega)
      have hck := hc k (by rw [HL.out]; exact hkl)
      have hc1 : wr.cell? ⟨b, off + k * 2, none⟩ = some (.int .i64 (ps[k]?.getD (0, 0)).1) := (hB.cell (p := ⟨b, off + k * 2, none⟩) hb).trans hck.1
      have hc2 : wr.cell? ⟨b, off + k * 2 + 1, none⟩ = some (.int .i64 (ps[k]?.getD (0, 0)).2) := (hB.cell (p := ⟨b, off + k * 2 + 1, none⟩) hb).trans hck.2
      have hat := edgesB_at HOK.out k (by rw [HL.out]; exact hkl)
      have hnext : ofE n (ps.take (k + 1)) = addE g (ps[k]?.getD (0, 0)).1.toNat (ps[k]?.getD (0, 0)).2.toNat := by
        have hlt : k < ps.length := by rw [HL.out]; exact hkl
        rw [hgk.out, List.take_succ_eq_append_getElem hlt]
        unfold ofE
        rw [List.foldl_append]
        simp [List.getElem?_eq_getElem hlt]
      obtain ⟨x, hx⟩ := Int.eq_ofNat_of_zero_le hat.1
      obtain ⟨y, hy⟩ := Int.eq_ofNat_of_zero_le (show 0 ≤ (ps[k]?.getD (0, 0)).2 by omega)
      rw [hx] at hc1 hat hnext
      rw [hy] at hc2 hat hnext
      have hxy : x < y := by omega
      have hyn : y < n := by omega
      simp only [Int.toNat_natCast] at hnext
      have HNX := Lib.hid hnext
      clear hx hy hat hck hc hg hnext
      have l1 := hbox.cell (1 + x)
      have l2 := hbox.cell (1 + y)
      rw [hcc.2.2 x (by omega)] at l1
      rw [hcc.2.2 y (by omega)] at l2
      have lf1 := hbox.frozen (1 + x)
      have lf2 := hbox.frozen (1 + y)
      have hki : ((k : Nat) : Int) < ((len : Nat) : Int) := by omega
      have hx20 : x < 20 := by omega
      have hy20 : y < 20 := by omega
      have hx10 : ((x : Nat) : Int) < 10 := by omega
      have hy10 : ((y : Nat) : Int) < 10 := by omega
      have hgx := hgsm x
      have hgy := hgsm y
      have HG := Lib.hid hgsm
      have HGL := Lib.hid hglen
      clear hgsm hglen
      have l2' : ∀ v, (wr.setCell ⟨w1.heap.size, 1 + x, none⟩ v).cell? ⟨w1.heap.size, 1 + y, none⟩ = some (.int .i64 ((g[y]?.getD 0 : Nat) : Int)) := fun v =>
        (World.cell?_setCell_other _ _ _ _ (fun e => by have := congrArg Addr.off e; simp at this; omega)).trans l2
      clear l2
      go_wp2
      go_region
      go_wp2
      go_region
      go_wp2
      go_roundw
      case rel =>
        refine ⟨k + 1, _, addE g x y, by omega, by go_num, HNX.out.symm, ((hbox.set (1 + x) _).set (1 + y) _).alloc _, hcc.add x y (by omega) (by rw [HGL.out]; omega) (by rw [HGL.out]; omega) (by rw [HGL.out]; omega), addE_sm g x y (by omega) (by rw [HGL.out]; omega) (by rw [HGL.out]; omega) (by rw [HGL.out]; omega) HG.out, ?_⟩
        exact ((hB.setCell (p := ⟨w1.heap.size, 1 + x, none⟩) hsz1 _).setCell (p := ⟨w1.heap.size, 1 + y, none⟩) hsz1 _).alloc (by simp; omega) _ |>.drew |>.drew
      case measure => simp [intOf]; omega
    · go_wp2
      have : k = len := by omega
      subst this
      go_ret2
      refine ⟨w1.heap.size, rfl, hsz1, Crowd.ofBox hbox ?_, hB⟩
      have : ofE n ps = g := by rw [hgk.out, ← HL.out, List.take_length]
      rw [ofE_length, this]
      exact hcc

/-- what the program's look at passengers comes to -/
def openCode (n : Int) (ps : List (Int × Int)) : Int := if checkP n ps ≠ 0 then checkP n ps else if 10 < n then 2 else 0
theorem checkP_cases (n : Int) (ps : List (Int × Int)) : checkP n ps = 0 ∨ checkP n ps = 1 ∨ checkP n ps = 40 := by
  unfold checkP; split
  · simp
  · split <;> simp
theorem open_err (n : Int) (a : Option Addr) (cap : Nat) (ps : List (Int × Int)) (w : World) (hl : ps.length ≤ 1099511627776) (hg : Pairs w a ps) (hne : openCode n ps ≠ 0) :
    Calls Try.prog 33 #[.int .i64 n, .slice a ps.length cap] w fun e w' => e = .returned (.tuple #[.pointer none, .int .i64 (openCode n ps)]) ∧ Below w.heap.size w w' := by
  have hchk := Lib.hid (pcheck_any n a cap ps w hl hg)
  have hc := checkP_cases n ps
  have HE : Hid (openCode n ps = if checkP n ps ≠ 0 then checkP n ps else if 10 < n then 2 else 0) := rfl
  by_cases h0 : checkP n ps = 0
  · have hn : 10 < n := by
      rw [HE.out, h0] at hne
      simp at hne; exact hne
    have HF : Hid (openCode n ps = 2) := by unfold Hid; rw [HE.out, h0]; simp [hn]
    have hchk2 := hchk.out
    rw [h0] at hchk2
    have HCK := Lib.hid hchk2
    clear hchk2 hchk hc hne
    rw [HF.out]
    have H0 := Lib.hid h0
    clear h0
    go_enter Try.func33, Try.ntmps33
    go_wp2_with (first | (go_at_call 43; refine (HCK.out).mono ?_; rintro e w1 ⟨rfl, hB1⟩))
    go_ret2
    exact ⟨rfl, hB1⟩
  · have HF : Hid (openCode n ps = checkP n ps) := by unfold Hid; rw [HE.out]; simp [h0]
    rw [HF.out]
    generalize checkP n ps = c at *
    have hb : (c != 0) = true := by simpa using h0
    clear hne hc h0
    go_enter Try.func33, Try.ntmps33
    go_wp2_with (first | (go_at_call 43; refine (hchk.out).mono ?_; rintro e w1 ⟨rfl, hB1⟩))
    go_ret2
    exact ⟨rfl, hB1⟩
theorem fcheck_any (n : Int) (a : Option Addr) (cap : Nat) (ps : List (Int × Int)) (w : World) (hl : ps.length ≤ 1099511627776) (hg : Pairs w a ps) :
    Calls Try.prog 31 #[.int .i64 n, .slice a ps.length cap] w fun e w' => e = .returned (.int .i64 (openCode n ps)) ∧ Below w.heap.size w w' := by
  by_cases h0 : openCode n ps = 0
  · have hc : checkP n ps = 0 := by
      unfold openCode at h0
      by_cases e : checkP n ps = 0
      · exact e
      · simp [e] at h0
    have hn : ¬ 10 < n := fun hn => by unfold openCode at h0; simp [hc, hn] at h0
    have hok : edgesB n ps = true := by
      unfold checkP at hc
      by_cases e : edgesB n ps = true
      · exact e
      · split at hc
        · omega
        · simp [e] at hc
    have hn1 : 1 ≤ n := by
      unfold checkP at hc
      split at hc <;> omega
    obtain ⟨m, rfl⟩ := Int.eq_ofNat_of_zero_le (show 0 ≤ n by omega)
    have HO := Lib.hid (open_ok m a cap ps w hl hg (by omega) (by omega) hok)
    rw [h0]
    clear h0 hc hok
    go_enter Try.func31, Try.ntmps31
    go_wp2_with (first | (go_at_call 33; refine (HO.out).mono ?_; rintro e w1 ⟨B, rfl, hBB, hcr, hB1⟩))
    go_ret
    exact ⟨rfl, hB1⟩
  · have HO := Lib.hid (open_err n a cap ps w hl hg h0)
    generalize openCode n ps = c at *
    clear h0
    go_enter Try.func31, Try.ntmps31
    go_wp2_with (first | (go_at_call 33; refine (HO.out).mono ?_; rintro e w1 ⟨rfl, hB1⟩))
    go_ret
    exact ⟨rfl, hB1⟩
end Go.Proofs.Ytfbobojpocnfeaa
