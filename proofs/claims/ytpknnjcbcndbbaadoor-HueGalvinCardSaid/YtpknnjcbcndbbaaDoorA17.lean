/- The program's Sides, OddRing and Konig: walks. What the law's awake expects of a ring, a path and a square, in plain text. The law's awake: a walk. -/
import Derived.Test.YtpknnjcbcndbbaaDoorA16
import Derived.Laws.Cover3
import Derived.Lib.LazyBuf
import Derived.Test.YtpknnjcbcndbbaaDoorA15
set_option linter.unusedVariables false
set_option linter.unusedSimpArgs false
namespace Go.Proofs.YtpknnjcbcndbbaaDoor
open Go.RowKit Go.Shelf

set_option maxRecDepth 100000 in
set_option maxHeartbeats 1000000 in
theorem Konig_err (n : Int) (a : Option Addr) (cap : Nat) (ps : List (Int × Int)) (w : World) (hl : ps.length ≤ 1099511627776) (hg : Pairs w a ps) (hne : checkP n ps ≠ 0) :
    Calls Tryd.prog 29 #[.int .i64 n, .slice a ps.length cap] w fun e w' => e = .returned (.tuple #[.slice none 0 0, .int .i64 (checkP n ps)]) ∧ Below w.heap.size w w' := by
  have HO := Lib.hid (gopen_err n a cap ps w hl hg hne)
  have hb : (checkP n ps != 0) = true := by simpa using hne
  clear hg hne
  generalize checkP n ps = c at *
  go_enter Tryd.func29, Tryd.ntmps29
  go_wp2_with (first
    | (go_at_call 52; refine HO.out.mono ?_; rintro e w1 ⟨rfl, hb1⟩; have HB1 := Lib.hid hb1; clear hb1))
  refine bodyPost_ret (v := .tuple #[.slice none 0 0, .int .i64 c]) (by simp [results, Tryd.f29, go_sem]) rfl ?_
  exact ⟨rfl, HB1.out⟩
set_option maxRecDepth 100000 in
set_option maxHeartbeats 1000000 in
theorem Sides_err (n : Int) (a : Option Addr) (cap : Nat) (ps : List (Int × Int)) (w : World) (hl : ps.length ≤ 1099511627776) (hg : Pairs w a ps) (hne : checkP n ps ≠ 0) :
    Calls Tryd.prog 32 #[.int .i64 n, .slice a ps.length cap] w fun e w' => e = .returned (.tuple #[.int .i64 0, .bool false, .int .i64 (checkP n ps)]) ∧ Below w.heap.size w w' := by
  have HO := Lib.hid (gopen_err n a cap ps w hl hg hne)
  have hb : (checkP n ps != 0) = true := by simpa using hne
  clear hg hne
  generalize checkP n ps = c at *
  go_enter Tryd.func32, Tryd.ntmps32
  go_wp2_with (first
    | (go_at_call 52; refine HO.out.mono ?_; rintro e w1 ⟨rfl, hb1⟩; have HB1 := Lib.hid hb1; clear hb1))
  refine bodyPost_ret (v := .tuple #[.int .i64 0, .bool false, .int .i64 c]) (by simp [results, Tryd.f32, go_sem]) rfl ?_
  exact ⟨rfl, HB1.out⟩
set_option maxRecDepth 100000 in
set_option maxHeartbeats 1000000 in
theorem OddRing_err (n : Int) (a : Option Addr) (cap : Nat) (ps : List (Int × Int)) (w : World) (hl : ps.length ≤ 1099511627776) (hg : Pairs w a ps) (hne : checkP n ps ≠ 0) :
    Calls Tryd.prog 33 #[.int .i64 n, .slice a ps.length cap] w fun e w' => e = .returned (.tuple #[.slice none 0 0, .bool false, .int .i64 (checkP n ps)]) ∧ Below w.heap.size w w' := by
  have HO := Lib.hid (gopen_err n a cap ps w hl hg hne)
  have hb : (checkP n ps != 0) = true := by simpa using hne
  clear hg hne
  generalize checkP n ps = c at *
  go_enter Tryd.func33, Tryd.ntmps33
  go_wp2_with (first
    | (go_at_call 52; refine HO.out.mono ?_; rintro e w1 ⟨rfl, hb1⟩; have HB1 := Lib.hid hb1; clear hb1))
  refine bodyPost_ret (v := .tuple #[.slice none 0 0, .bool false, .int .i64 c]) (by simp [results, Tryd.f33, go_sem]) rfl ?_
  exact ⟨rfl, HB1.out⟩
theorem SidesP.slice {W : World} {base : Nat} {g : List Nat} {n s : Nat} {v : Value} (h : SidesP W base g n s v) : (v = .slice none 0 0 ∧ SidesR g n s true) ∨ (s = 0 ∧ SidesR g n 0 false ∧ ∃ l : List Nat, ∃ b o cap, OddR g l ∧ (∀ x ∈ l, x < n) ∧ v = .slice (some ⟨b, o, none⟩) l.length cap ∧ QRow W base 3 1 v l.length (iv l)) := by
  rcases h with ⟨h1, h2⟩ | ⟨h1, l, h2, h3, h4⟩
  · exact .inl ⟨h1, .inl ⟨rfl, h2⟩⟩
  · obtain ⟨b, o, cap, e, _⟩ := h4.at (by have := h2.len; omega)
    exact .inr ⟨h1, .inr ⟨rfl, rfl, h2.no⟩, l, b, o, cap, h2, h3, e, h4⟩
set_option maxRecDepth 100000 in
set_option maxHeartbeats 1000000 in
theorem Sides_ok (n : Nat) (a : Option Addr) (cap : Nat) (ps : List (Int × Int)) (w : World) (hT : Tab w) (hG : Good n ps a w) :
    Calls Tryd.prog 32 #[.int .i64 (n : Int), .slice a ps.length cap] w fun e w' => (∃ (s : Nat) (two : Bool), e = .returned (.tuple #[.int .i64 (s : Int), .bool two, .int .i64 0]) ∧ SidesR (ofE n ps) n s two) ∧ Below w.heap.size w w' := by
  have HO := Lib.hid (gopen_ok n a cap ps w hG.hl hG.hg hG.n1 hG.n2 hG.ok)
  have U := und_ofE hG.ok
  have HV : Hid (∀ B W, Below w.heap.size w W → GraphAt W B n a cap ps.length (ofE n ps) → Calls Tryd.prog 63 #[.pointer (some ⟨B, 0, none⟩)] W fun e w' => (∃ (s : Nat) (v : Value), e = .returned (.tuple #[.int .i64 (s : Int), v]) ∧ SidesP w' W.heap.size (ofE n ps) n s v) ∧ Below W.heap.size W w') := fun B W hB hg =>
    callsIn_wide.1 (sides_in B n a cap ps.length (ofE n ps) W (hT.below hB (Nat.le_refl _)) hg (ofE_sm hG.n2 hG.ok) U hG.n2)
  clear hT hG
  have hN : ∀ W (p : Option Addr) (m c : Nat), (binOp .neq 25 (.slice p m c) (.slice none 0 0)).run Tryd.prog W = .ok (.bool (!p.isNone)) W := fun W p m c => run_neq_slice_nil W 25 3 p m c Tryd.underlying25
  have hE : ∀ W (p : Option Addr) (m c : Nat), (binOp .eql 25 (.slice p m c) (.slice none 0 0)).run Tryd.prog W = .ok (.bool p.isNone) W := fun W p m c => run_eql_slice_nil W 25 3 p m c Tryd.underlying25
  go_enter Tryd.func32, Tryd.ntmps32
  go_upto_region 4 with (first
    | (go_at_call 52; refine HO.out.mono ?_; rintro e w1 ⟨B, rfl, hBl, hg1, hb1⟩; have HG1 := Lib.hid hg1; have HB1 := Lib.hid hb1; clear hBl hg1 hb1))
  go_upto_region 5 with (first
    | (go_at_call 63; refine (HV.out _ _ HB1.out HG1.out).mono ?_; rintro e w2 ⟨⟨s, v2, rfl, hsp⟩, hb2⟩; have HB2 := Lib.hid hb2; have HSP := Lib.hid hsp; clear hb2 hsp))
  rcases HSP.out.slice with ⟨rfl, h⟩ | ⟨rfl, h, l, b5, o5, c5, h5, h6, rfl, h7⟩
  · have HR := Lib.hid h
    clear h HSP
    go_wp2
    refine bodyPost_ret (v := .tuple #[.int .i64 (s : Int), .bool true, .int .i64 0]) (by simp [results, Tryd.f32, go_sem]) rfl ?_
    exact ⟨⟨_, _, rfl, HR.out⟩, HB1.out.trans (HB2.out.mono HB1.out.size)⟩
  · have HR := Lib.hid h
    clear h HSP h5 h6 h7
    go_wp2
    refine bodyPost_ret (v := .tuple #[.int .i64 0, .bool false, .int .i64 0]) (by simp [results, Tryd.f32, go_sem]) rfl ?_
    exact ⟨⟨0, _, rfl, HR.out⟩, HB1.out.trans (HB2.out.mono HB1.out.size)⟩
set_option maxRecDepth 100000 in
set_option maxHeartbeats 1000000 in
theorem OddRing_ok (n : Nat) (a : Option Addr) (cap : Nat) (ps : List (Int × Int)) (w : World) (hT : Tab w) (hG : Good n ps a w) :
    Calls Tryd.prog 33 #[.int .i64 (n : Int), .slice a ps.length cap] w fun e w' => (∃ (v : Value) (l : List Nat) (s : Nat) (is : Bool), e = .returned (.tuple #[v, .bool is, .int .i64 0]) ∧ SidesR (ofE n ps) n s (!is) ∧ QRow w' w.heap.size 3 1 v l.length (iv l) ∧ (is = true → OddR (ofE n ps) l ∧ ∀ x ∈ l, x < n) ∧ (is = false → l = [])) ∧ Below w.heap.size w w' := by
  have HO := Lib.hid (gopen_ok n a cap ps w hG.hl hG.hg hG.n1 hG.n2 hG.ok)
  have U := und_ofE hG.ok
  have HV : Hid (∀ B W, Below w.heap.size w W → GraphAt W B n a cap ps.length (ofE n ps) → Calls Tryd.prog 63 #[.pointer (some ⟨B, 0, none⟩)] W fun e w' => (∃ (s : Nat) (v : Value), e = .returned (.tuple #[.int .i64 (s : Int), v]) ∧ SidesP w' W.heap.size (ofE n ps) n s v) ∧ Below W.heap.size W w') := fun B W hB hg =>
    callsIn_wide.1 (sides_in B n a cap ps.length (ofE n ps) W (hT.below hB (Nat.le_refl _)) hg (ofE_sm hG.n2 hG.ok) U hG.n2)
  clear hT hG
  have hN : ∀ W (p : Option Addr) (m c : Nat), (binOp .neq 25 (.slice p m c) (.slice none 0 0)).run Tryd.prog W = .ok (.bool (!p.isNone)) W := fun W p m c => run_neq_slice_nil W 25 3 p m c Tryd.underlying25
  have hE : ∀ W (p : Option Addr) (m c : Nat), (binOp .eql 25 (.slice p m c) (.slice none 0 0)).run Tryd.prog W = .ok (.bool p.isNone) W := fun W p m c => run_eql_slice_nil W 25 3 p m c Tryd.underlying25
  go_enter Tryd.func33, Tryd.ntmps33
  go_upto_region 4 with (first
    | (go_at_call 52; refine HO.out.mono ?_; rintro e w1 ⟨B, rfl, hBl, hg1, hb1⟩; have HG1 := Lib.hid hg1; have HB1 := Lib.hid hb1; clear hBl hg1 hb1))
  go_upto_region 5 with (first
    | (go_at_call 63; refine (HV.out _ _ HB1.out HG1.out).mono ?_; rintro e w2 ⟨⟨s, v2, rfl, hsp⟩, hb2⟩; have HB2 := Lib.hid hb2; have HSP := Lib.hid hsp; clear hb2 hsp))
  rcases HSP.out.slice with ⟨rfl, h⟩ | ⟨rfl, h, l, b5, o5, c5, h5, h6, rfl, h7⟩
  · have HR := Lib.hid h
    clear h HSP
    go_wp2
    refine bodyPost_ret (v := .tuple #[.slice none 0 0, .bool false, .int .i64 0]) (by simp [results, Tryd.f33, go_sem]) rfl ?_
    exact ⟨⟨_, [], _, _, rfl, HR.out, QRow.nil _ _ _ _, (fun h => by cases h), fun _ => rfl⟩, HB1.out.trans (HB2.out.mono HB1.out.size)⟩
  · have HR := Lib.hid h
    have H5 := Lib.hid h5
    have H6 := Lib.hid h6
    have H7 := Lib.hid h7
    clear h HSP h5 h6 h7
    go_wp2
    refine bodyPost_ret (v := .tuple #[.slice (some ⟨b5, o5, none⟩) l.length c5, .bool true, .int .i64 0]) (by simp [results, Tryd.f33, go_sem]) rfl ?_
    exact ⟨⟨_, l, 0, _, rfl, HR.out, H7.out.mono HB1.out.size, fun _ => ⟨H5.out, H6.out⟩, fun h => by cases h⟩, HB1.out.trans (HB2.out.mono HB1.out.size)⟩
set_option maxRecDepth 100000 in
set_option maxHeartbeats 1000000 in
theorem Konig_ok (n : Nat) (a : Option Addr) (cap : Nat) (ps : List (Int × Int)) (w : World) (hT : Tab w) (hG : Good n ps a w) :
    Calls Tryd.prog 29 #[.int .i64 (n : Int), .slice a ps.length cap] w fun e w' => ((e = .returned (.tuple #[.slice none 0 0, .int .i64 4]) ∧ SidesR (ofE n ps) n 0 false) ∨ ∃ v us col s, e = .returned (.tuple #[v, .int .i64 0]) ∧ SidesR (ofE n ps) n s true ∧ QRow w' w.heap.size 3 1 v ps.length (hl col ps) ∧ HInv (ofE n ps) us col ∧ (∀ e h, col e = some h → h < dgTo (ofE n ps) 16) ∧ ∀ q ∈ ps, col (pr q) ≠ none) ∧ Below w.heap.size w w' := by
  have HO := Lib.hid (gopen_ok n a cap ps w hG.hl hG.hg hG.n1 hG.n2 hG.ok)
  have U := und_ofE hG.ok
  have HV : Hid (∀ B W, Below w.heap.size w W → GraphAt W B n a cap ps.length (ofE n ps) → Calls Tryd.prog 63 #[.pointer (some ⟨B, 0, none⟩)] W fun e w' => (∃ (s : Nat) (v : Value), e = .returned (.tuple #[.int .i64 (s : Int), v]) ∧ SidesP w' W.heap.size (ofE n ps) n s v) ∧ Below W.heap.size W w') := fun B W hB hg =>
    callsIn_wide.1 (sides_in B n a cap ps.length (ofE n ps) W (hT.below hB (Nat.le_refl _)) hg (ofE_sm hG.n2 hG.ok) U hG.n2)
  have HK : Hid (∀ s B W, TwoCol (ofE n ps) s → Below w.heap.size w W → GraphAt W B n a cap ps.length (ofE n ps) → Calls Tryd.prog 64 #[.pointer (some ⟨B, 0, none⟩)] W fun e w' => ∃ v us col, e = .returned v ∧ QRow w' W.heap.size 3 1 v ps.length (hl col ps) ∧ Below W.heap.size W w' ∧ HInv (ofE n ps) us col ∧ (∀ e h, col e = some h → h < dgTo (ofE n ps) 16) ∧ ∀ q ∈ ps, col (pr q) ≠ none) := fun s B W hs hB hg => by
    have hdb := dg_bounds hG.n1 hG.n2 hG.ok
    refine (konig_any (fun x => s.testBit x) B n (dgTo (ofE n ps) 16 - 1) a cap (ofE n ps) ps W (hT.below hB (Nat.le_refl _)) hg (hG.hg.below hB (Nat.le_refl _)) (ofE_sm hG.n2 hG.ok) (edgesOK hG.n2 hG.ok) hG.hl (by have := hdb.2; have := hG.n2; omega) hs (fun u hu => by have := hdb.1 u hu; omega)).mono ?_
    rintro e w' ⟨v, us, col, h1, h2, h3, h4, h5, h6⟩
    refine ⟨v, us, col, h1, h2, h3, h4, fun e h he => ?_, h6⟩
    obtain ⟨x, y, rfl⟩ := h4.key e h he
    have h7 := (h4.edge x y h he)
    have h8 := hdb.1 x h7.2.1
    have h9 : y ∈ els ((ofE n ps)[x]?.getD 0) := (mem_els (ofE_sm hG.n2 hG.ok x)).2 h7.2.2.2.1
    have := List.length_pos_of_mem h9
    have := h5 _ _ he
    omega
  clear hT hG
  have hN : ∀ W (p : Option Addr) (m c : Nat), (binOp .neq 25 (.slice p m c) (.slice none 0 0)).run Tryd.prog W = .ok (.bool (!p.isNone)) W := fun W p m c => run_neq_slice_nil W 25 3 p m c Tryd.underlying25
  have hE : ∀ W (p : Option Addr) (m c : Nat), (binOp .eql 25 (.slice p m c) (.slice none 0 0)).run Tryd.prog W = .ok (.bool p.isNone) W := fun W p m c => run_eql_slice_nil W 25 3 p m c Tryd.underlying25
  go_enter Tryd.func29, Tryd.ntmps29
  go_upto_region 4 with (first
    | (go_at_call 52; refine HO.out.mono ?_; rintro e w1 ⟨B, rfl, hBl, hg1, hb1⟩; have HG1 := Lib.hid hg1; have HB1 := Lib.hid hb1; clear hBl hg1 hb1))
  go_upto_region 5 with (first
    | (go_at_call 63; refine (HV.out _ _ HB1.out HG1.out).mono ?_; rintro e w2 ⟨⟨s, v2, rfl, hsp⟩, hb2⟩; have HB2 := Lib.hid hb2; have HSP := Lib.hid hsp; clear hb2 hsp))
  rcases HSP.out.slice with ⟨rfl, h⟩ | ⟨rfl, h, l, b5, o5, c5, h5, h6, rfl, h7⟩
  · have HR := Lib.hid h
    have HTW : Hid (TwoCol (ofE n ps) s) := by
      rcases h with ⟨_, h, _⟩ | ⟨h, _⟩
      · exact h
      · cases h
    clear h HSP
    have HB3 := Lib.hid (HB1.out.trans (HB2.out.mono HB1.out.size))
    have HG2 := Lib.hid (HG1.out.below HB2.out (Nat.le_refl _))
    go_wp2_with (first
      | (go_at_call 64; refine (HK.out s _ _ HTW.out HB3.out HG2.out).mono ?_; rintro e w3 ⟨v3, us, col, rfl, hq3, hb3, hh3, hm3, hd3⟩; obtain ⟨s1, s2, rfl⟩ := hq3.isSlice; have HQ3 := Lib.hid hq3; have HB4 := Lib.hid hb3; have HH3 := Lib.hid hh3; have HM3 := Lib.hid hm3; have HD3 := Lib.hid hd3; clear hq3 hb3 hh3 hm3 hd3))
    refine bodyPost_ret (v := .tuple #[.slice s1 ps.length s2, .int .i64 0]) (by simp [results, Tryd.f29, go_sem]) rfl ?_
    exact ⟨.inr ⟨_, us, col, s, rfl, HR.out, HQ3.out.mono HB3.out.size, HH3.out, HM3.out, HD3.out⟩, HB3.out.trans (HB4.out.mono HB3.out.size)⟩
  · have HR := Lib.hid h
    clear h HSP h5 h6 h7
    go_wp2
    refine bodyPost_ret (v := .tuple #[.slice none 0 0, .int .i64 4]) (by simp [results, Tryd.f29, go_sem]) rfl ?_
    exact ⟨.inl ⟨rfl, HR.out⟩, HB1.out.trans (HB2.out.mono HB1.out.size)⟩
end Go.Proofs.YtpknnjcbcndbbaaDoor
namespace Go.Proofs.YtpknnjcbcndbbaaDoor
open Go.RowKit

def ringE : List (Int × Int) := [(0, 1), (0, 2), (1, 2)]
def pathE : List (Int × Int) := [(0, 1), (1, 2)]
def sqE : List (Int × Int) := [(0, 1), (0, 3), (1, 2), (2, 3)]
theorem ring_ok : edgesB ((3 : Nat) : Int) ringE = true := by decide
theorem path_ok : edgesB ((3 : Nat) : Int) pathE = true := by decide
theorem sq_ok : edgesB ((4 : Nat) : Int) sqE = true := by decide
theorem ring_g : ofE 3 ringE = [6, 5, 3] := by decide
theorem path_g : ofE 3 pathE = [2, 5, 2] := by decide
theorem sq_g : ofE 4 sqE = [10, 5, 10, 5] := by decide
set_option maxRecDepth 100000 in
theorem ring_d : dgTo (ofE 3 ringE) 16 = 2 := by rw [ring_g]; rfl
theorem path_ord : ordL (ofE 3 pathE) 3 = [0, 1, 2] := by rw [path_g]; decide
theorem path_loo : loo (ofE 3 pathE) 3 3 = 1 := by rw [path_g]; decide +kernel
theorem path_core {s : Nat} (h : CoreIs (ofE 3 pathE) 3 2 s) : s = 0 := by
  refine h.unique ⟨2, ?_, ?_⟩ <;> (rw [path_g]; decide)
theorem ring_adj : adj (ofE 3 ringE) 0 1 ∧ adj (ofE 3 ringE) 0 2 ∧ adj (ofE 3 ringE) 1 2 := by
  rw [ring_g]; exact ⟨rfl, rfl, rfl⟩
theorem ring_two (t : Nat) : ¬ TwoCol (ofE 3 ringE) t := fun h => by
  have h1 := h 0 1 ring_adj.1
  have h2 := h 0 2 ring_adj.2.1
  have h3 := h 1 2 ring_adj.2.2
  cases e0 : t.testBit 0 <;> cases e1 : t.testBit 1 <;> cases e2 : t.testBit 2 <;> simp_all
theorem ring_chr {k : Nat} (h : ChrIs (ofE 3 ringE) 3 k) : k = 3 := by
  have hle := h.le (und_ofE ring_ok) (by decide)
  obtain ⟨h0, ⟨c, h1, h2⟩, _⟩ := h
  have a := h2 0 1 ring_adj.1
  have b := h2 0 2 ring_adj.2.1
  have d := h2 1 2 ring_adj.2.2
  have l0 := h1 0 (by decide)
  have l1 := h1 1 (by decide)
  have l2 := h1 2 (by decide)
  rw [low_bit, decide_eq_true_iff] at l0 l1 l2
  omega
theorem ring_few {us : Nat → Nat} {col : Nat × Nat → Option Nat} (H : HInv (ofE 3 ringE) us col) (hall : ∀ q ∈ ringE, col (pr q) ≠ none) (hb : (∀ q ∈ ringE, ∀ h, col (pr q) = some h → h < dgTo (ofE 3 ringE) 16) ∨ ((∀ q ∈ ringE, ∀ h, col (pr q) = some h → h ≤ dgTo (ofE 3 ringE) 16))) :
    ∃ a b c : Nat, hl col ringE = [.int .i64 (a : Int), .int .i64 (b : Int), .int .i64 (c : Int)] ∧ a + b + c = 3 ∧ a ≤ 2 ∧ b ≤ 2 ∧ c ≤ 2 := by
  have hb2 : ∀ q ∈ ringE, ∀ h, col (pr q) = some h → h ≤ 2 := by
    rw [ring_d] at hb
    rcases hb with hb | hb
    · exact fun q hq h e => Nat.le_of_lt (hb q hq h e)
    · exact hb
  have m1 : ((0, 1) : Int × Int) ∈ ringE := by decide
  have m2 : ((0, 2) : Int × Int) ∈ ringE := by decide
  have m3 : ((1, 2) : Int × Int) ∈ ringE := by decide
  obtain ⟨a, ha⟩ := Option.ne_none_iff_exists'.1 (hall _ m1)
  obtain ⟨b, hb⟩ := Option.ne_none_iff_exists'.1 (hall _ m2)
  obtain ⟨c, hc⟩ := Option.ne_none_iff_exists'.1 (hall _ m3)
  have la := hb2 _ m1 _ ha
  have lb := hb2 _ m2 _ hb
  have lc := hb2 _ m3 _ hc
  refine ⟨a, b, c, by simp only [ringE, hl, List.map_cons, List.map_nil, ha, hb, hc, Option.getD_some], ?_, la, lb, lc⟩
  have n1 : a ≠ b := fun e => by
    subst e
    have := H.inj 0 1 2 a ha hb
    cases this
  have n2 : a ≠ c := fun e => by
    subst e
    have h1 : col (ed 1 0) = some a := ha
    have h2 : col (ed 1 2) = some a := hc
    have := H.inj 1 0 2 a h1 h2
    cases this
  have n3 : b ≠ c := fun e => by
    subst e
    have h1 : col (ed 2 0) = some b := hb
    have h2 : col (ed 2 1) = some b := hc
    have := H.inj 2 0 1 b h1 h2
    cases this
  omega
theorem ring_odd {l : List Nat} (h : OddR (ofE 3 ringE) l) (hl : ∀ x ∈ l, x < 3) : l.length = 3 := by
  have := nodup_sub l (List.range 3) h.nd (fun x hx => List.mem_range.2 (hl x hx))
  have := h.len
  simp only [List.length_range] at *
  omega
theorem sq_sides {s : Nat} {two : Bool} (h : SidesR (ofE 4 sqE) 4 s two) : s = 5 ∧ two = true := by
  refine h.unique (und_ofE sq_ok) (.inl ⟨rfl, fun x y ha => ?_, fun x hx => ?_, fun x hx => ?_⟩)
  · obtain ⟨h1, h2⟩ := (und_ofE sq_ok).lt x y ha
    rw [sq_g] at ha
    rcases (show x = 0 ∨ x = 1 ∨ x = 2 ∨ x = 3 by omega) with rfl | rfl | rfl | rfl <;> rcases (show y = 0 ∨ y = 1 ∨ y = 2 ∨ y = 3 by omega) with rfl | rfl | rfl | rfl <;> first | (exfalso; revert ha; unfold adj; decide) | decide
  · rw [sq_g]
    rcases (show x = 0 ∨ x = 1 ∨ x = 2 ∨ x = 3 by omega) with rfl | rfl | rfl | rfl
    · exact ⟨0, 0, rfl, by decide, fun _ _ _ => Nat.zero_le _⟩
    · exact ⟨0, 1, ⟨0, rfl, rfl⟩, by decide, fun _ _ _ => Nat.zero_le _⟩
    · exact ⟨0, 2, ⟨1, ⟨0, rfl, rfl⟩, rfl⟩, by decide, fun _ _ _ => Nat.zero_le _⟩
    · exact ⟨0, 1, ⟨0, rfl, rfl⟩, by decide, fun _ _ _ => Nat.zero_le _⟩
  · have : x < 3 := Nat.lt_of_not_le fun hc => by
      have : (5 : Nat).testBit x = false := Nat.testBit_lt_two_pow (Nat.lt_of_lt_of_le (show 5 < 2 ^ 3 by decide) (Nat.pow_le_pow_right (by decide) hc))
      rw [this] at hx; cases hx
    omega
end Go.Proofs.YtpknnjcbcndbbaaDoor
namespace Go.Proofs.YtpknnjcbcndbbaaDoor
open Go.RowKit Go.Shelf

theorem Good.below {n : Nat} {ps : List (Int × Int)} {a : Option Addr} {w W : World} (h : Good n ps a w) (hB : Below w.heap.size w W) : Good n ps a W := ⟨h.hl, h.hg.below hB (Nat.le_refl _), h.n1, h.n2, h.ok⟩
/-- pairs that have just been laid -/
theorem pairs_new (w : World) (ps : List (Int × Int)) (vs : Array Value) (h : vs = (pairCells ps).toArray) : Pairs (w.alloc (.cells vs 72)) (some ⟨w.heap.size, 0, none⟩) ps := fun _ => by
  subst h
  refine ⟨w.heap.size, 0, rfl, by simp, fun j hj => ?_⟩
  have hb : BoxN (w.alloc (.cells (pairCells ps).toArray 72)) w.heap.size 72 (pairCells ps).toArray := BoxN.new rfl
  have := pairCells_get ps j hj
  rw [hb.cell, hb.cell]
  simpa using this
theorem ring_fewest (a : Option Addr) (w : World) (hT : Tab w) (hG : Good 3 ringE a w) :
    Calls Tryd.prog 15 #[.int .i64 3, .slice a 3 3] w fun e w' => ∃ g o c, ∃ x y z : Nat, e = .returned (.tuple #[.slice (some ⟨g, o, none⟩) 3 c, .int .i64 0]) ∧ Below w.heap.size w w' ∧ g < w'.heap.size ∧ w'.cell? ⟨g, o, none⟩ = some (.int .i64 (x : Int)) ∧ w'.cell? ⟨g, o + 1, none⟩ = some (.int .i64 (y : Int)) ∧ w'.cell? ⟨g, o + 2, none⟩ = some (.int .i64 (z : Int)) ∧ x + y + z = 3 ∧ x ≤ 2 ∧ y ≤ 2 ∧ z ≤ 2 := by
  refine (show Calls Tryd.prog 15 #[.int .i64 3, .slice a 3 3] w _ from Fewest_ok 3 a 3 ringE w hT hG (by decide)).mono ?_
  rintro e w' ⟨⟨v, us, col, rfl, hq, hi, hall, hb⟩, hB⟩
  obtain ⟨x, y, z, hl, hs, h1, h2, h3⟩ := ring_few hi hall (hb.imp id And.left)
  obtain ⟨g, o, c, rfl, _, hg, _, _, hc, _⟩ := hq.at (by decide)
  rw [hl] at hc
  exact ⟨g, o, c, x, y, z, rfl, hB, hg, hc 0 (by decide), hc 1 (by decide), hc 2 (by decide), hs, h1, h2, h3⟩
theorem ring_oddring (a : Option Addr) (w : World) (hT : Tab w) (hG : Good 3 ringE a w) :
    Calls Tryd.prog 33 #[.int .i64 3, .slice a 3 3] w fun e w' => ∃ p c, e = .returned (.tuple #[.slice p 3 c, .bool true, .int .i64 0]) ∧ Below w.heap.size w w' := by
  refine (show Calls Tryd.prog 33 #[.int .i64 3, .slice a 3 3] w _ from OddRing_ok 3 a 3 ringE w hT hG).mono ?_
  rintro e w' ⟨⟨v, l, s, is, rfl, hs, hq, ht, hf⟩, hB⟩
  cases is with
  | false =>
    rcases hs with ⟨_, h, _⟩ | ⟨h, _⟩
    · exact absurd h (ring_two _)
    · cases h
  | true =>
    obtain ⟨h1, h2⟩ := ht rfl
    have h3 := ring_odd h1 h2
    rw [h3] at hq
    obtain ⟨p, c, rfl⟩ := hq.isSlice
    exact ⟨p, c, rfl, hB⟩
theorem sq_sides_ok (a : Option Addr) (w : World) (hT : Tab w) (hG : Good 4 sqE a w) :
    Calls Tryd.prog 32 #[.int .i64 4, .slice a 4 4] w fun e w' => e = .returned (.tuple #[.int .i64 5, .bool true, .int .i64 0]) ∧ Below w.heap.size w w' := by
  refine (show Calls Tryd.prog 32 #[.int .i64 4, .slice a 4 4] w _ from Sides_ok 4 a 4 sqE w hT hG).mono ?_
  rintro e w' ⟨⟨s, two, rfl, hs⟩, hB⟩
  obtain ⟨rfl, rfl⟩ := sq_sides hs
  exact ⟨rfl, hB⟩
theorem path_order (a : Option Addr) (w : World) (hG : Good 3 pathE a w) :
    Calls Tryd.prog 22 #[.int .i64 3, .slice a 2 2] w fun e w' => ∃ g o c, e = .returned (.tuple #[.slice (some ⟨g, o, none⟩) 3 c, .int .i64 1, .int .i64 0]) ∧ Below w.heap.size w w' ∧ g < w'.heap.size ∧ w'.cell? ⟨g, o + 2, none⟩ = some (.int .i64 2) := by
  refine (show Calls Tryd.prog 22 #[.int .i64 3, .slice a 2 2] w _ from Order_ok 3 a 2 pathE w hG).mono ?_
  rintro e w' ⟨v, rfl, hq, hB⟩
  obtain ⟨g, o, c, rfl, _, hg, _, _, hc, _⟩ := hq.at (by decide)
  rw [path_ord] at hc
  exact ⟨g, o, c, by rw [path_loo]; rfl, hB, hg, hc 2 (by decide)⟩
theorem path_core_ok (a : Option Addr) (w : World) (hG : Good 3 pathE a w) :
    Calls Tryd.prog 25 #[.int .i64 3, .slice a 2 2, .int .i64 2] w fun e w' => e = .returned (.tuple #[.int .i64 0, .int .i64 0]) ∧ Below w.heap.size w w' := by
  refine (show Calls Tryd.prog 25 #[.int .i64 3, .slice a 2 2, .int .i64 2] w _ from Core_ok 3 2 a 2 pathE w hG (by decide)).mono ?_
  rintro e w' ⟨⟨s, rfl, hs⟩, hB⟩
  obtain rfl := path_core hs
  exact ⟨rfl, hB⟩
theorem ring_chromatic (a : Option Addr) (w : World) (hT : Tab w) (hG : Good 3 ringE a w) :
    Calls Tryd.prog 46 #[.int .i64 3, .slice a 3 3] w fun e w' => ∃ p c, e = .returned (.tuple #[.int .i64 3, .slice p 3 c, .int .i64 0]) ∧ Below w.heap.size w w' := by
  refine (show Calls Tryd.prog 46 #[.int .i64 3, .slice a 3 3] w _ from Chromatic_ok 3 a 3 ringE w hT hG (by decide)).mono ?_
  rintro e w' ⟨⟨k, ob, c, rfl, hk, _⟩, hB⟩
  obtain rfl := ring_chr hk
  exact ⟨_, _, rfl, hB⟩
set_option maxRecDepth 100000 in
set_option maxHeartbeats 4000000 in
theorem awake_any (w : World) (hT : Tab w) : Calls Tryd.prog 16 #[] w fun e w' => e = .returned (.bool true) ∧ Below w.heap.size w w' := by
  have HT := Lib.hid hT
  clear hT
  go_enter Tryd.func16, Tryd.ntmps16
  go_upto_region 2 with (fail)
  have hB0 : Below w.heap.size w (w.alloc (.cells #[.int .i64 0, .int .i64 1, .int .i64 0, .int .i64 2, .int .i64 1, .int .i64 2] 72)) := (Below.refl _ _).alloc (Nat.le_refl _) _
  have hG0 : Good 3 ringE (some ⟨w.heap.size, 0, none⟩) (w.alloc (.cells #[.int .i64 0, .int .i64 1, .int .i64 0, .int .i64 2, .int .i64 1, .int .i64 2] 72)) := ⟨by decide, pairs_new w ringE _ rfl, by decide, by decide, ring_ok⟩
  obtain ⟨b, hb⟩ : ∃ b, Hid (b = w.heap.size) := ⟨_, rfl⟩
  rw [← hb.out] at hG0
  rw [← hb.out]
  generalize (w.alloc (.cells #[.int .i64 0, .int .i64 1, .int .i64 0, .int .i64 2, .int .i64 1, .int .i64 2] 72)) = V at *
  have HG0 := Lib.hid hG0
  have HB0 := Lib.hid hB0
  clear hG0 hB0
  go_upto_region 3 with (go_at_call 15; refine (ring_fewest _ _ (HT.out.below HB0.out (Nat.le_refl _)) HG0.out).mono ?_; rintro e w1 ⟨g1, o1, c1, x, y, z, rfl, hB1, hg1, l0, l1, l2, hs, hx, hy, hz⟩; have HG1 := Lib.hid (HG0.out.below hB1); have HB1 := Lib.hid (HB0.out.trans (hB1.mono HB0.out.size)); clear hB1)
  have L1 : Hid (∀ W, Below w1.heap.size w1 W → W.cell? ⟨g1, o1, none⟩ = some (.int .i64 (x : Int)) ∧ W.cell? ⟨g1, o1 + 1, none⟩ = some (.int .i64 (y : Int)) ∧ W.cell? ⟨g1, o1 + 2, none⟩ = some (.int .i64 (z : Int))) := fun W hW => ⟨(hW.cell (p := ⟨g1, o1, none⟩) hg1).trans l0, (hW.cell (p := ⟨g1, o1 + 1, none⟩) hg1).trans l1, (hW.cell (p := ⟨g1, o1 + 2, none⟩) hg1).trans l2⟩
  clear l0 l1 l2 hg1
  go_upto_region 4 with (go_at_call 33; refine (ring_oddring _ _ (HT.out.below HB1.out (Nat.le_refl _)) HG1.out).mono ?_; rintro e w2 ⟨p2, c2, rfl, hB2⟩; have HG2 := Lib.hid (HG1.out.below hB2); have HB2 := Lib.hid (HB1.out.trans (hB2.mono HB1.out.size)); have HL2 := Lib.hid hB2; clear hB2)
  have hG3 : Good 4 sqE (some ⟨w2.heap.size, 0, none⟩) (w2.alloc (.cells #[.int .i64 0, .int .i64 1, .int .i64 0, .int .i64 3, .int .i64 1, .int .i64 2, .int .i64 2, .int .i64 3] 72)) := ⟨by decide, pairs_new w2 sqE _ rfl, by decide, by decide, sq_ok⟩
  have hB3 : Below w2.heap.size w2 (w2.alloc (.cells #[.int .i64 0, .int .i64 1, .int .i64 0, .int .i64 3, .int .i64 1, .int .i64 2, .int .i64 2, .int .i64 3] 72)) := (Below.refl _ _).alloc (Nat.le_refl _) _
  have HG3 := Lib.hid hG3
  have HB3 := Lib.hid (HB2.out.trans (hB3.mono HB2.out.size))
  have HL3 := Lib.hid (HL2.out.trans (hB3.mono HL2.out.size))
  have HR3 := Lib.hid (HG2.out.below hB3)
  clear hG3 hB3
  go_upto_region 5 with (go_at_call 32; refine (sq_sides_ok _ _ (HT.out.below HB3.out (Nat.le_refl _)) HG3.out).mono ?_; rintro e w4 ⟨rfl, hB4⟩; have HR4 := Lib.hid (HR3.out.below hB4); have HB4 := Lib.hid (HB3.out.trans (hB4.mono HB3.out.size)); have HL4 := Lib.hid (HL3.out.trans (hB4.mono HL3.out.size)); clear hB4)
  have hG5 : Good 3 pathE (some ⟨w4.heap.size, 0, none⟩) (w4.alloc (.cells #[.int .i64 0, .int .i64 1, .int .i64 1, .int .i64 2] 72)) := ⟨by decide, pairs_new w4 pathE _ rfl, by decide, by decide, path_ok⟩
  have hB5 : Below w4.heap.size w4 (w4.alloc (.cells #[.int .i64 0, .int .i64 1, .int .i64 1, .int .i64 2] 72)) := (Below.refl _ _).alloc (Nat.le_refl _) _
  have HG5 := Lib.hid hG5
  have HB5 := Lib.hid (HB4.out.trans (hB5.mono HB4.out.size))
  have HL5 := Lib.hid (HL4.out.trans (hB5.mono HL4.out.size))
  have HR5 := Lib.hid (HR4.out.below hB5)
  clear hG5 hB5
  go_upto_region 6 with (go_at_call 22; refine (path_order _ _ HG5.out).mono ?_; rintro e w6 ⟨g6, o6, c6, rfl, hB6, hg6, l6⟩; have HR6 := Lib.hid (HR5.out.below hB6); have HB6 := Lib.hid (HB5.out.trans (hB6.mono HB5.out.size)); have HL6 := Lib.hid (HL5.out.trans (hB6.mono HL5.out.size)); clear hB6)
  have L6 : Hid (∀ W, Below w6.heap.size w6 W → W.cell? ⟨g6, o6 + 2, none⟩ = some (.int .i64 2)) := fun W hW => (hW.cell (p := ⟨g6, o6 + 2, none⟩) hg6).trans l6
  clear l6 hg6
  have hG7 : Good 3 pathE (some ⟨w6.heap.size, 0, none⟩) (w6.alloc (.cells #[.int .i64 0, .int .i64 1, .int .i64 1, .int .i64 2] 72)) := ⟨by decide, pairs_new w6 pathE _ rfl, by decide, by decide, path_ok⟩
  have hB7 : Below w6.heap.size w6 (w6.alloc (.cells #[.int .i64 0, .int .i64 1, .int .i64 1, .int .i64 2] 72)) := (Below.refl _ _).alloc (Nat.le_refl _) _
  have HG7 := Lib.hid hG7
  have HB7 := Lib.hid (HB6.out.trans (hB7.mono HB6.out.size))
  have HL7 := Lib.hid (HL6.out.trans (hB7.mono HL6.out.size))
  have HR7 := Lib.hid (HR6.out.below hB7)
  have HM7 := Lib.hid hB7
  clear hG7 hB7
  go_upto_region 7 with (go_at_call 25; refine (path_core_ok _ _ HG7.out).mono ?_; rintro e w8 ⟨rfl, hB8⟩; have HR8 := Lib.hid (HR7.out.below hB8); have HB8 := Lib.hid (HB7.out.trans (hB8.mono HB7.out.size)); have HL8 := Lib.hid (HL7.out.trans (hB8.mono HL7.out.size)); have HM8 := Lib.hid (HM7.out.trans (hB8.mono HM7.out.size)); clear hB8)
  try simp only [List.append]
  have hsum : (x : Int) + (y : Int) + (z : Int) = 3 := by omega
  have HSUM := Lib.hid hsum
  clear hsum hs
  go_wp2_with (go_at_call 46; refine (ring_chromatic _ _ (HT.out.below HB8.out (Nat.le_refl _)) HR8.out).mono ?_; rintro e w9 ⟨p9, c9, rfl, hB9⟩; have HB9 := Lib.hid (HB8.out.trans (hB9.mono HB8.out.size)); obtain ⟨l0, l1, l2⟩ := L1.out _ (HL8.out.trans (hB9.mono HL8.out.size)); have l3 := L6.out _ (HM8.out.trans (hB9.mono HM8.out.size)); have hsum := HSUM.out; have HB10 := Lib.hid hB9; clear hB9)
  try simp only [List.append]
  have r0 : ∀ d : BW w9.heap.size w9, d.w.cell? ⟨g1, o1, none⟩ = some (.int .i64 (x : Int)) := fun d => (L1.out _ ((HL8.out.trans (HB10.out.mono HL8.out.size)).trans (d.b.mono (by have := HL8.out.size; have := HB10.out.size; omega)))).1
  have r1 : ∀ d : BW w9.heap.size w9, d.w.cell? ⟨g1, o1 + 1, none⟩ = some (.int .i64 (y : Int)) := fun d => (L1.out _ ((HL8.out.trans (HB10.out.mono HL8.out.size)).trans (d.b.mono (by have := HL8.out.size; have := HB10.out.size; omega)))).2.1
  have r2 : ∀ d : BW w9.heap.size w9, d.w.cell? ⟨g1, o1 + 2, none⟩ = some (.int .i64 (z : Int)) := fun d => (L1.out _ ((HL8.out.trans (HB10.out.mono HL8.out.size)).trans (d.b.mono (by have := HL8.out.size; have := HB10.out.size; omega)))).2.2
  have r3 : ∀ d : BW w9.heap.size w9, d.w.cell? ⟨g6, o6 + 2, none⟩ = some (.int .i64 2) := fun d => L6.out _ ((HM8.out.trans (HB10.out.mono HM8.out.size)).trans (d.b.mono (by have := HM8.out.size; have := HB10.out.size; omega)))
  clear l0 l1 l2 l3
  refine wp_region_bw (by kernel_rfl) (by kernel_rfl) ?_
  repeat (go_big_quiet_step (rfl))
  refine wpQuiet_nil ?_
  rintro _ ⟨d, rfl⟩
  go_wp2
  go_ret
  exact ⟨rfl, HB9.out.trans (d.b.mono HB9.out.size)⟩
end Go.Proofs.YtpknnjcbcndbbaaDoor
