/- Plain text: the way back from the goal. -/
import Derived.Test.YtfbobojpocnfeaaPd
namespace Go.Proofs.Ytfbobojpocnfeaa
open Go.RowKit

theorem frmF_prefix (g : List Nat) (seats : Nat) (s : St) : ∀ (pre : List S20) (frm : Led), ∃ r, frmF g seats s frm pre = frm ++ r
  | [], frm => ⟨[], by simp [frmF]⟩
  | x :: pre, frm => by
    obtain ⟨r, hr⟩ := frmF_prefix g seats s pre (stp g seats s frm x.1)
    have e : frmF g seats s frm (x :: pre) = frmF g seats s (stp g seats s frm x.1) pre := rfl
    rw [e, hr]
    unfold stp
    split
    · exact ⟨_, by rw [List.append_assoc]⟩
    · exact ⟨r, rfl⟩
theorem ledAt_mem : ∀ {frm : Led} {j : Nat} {t : St} {y : St × Nat} (r : Led), (frm.map (·.1)).Nodup → frm[j]? = some (t, y) → ledAt (frm ++ r) t = some y
  | [], j, t, y, r, _, h => by simp at h
  | f :: frm, 0, t, y, r, _, h => by
    simp at h; subst h
    simp [ledAt]
  | f :: frm, j + 1, t, y, r, hn, h => by
    rw [List.getElem?_cons_succ] at h
    rw [List.map_cons, List.nodup_cons] at hn
    have hne : ¬ t = f.1 := fun e => hn.1 (by rw [← e]; exact mem_keys.2 ⟨j, y, h⟩)
    have := ledAt_mem r hn.2 h
    unfold ledAt at this ⊢
    rw [List.cons_append, List.find?_cons, decide_eq_false hne]
    exact this
theorem ledAt_new {frm : Led} {t : St} {y : St × Nat} (h : ledAt frm t = none) : ledAt (frm ++ [(t, y)]) t = some y := by
  unfold ledAt at h ⊢
  rw [Option.map_eq_none_iff] at h
  rw [List.find?_append, h]
  simp
/-- on the way back: k: a bound of the steps that are left; t: where one is; out: who was taken, the last first -/
def GH (g : List Nat) (seats : Nat) (frm : Led) (ds : List Nat) (i : Nat) (s : St) (x : Nat) (k : Nat) (t : St) (out : List Nat) : Prop :=
  (t = goal ∧ out = [] ∧ k = i + 2) ∨ ∃ (j : Nat) (ps : List Nat) (y : St × Nat), k = j + 1 ∧ j ≤ i ∧ frm[j]? = some (t, y) ∧ isPath g seats t ps s ∧ out = x :: ps.reverse ∧ ps.length + ds[j]?.getD 0 = ds[i]?.getD 0
theorem GH.step {g : List Nat} {seats : Nat} {frm : Led} {ds : List Nat} {i : Nat} {s : St} {y : St × Nat} {x : Nat} {k : Nat} {t : St} {out : List Nat} (h : GH g seats frm ds i s x k t out) (hinv : Inv g seats frm ds i) (hi : frm[i]? = some (s, y)) (hx : next s x = goal)
    (hne : t ≠ start g) (r : Led) (hla : ledAt (frm ++ r) goal = none) : ∃ (k' : Nat) (t' : St) (p : Nat), ledAt (frm ++ r ++ [(goal, s, x)]) t = some (t', p) ∧ k' < k ∧ GH g seats frm ds i s x k' t' (out ++ [p]) := by
  rcases h with ⟨rfl, rfl, rfl⟩ | ⟨j, ps, z, rfl, hji, hj, hp, rfl, hd⟩
  · exact ⟨i + 1, s, x, ledAt_new hla, by omega, .inr ⟨i, [], y, rfl, Nat.le_refl _, hi, rfl, rfl, by simp⟩⟩
  · have hj0 : j ≠ 0 := by
      rintro rfl
      obtain ⟨a, b, h0⟩ := hinv.first
      rw [hj] at h0
      cases h0
      exact hne rfl
    obtain ⟨q, q1, q2, ⟨z', hz'⟩, hL, hnx, hds⟩ := hinv.led j (by omega) t z.1 z.2 hj
    refine ⟨q + 1, z.1, z.2, ?_, by omega, .inr ⟨q, z.2 :: ps, z', rfl, by omega, hz', ⟨hL, by rw [hnx]; exact hp⟩, by simp, by simp; omega⟩⟩
    rw [List.append_assoc]
    exact ledAt_mem _ hinv.nodup hj
theorem GH.len {g : List Nat} {seats : Nat} {frm : Led} {ds : List Nat} {i : Nat} {s : St} {x : Nat} {k : Nat} {t : St} {out : List Nat} (h : GH g seats frm ds i s x k t out) : out.length ≤ ds[i]?.getD 0 + 1 := by
  rcases h with ⟨_, rfl, _⟩ | ⟨j, ps, z, _, _, _, _, rfl, hd⟩
  · simp
  · simp; omega
theorem Inv.ds_le {g : List Nat} {seats : Nat} {frm : Led} {ds : List Nat} {i : Nat} (h : Inv g seats frm ds i) : ∀ j, j < frm.length → ds[j]?.getD 0 ≤ j := by
  intro j
  induction j using Nat.strongRecOn with
  | _ j ih =>
    intro hj
    by_cases e : j = 0
    · subst e; rw [h.d0]; exact Nat.le_refl _
    · obtain ⟨⟨s, t, p⟩, hf⟩ : ∃ f, frm[j]? = some f := ⟨_, List.getElem?_eq_getElem hj⟩
      obtain ⟨q, q1, _, _, _, _, hd⟩ := h.led j (by omega) s t p hf
      have := ih q q1 (by omega)
      omega
theorem GH.stop {g : List Nat} {seats : Nat} {frm : Led} {ds : List Nat} {i : Nat} {s : St} {y : St × Nat} {x : Nat} {k : Nat} {out : List Nat} (h : GH g seats frm ds i s x k (start g) out) (hinv : Inv g seats frm ds i) (hi : frm[i]? = some (s, y)) (hx : next s x = goal) (hst : start g ≠ goal) :
    (Legal g seats s x → isPath g seats (start g) out.reverse goal) ∧ ∀ qs, isPath g seats (start g) qs goal → out.length ≤ qs.length := by
  rcases h with ⟨e, _⟩ | ⟨j, ps, z, rfl, hji, hj, hp, rfl, hd⟩
  · exact absurd e hst
  · refine ⟨fun hL => ?_, fun qs hqs => ?_⟩
    · rw [List.reverse_cons, List.reverse_reverse]
      exact isPath_append hp ⟨hL, hx⟩
    · have := (hinv.far qs hqs).2
      simp; omega
def planFr4 (w : World) (M X : Nat) (v : Value) (j : Nat → Value) : Array Value :=
  #[j 0, j 1, j 2, j 3, .pointer (some ⟨w.heap.size + 1 + 1, 0, none⟩), .pointer (some ⟨w.heap.size + 1 + 1 + 1, 0, none⟩), .pointer (some ⟨w.heap.size + 1 + 1 + 1 + 1, 0, none⟩), j 7, .pointer (some ⟨M, 0, none⟩), j 9, j 10, j 11, j 12, j 13, j 14, j 15, j 16, v, .pointer (some ⟨X, 0, none⟩), j 19, j 20, j 21, j 22, j 23, j 24, j 25, j 26, j 27, j 28, j 29, j 30, j 31, j 32, j 33, j 34, j 35, j 36, j 37, j 38, j 39, j 40, j 41, j 42, j 43, j 44, j 45, j 46, j 47, j 48, j 49, j 50, j 51, j 52, j 53, j 54, j 55, j 56, j 57, j 58, j 59, j 60, j 61, j 62, j 63, j 64, j 65, j 66, j 67, j 68, j 69, j 70, j 71, j 72, j 73, j 74, j 75, j 76, j 77, j 78, j 79, j 80, j 81, j 82, j 83, j 84, j 85, j 86, j 87, j 88, j 89, j 90, j 91, j 92, j 93, j 94, j 95, j 96, j 97, j 98, j 99, j 100, j 101, j 102, j 103, j 104, j 105, j 106, j 107, j 108, j 109, j 110, j 111, j 112, j 113, j 114]
theorem planFr4_of {w : World} {M X : Nat} {v : Value} (t : Array Value) (h : t = planFr4 w M X v fun n => t.getD n undef) : ∃ j, t = planFr4 w M X v j := ⟨_, h⟩
def PG (w V3 : World) (M seats : Nat) (g : List Nat) (frm : Led) (ds : List Nat) (i : Nat) (s : St) (x : Nat) (k : Nat) (a : Act) (W : World) : Prop :=
  ∃ (X : Nat) (v : Value) (t : St) (out : List Nat), (∃ j, a.tmps = planFr4 w M X v j) ∧ a.defers = [] ∧ Ag (fun _ => False) V3 W ∧ V3.heap.size ≤ X ∧ BoxN W X 74 #[.int .i64 (t.1 : Int), .bool t.2] ∧
    QRow W V3.heap.size 3 1 v out.length (out.map fun (p : Nat) => Value.int .i64 (p : Int)) ∧ v.ownBlock ≠ some X ∧ GH g seats frm ds i s x k t out
theorem Ag.trans' {ex ex' : Nat → Prop} {A B C : World} (h : Ag ex A B) (k : Ag ex' B C) (he : ∀ n, ex' n → A.heap.size ≤ n ∨ ex n) : Ag ex A C :=
  ⟨k.os.trans h.os, k.tape.trans h.tape, k.output.trans h.output, Nat.le_trans h.size k.size, fun i hi hn => (k.block i (Nat.lt_of_lt_of_le hi h.size) (fun e => by
    rcases he i e with e | e
    · omega
    · exact hn e)).trans (h.block i hi hn)⟩
theorem info3 : (Try.prog.info? 3).map (fun i => (i.zero, i.size, i.bytes)) = some (some (.int .i64 0), 1, 8) := by kernel_rfl
theorem cells_new1 (W : World) (t : TypeId) (u : Value) : ∀ (j : Nat) (x : Value), [u][j]? = some x → (W.alloc (.cells #[u] t)).cell? ((⟨W.heap.size, 0, none⟩ : Addr).add j) = some x := fun j x h => by
  rw [Addr.add_lit, Nat.zero_add, (BoxN.new (W := W) (t := t) (vs := #[u]) rfl).cell]
  simpa using h
end Go.Proofs.Ytfbobojpocnfeaa
