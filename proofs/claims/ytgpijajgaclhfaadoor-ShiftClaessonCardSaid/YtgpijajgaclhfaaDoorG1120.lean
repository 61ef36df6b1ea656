/- Positions, plain: an order with neither a two and two nor a three and one has them. (*order).positions: a walk. Positions: a walk. Check, and what Positions and Levels answer for no order: walks. Levels: a walk. Levels, plain: where overlapping goes on, the ends of canonical intervals are the heights. The document's Levels: a walk. The law's ints at equal lists; the functions at a tame order: for Positions and Scott. Overlapping goes on just if overlapping elements have the same before and after them; every height up to the greatest is had. -/
import Derived.Test.YtgpijajgaclhfaaDoorG1119
import Derived.Test.YtgpijajgaclhfaaDoorG1115
import Derived.Test.YtgpijajgaclhfaaDoorG1118
set_option linter.unusedVariables false
set_option linter.unusedSimpArgs false
namespace Go.Proofs.YtgpijajgaclhfaaDoor

/-- how many of the first -/
def cn (p : Nat → Bool) : Nat → Nat
  | 0 => 0
  | n + 1 => cn p n + if p n then 1 else 0
theorem cn_le (p : Nat → Bool) : ∀ n, cn p n ≤ n
  | 0 => Nat.le_refl _
  | n + 1 => by
    have := cn_le p n
    unfold cn; split <;> omega
theorem cn_mono {p q : Nat → Bool} : ∀ {n}, (∀ i, i < n → p i = true → q i = true) → cn p n ≤ cn q n
  | 0, _ => Nat.le_refl _
  | n + 1, h => by
    have h1 := cn_mono (p := p) (q := q) (n := n) fun i hi => h i (by omega)
    have h2 := h n (by omega)
    unfold cn
    cases hp : p n
    · simp; omega
    · rw [h2 hp]; simp; omega
theorem cn_lt {p q : Nat → Bool} {j : Nat} : ∀ {n}, (∀ i, i < n → p i = true → q i = true) → j < n → p j = false → q j = true → cn p n < cn q n
  | 0, _, hj, _, _ => by omega
  | n + 1, h, hj, hp, hq => by
    unfold cn
    by_cases e : j = n
    · subst e
      have h1 := cn_mono (p := p) (q := q) (n := j) fun i hi => h i (by omega)
      rw [hp, hq]; simp; omega
    · have h1 := cn_lt (n := n) (fun i hi => h i (by omega)) (by omega : j < n) hp hq
      have h2 := h n (by omega)
      cases hpn : p n
      · simp; omega
      · rw [h2 hpn]; simp; omega
/-- the greatest of the first -/
def mx (f : Nat → Nat) : Nat → Nat
  | 0 => 0
  | n + 1 => max (mx f n) (f n)
theorem mx_ge {f : Nat → Nat} {i : Nat} : ∀ {n}, i < n → f i ≤ mx f n
  | 0, h => by omega
  | n + 1, h => by
    unfold mx
    by_cases e : i = n
    · subst e; omega
    · have := mx_ge (f := f) (n := n) (by omega : i < n); omega
theorem mx_at (f : Nat → Nat) : ∀ n, mx f n = 0 ∨ ∃ i, i < n ∧ f i = mx f n
  | 0 => .inl rfl
  | n + 1 => by
    unfold mx
    by_cases h : mx f n ≤ f n
    · exact .inr ⟨n, by omega, by omega⟩
    · rcases mx_at f n with h1 | ⟨i, hi, e⟩
      · omega
      · exact .inr ⟨i, by omega, by omega⟩
theorem mx_congr {f g : Nat → Nat} : ∀ {n}, (∀ i, i < n → f i = g i) → mx f n = mx g n
  | 0, _ => rfl
  | n + 1, h => by
    unfold mx
    rw [mx_congr (n := n) fun i hi => h i (by omega), h n (by omega)]
/-- neither a two and two nor a three and one -/
structure Semi (n : Nat) (r : Nat → Nat → Bool) : Prop where
  ord : OrdP n r
  no2 : ∀ a b c d, ¬ TwoTwo n r a b c d
  no3 : ∀ a b c d, ¬ ThreeOne n r a b c d
def key (n : Nat) (r : Nat → Nat → Bool) (x : Nat) : Nat := n + cn (fun i => r i x) n - cn (fun u => r x u) n
theorem key_le (n : Nat) (r : Nat → Nat → Bool) (x : Nat) : key n r x ≤ 2 * n := by
  have := cn_le (fun i => r i x) n
  unfold key; omega
theorem key_lt {n : Nat} {r : Nat → Nat → Bool} {x y : Nat} (h1 : cn (fun i => r i x) n ≤ cn (fun i => r i y) n) (h2 : cn (fun u => r y u) n ≤ cn (fun u => r x u) n)
    (h3 : cn (fun i => r i x) n < cn (fun i => r i y) n ∨ cn (fun u => r y u) n < cn (fun u => r x u) n) : key n r x < key n r y := by
  have := cn_le (fun u => r y u) n
  have := cn_le (fun u => r x u) n
  unfold key; omega
theorem bfalse {b : Bool} (h : ¬ b = true) : b = false := by cases b <;> simp_all
/-- less, because it is before something that the other is not before -/
theorem key_a {n : Nat} {r : Nat → Nat → Bool} (S : Semi n r) {i t k : Nat} (hi : i < n) (ht : t < n) (hk : k < n) (h1 : r i t = true) (h2 : r k t = false) : key n r i < key n r k := by
  have tr : ∀ {x y z}, x < n → y < n → z < n → r x y = true → r y z = true → r x z = true := fun hx hy hz => S.ord.tr _ _ _ hx hy hz
  have ct : r k t = true → False := fun h => by rw [h2] at h; cases h
  refine key_lt (cn_mono fun z hz h => ?_) (cn_mono fun u hu h => ?_) (.inr (cn_lt (j := t) (fun u hu h => ?_) ht h2 h1))
  · apply Classical.byContradiction; intro hzk
    have hzt := tr hz hi ht h h1
    have nik : ¬ r i k = true := fun e => hzk (tr hz hi hk h e)
    have ntk : ¬ r t k = true := fun e => hzk (tr hz ht hk hzt e)
    have nki : ¬ r k i = true := fun e => ct (tr hk hi ht e h1)
    have nkz : ¬ r k z = true := fun e => ct (tr hk hz ht e hzt)
    refine S.no3 z i t k ⟨hz, hi, ht, hk, h, h1, ⟨fun e => ?_, bfalse nkz, bfalse hzk⟩, ⟨fun e => ?_, bfalse nki, bfalse nik⟩, ⟨fun e => ?_, h2, bfalse ntk⟩⟩
    · exact ct (e ▸ hzt)
    · exact ct (e ▸ h1)
    · exact hzk (e ▸ hzt)
  · apply Classical.byContradiction; intro hiu
    exact S.no2 i t k u ⟨hi, ht, hk, hu, h1, h, bfalse hiu, h2⟩
  · apply Classical.byContradiction; intro hiu
    exact S.no2 i t k u ⟨hi, ht, hk, hu, h1, h, bfalse hiu, h2⟩
/-- greater, because something is before it that is not before the other -/
theorem key_b {n : Nat} {r : Nat → Nat → Bool} (S : Semi n r) {i t k : Nat} (hi : i < n) (ht : t < n) (hk : k < n) (h1 : r k i = true) (h2 : r k t = false) : key n r t < key n r i := by
  have tr : ∀ {x y z}, x < n → y < n → z < n → r x y = true → r y z = true → r x z = true := fun hx hy hz => S.ord.tr _ _ _ hx hy hz
  have ct : r k t = true → False := fun h => by rw [h2] at h; cases h
  refine key_lt (cn_mono fun z hz h => ?_) (cn_mono fun u hu h => ?_) (.inl (cn_lt (j := k) (fun z hz h => ?_) hk h2 h1))
  · apply Classical.byContradiction; intro hzi
    exact S.no2 k i z t ⟨hk, hi, hz, ht, h1, h, h2, bfalse hzi⟩
  · apply Classical.byContradiction; intro htu
    have hku := tr hk hi hu h1 h
    have nti : ¬ r t i = true := fun e => htu (tr ht hi hu e h)
    have ntk : ¬ r t k = true := fun e => htu (tr ht hk hu e hku)
    have nit : ¬ r i t = true := fun e => ct (tr hk hi ht h1 e)
    have nut : ¬ r u t = true := fun e => ct (tr hk hu ht hku e)
    refine S.no3 k i u t ⟨hk, hi, hu, ht, h1, h, ⟨fun e => ?_, bfalse ntk, h2⟩, ⟨fun e => ?_, bfalse nti, bfalse nit⟩, ⟨fun e => ?_, bfalse htu, bfalse nut⟩⟩
    · exact htu (e ▸ hku)
    · exact htu (e ▸ h)
    · exact ct (e ▸ hku)
  · apply Classical.byContradiction; intro hzi
    exact S.no2 k i z t ⟨hk, hi, hz, ht, h1, h, h2, bfalse hzi⟩
/-- numbers for the elements with lesser keys -/
structure Upto (n : Nat) (r : Nat → Nat → Bool) (j M : Nat) (q : Nat → Nat) : Prop where
  pos : 1 ≤ M
  same : ∀ x y, x < n → y < n → key n r x < j → key n r x = key n r y → q x = q y
  less : ∀ x y, x < n → y < n → key n r y < j → key n r x < key n r y → q x < q y
  rel : ∀ x y, x < n → y < n → key n r x < j → key n r y < j → (r x y = true ↔ q x + M < q y)
  ne : ∀ x y, x < n → y < n → key n r x < j → key n r y < j → q y ≠ q x + M
  le : ∀ x, x < n → key n r x < j → q x ≤ 2 * j * M
theorem upto {n : Nat} {r : Nat → Nat → Bool} (S : Semi n r) : ∀ j, ∃ M q, Upto n r j M q
  | 0 => ⟨1, fun _ => 0, Nat.le_refl _, fun _ _ _ _ h => by omega, fun _ _ _ _ h => by omega, fun _ _ _ _ h => by omega, fun _ _ _ _ h => by omega, fun _ _ h => by omega⟩
  | j + 1 => by
    obtain ⟨M, q, U⟩ := upto S j
    have h0 := U.pos
    obtain ⟨f, hf⟩ : ∃ f : Nat → Nat → Nat, ∀ t i, f t i = if key n r i < j then (if r i t = true then q i + M else q i) else 0 := ⟨_, fun _ _ => rfl⟩
    obtain ⟨lo, hlo⟩ : ∃ lo : Nat → Nat, ∀ t, lo t = mx (f t) n := ⟨_, fun _ => rfl⟩
    have lo1 : ∀ t i, i < n → key n r i < j → q i ≤ lo t := fun t i hi hk => by
      have := mx_ge (f := f t) hi
      rw [hf, if_pos hk] at this
      rw [hlo]; split at this <;> omega
    have lo2 : ∀ t i, i < n → key n r i < j → r i t = true → q i + M ≤ lo t := fun t i hi hk hr => by
      have := mx_ge (f := f t) hi
      rw [hf, if_pos hk, if_pos hr] at this
      rw [hlo]; exact this
    have lo3 : ∀ t, lo t = 0 ∨ ∃ i, i < n ∧ key n r i < j ∧ ((r i t = true ∧ lo t = q i + M) ∨ (r i t = false ∧ lo t = q i)) := fun t => by
      rcases mx_at (f t) n with h | ⟨i, hi, e⟩
      · exact .inl ((hlo t).trans h)
      · rw [← hlo, hf] at e
        by_cases hk : key n r i < j
        · rw [if_pos hk] at e
          by_cases hr : r i t = true
          · rw [if_pos hr] at e; exact .inr ⟨i, hi, hk, .inl ⟨hr, e.symm⟩⟩
          · rw [if_neg hr] at e; exact .inr ⟨i, hi, hk, .inr ⟨bfalse hr, e.symm⟩⟩
        · rw [if_neg hk] at e; exact .inl e.symm
    have los : ∀ t u, t < n → u < n → key n r t = key n r u → lo t = lo u := fun t u ht hu e => by
      rw [hlo, hlo]
      refine mx_congr fun i hi => ?_
      have : r i t = r i u := by
        cases h1 : r i t <;> cases h2 : r i u
        · rfl
        · have := key_b S hu ht hi h2 h1; omega
        · have := key_b S ht hu hi h1 h2; omega
        · rfl
      rw [hf, hf, this]
    have rkey : ∀ x y, x < n → y < n → r x y = true → key n r x < key n r y := fun x y hx hy h => key_a S hx hy hy h (S.ord.irr y hy)
    have lon : ∀ t x, t < n → x < n → key n r x < j → j ≤ key n r t → r x t = false → lo t < q x + M := fun t x ht hx hk hj hr => by
      rcases lo3 t with h | ⟨i, hi, hki, ⟨h1, h2⟩ | ⟨h1, h2⟩⟩
      · omega
      · have := U.less i x hi hx hk (key_a S hi ht hx h1 hr); omega
      · have h3 := U.ne x i hx hi hk hki
        have h4 := U.rel x i hx hi hk hki
        by_cases h5 : r x i = true
        · have := key_b S hi ht hx h5 hr; omega
        · have := mt h4.2 h5; omega
    refine ⟨2 * M, fun x => if key n r x < j then 2 * q x else 2 * lo x + 1, by omega, fun x y hx hy hk e => ?_, fun x y hx hy hk e => ?_, fun x y hx hy hkx hky => ?_, fun x y hx hy hkx hky => ?_, fun x hx hk => ?_⟩
    · by_cases h : key n r x < j
      · rw [if_pos h, if_pos (by omega), U.same x y hx hy h e]
      · rw [if_neg h, if_neg (by omega), los x y hx hy e]
    · by_cases h : key n r y < j
      · rw [if_pos h, if_pos (by omega)]
        have := U.less x y hx hy h e; omega
      · rw [if_neg h, if_pos (by omega)]
        have := lo1 y x hx (by omega); omega
    · by_cases h : key n r x < j
      · by_cases h' : key n r y < j
        · rw [if_pos h, if_pos h', U.rel x y hx hy h h']; omega
        · rw [if_pos h, if_neg h']
          constructor
          · intro hr
            have := lo2 y x hx h hr; omega
          · intro hr
            by_cases h3 : r x y = true
            · exact h3
            · have := lon y x hy hx h (by omega) (bfalse h3); omega
      · have nr : ¬ r x y = true := fun hr => by have := rkey x y hx hy hr; omega
        by_cases h' : key n r y < j
        · rw [if_neg h, if_pos h']
          have := lo1 x y hy h'
          exact ⟨fun hr => absurd hr nr, fun hr => by omega⟩
        · rw [if_neg h, if_neg h', los x y hx hy (by omega)]
          exact ⟨fun hr => absurd hr nr, fun hr => by omega⟩
    · by_cases h : key n r x < j
      · by_cases h' : key n r y < j
        · rw [if_pos h, if_pos h']
          have := U.ne x y hx hy h h'; omega
        · rw [if_pos h, if_neg h']; omega
      · by_cases h' : key n r y < j
        · rw [if_neg h, if_pos h']; omega
        · rw [if_neg h, if_neg h', los x y hx hy (by omega)]; omega
    · have e1 : 2 * (j + 1) * (2 * M) = 2 * (2 * j * M) + 4 * M := by
        rw [show 2 * (j + 1) = 2 * j + 2 by omega, Nat.add_mul, Nat.mul_left_comm (2 * j) 2 M]; omega
      have hq : ∀ i, i < n → key n r i < j → q i ≤ 2 * j * M := U.le
      rw [e1]
      generalize 2 * j * M = Q at *
      by_cases h : key n r x < j
      · rw [if_pos h]; have := hq x hx h; omega
      · rw [if_neg h]
        rcases lo3 x with h | ⟨i, hi, hki, ⟨h1, h2⟩ | ⟨h1, h2⟩⟩
        · omega
        · have := hq i hi hki; omega
        · have := hq i hi hki; omega
/-- positions for the width n -/
theorem places {n : Nat} {r : Nat → Nat → Bool} (S : Semi n r) (hn : n ≤ 12) : ∃ p : Nat → Nat, (∀ x, x < n → p x ≤ 1000) ∧ (∀ x y, x < n → y < n → r x y = true → p x + n + 1 ≤ p y) ∧ ∀ x y, x < n → y < n → r x y = false → p y ≤ p x + n := by
  obtain ⟨M, q, U⟩ := upto S (2 * n + 1)
  have h0 := U.pos
  have hk : ∀ x, key n r x < 2 * n + 1 := fun x => by have := key_le n r x; omega
  obtain ⟨rk, hrk⟩ : ∃ rk : Nat → Nat, ∀ b, rk b = cn (fun y => decide (q y % M < b)) n := ⟨_, fun _ => rfl⟩
  have rk1 : ∀ x, x < n → rk (q x % M) + 1 ≤ n := fun x hx => by
    have h1 := cn_lt (p := fun y => decide (q y % M < q x % M)) (q := fun _ => true) (j := x) (n := n) (fun _ _ _ => rfl) hx (by simp) rfl
    have h2 := cn_le (fun _ => true) n
    rw [hrk]; omega
  have rk2 : ∀ x b, x < n → q x % M < b → rk (q x % M) + 1 ≤ rk b := fun x b hx hb => by
    rw [hrk, hrk]
    exact cn_lt (j := x) (fun i _ h => by simp at *; omega) hx (by simp) (by simpa using hb)
  refine ⟨fun x => (q x / M) * (n + 1) + rk (q x % M), fun x hx => ?_, fun x y hx hy hr => ?_, fun x y hx hy hr => ?_⟩
  · have h1 := rk1 x hx
    have h2 : q x / M ≤ 2 * (2 * n + 1) := Nat.div_le_of_le_mul (by rw [Nat.mul_comm M]; exact U.le x hx (hk x))
    have h3 : (q x / M) * (n + 1) ≤ 50 * 13 := Nat.mul_le_mul (by omega) (by omega)
    show (q x / M) * (n + 1) + rk (q x % M) ≤ 1000
    omega
  · have h1 := (U.rel x y hx hy (hk x) (hk y)).1 hr
    have h2 := rk2 x (q y % M) hx
    have h3 := rk1 x hx
    have ex := Nat.div_add_mod (q x) M
    have ey := Nat.div_add_mod (q y) M
    have lx := Nat.mod_lt (q x) (by omega : M > 0)
    have ly := Nat.mod_lt (q y) (by omega : M > 0)
    show (q x / M) * (n + 1) + rk (q x % M) + n + 1 ≤ (q y / M) * (n + 1) + rk (q y % M)
    generalize q x / M = a at *
    generalize q y / M = b at *
    generalize rk (q x % M) = u at *
    generalize rk (q y % M) = v at *
    generalize q x % M = c at *
    generalize q y % M = d at *
    by_cases h4 : b ≤ a
    · have := Nat.mul_le_mul_left M h4; omega
    · obtain ⟨e, rfl⟩ : ∃ e, b = a + 1 + e := ⟨b - a - 1, by omega⟩
      by_cases h5 : e = 0
      · subst h5
        have e1 : M * (a + 1 + 0) = M * a + M := by rw [Nat.add_zero, Nat.mul_add, Nat.mul_one]
        have e2 : (a + 1 + 0) * (n + 1) = a * (n + 1) + (n + 1) := by rw [Nat.add_zero, Nat.add_mul, Nat.one_mul]
        rw [e2]
        have := h2 (by omega)
        omega
      · obtain ⟨g, rfl⟩ : ∃ g, e = g + 1 := ⟨e - 1, by omega⟩
        have e2 : (a + 1 + (g + 1)) * (n + 1) = a * (n + 1) + (n + 1) + (n + 1) + g * (n + 1) := by rw [show a + 1 + (g + 1) = a + 1 + 1 + g by omega, Nat.add_mul, Nat.add_mul, Nat.add_mul, Nat.one_mul]
        rw [e2]
        generalize a * (n + 1) = z at *
        generalize g * (n + 1) = z2 at *
        omega
  · have h1 := mt (U.rel x y hx hy (hk x) (hk y)).2 (by rw [hr]; simp)
    have h1' := U.ne x y hx hy (hk x) (hk y)
    have h2 := rk2 y (q x % M) hy
    have h3 := rk1 y hy
    have ex := Nat.div_add_mod (q x) M
    have ey := Nat.div_add_mod (q y) M
    have lx := Nat.mod_lt (q x) (by omega : M > 0)
    have ly := Nat.mod_lt (q y) (by omega : M > 0)
    show (q y / M) * (n + 1) + rk (q y % M) ≤ (q x / M) * (n + 1) + rk (q x % M) + n
    generalize q x / M = a at *
    generalize q y / M = b at *
    generalize rk (q x % M) = u at *
    generalize rk (q y % M) = v at *
    generalize q x % M = c at *
    generalize q y % M = d at *
    by_cases h4 : b ≤ a
    · have := Nat.mul_le_mul_right (n + 1) h4; omega
    · obtain ⟨e, rfl⟩ : ∃ e, b = a + 1 + e := ⟨b - a - 1, by omega⟩
      by_cases h5 : e = 0
      · subst h5
        have e1 : M * (a + 1 + 0) = M * a + M := by rw [Nat.add_zero, Nat.mul_add, Nat.mul_one]
        have e2 : (a + 1 + 0) * (n + 1) = a * (n + 1) + (n + 1) := by rw [Nat.add_zero, Nat.add_mul, Nat.one_mul]
        rw [e2]
        have := h2 (by omega)
        omega
      · have h6 := Nat.mul_le_mul_left M (show a + 2 ≤ a + 1 + e by omega)
        rw [Nat.mul_add] at h6
        omega
end Go.Proofs.YtgpijajgaclhfaaDoor
namespace Go.Proofs.YtgpijajgaclhfaaDoor
open Go.RowKit Go.Shelf

def sm (f : Nat → Nat) : Nat → Nat
  | 0 => 0
  | n + 1 => sm f n + f n
theorem sm_le {f g : Nat → Nat} : ∀ {n}, (∀ i, i < n → f i ≤ g i) → sm f n ≤ sm g n
  | 0, _ => Nat.le_refl _
  | n + 1, h => by
    have h1 := sm_le (f := f) (g := g) (n := n) fun i hi => h i (by omega)
    have h2 := h n (by omega)
    unfold sm; omega
theorem sm_lt {f g : Nat → Nat} {j : Nat} : ∀ {n}, (∀ i, i < n → f i ≤ g i) → j < n → f j < g j → sm f n < sm g n
  | 0, _, hj, _ => by omega
  | n + 1, h, hj, hlt => by
    unfold sm
    by_cases e : j = n
    · subst e
      have h1 := sm_le (f := f) (g := g) (n := j) fun i hi => h i (by omega)
      omega
    · have h1 := sm_lt (n := n) (fun i hi => h i (by omega)) (by omega : j < n) hlt
      have h2 := h n (by omega)
      omega
def Con (n : Nat) (r : Nat → Nat → Bool) (f : Nat → Nat) (x y : Nat) : Prop := (r x y = true → f x + n + 1 ≤ f y) ∧ (x ≠ y → r x y = false → r y x = false → f x ≤ f y + n)
structure Places (n : Nat) (r : Nat → Nat → Bool) (p : Nat → Nat) : Prop where
  le : ∀ x, x < n → p x ≤ 1000
  up : ∀ x y, x < n → y < n → r x y = true → p x + n + 1 ≤ p y
  no : ∀ x y, x < n → y < n → r x y = false → p y ≤ p x + n
structure Go1 (n : Nat) (r : Nat → Nat → Bool) (p f0 f : Nat → Nat) (b : Bool) (D : Nat → Nat → Prop) : Prop where
  le : ∀ x, x < n → f x ≤ p x
  ch : (b = false ∧ ∀ x, x < n → f x = f0 x) ∨ (b = true ∧ sm f0 n < sm f n)
  con : b = false → ∀ x y, x < n → y < n → D x y → Con n r f0 x y
theorem Go1.next {n : Nat} {r : Nat → Nat → Bool} {p f0 f : Nat → Nat} {b : Bool} {i j : Nat} (h : Go1 n r p f0 f b (fun x y => x < i ∨ (x = i ∧ y < j))) (hi : i < n) (hj : j < n) (hc : Con n r f i j) : Go1 n r p f0 f b (fun x y => x < i ∨ (x = i ∧ y < j + 1)) := by
  refine ⟨h.le, h.ch, fun hb x y hx hy hd => ?_⟩
  rcases hd with h1 | ⟨rfl, h2⟩
  · exact h.con hb x y hx hy (.inl h1)
  · by_cases e : y = j
    · subst e
      rcases h.ch with ⟨_, h3⟩ | ⟨h3, _⟩
      · unfold Con at *
        rw [← h3 x hi, ← h3 y hj]; exact hc
      · rw [hb] at h3; cases h3
    · exact h.con hb x y hx hy (.inr ⟨rfl, by omega⟩)
theorem Go1.upd {n : Nat} {r : Nat → Nat → Bool} {p f0 f : Nat → Nat} {b : Bool} {D D' : Nat → Nat → Prop} {j v : Nat} (h : Go1 n r p f0 f b D) (hj : j < n) (h1 : f j < v) (h2 : v ≤ p j) : Go1 n r p f0 (fun y => if y = j then v else f y) true D' := by
  have hlt : sm f n < sm (fun y => if y = j then v else f y) n := sm_lt (j := j) (fun i _ => by
    show f i ≤ if i = j then v else f i
    by_cases e : i = j
    · subst e; simp; omega
    · simp [e]) hj (by simp; exact h1)
  refine ⟨fun x hx => ?_, .inr ⟨rfl, ?_⟩, fun hb => by cases hb⟩
  · show (if x = j then v else f x) ≤ p x
    by_cases e : x = j
    · subst e; simpa using h2
    · simpa [e] using h.le x hx
  · rcases h.ch with ⟨_, h3⟩ | ⟨_, h3⟩
    · have := sm_le (f := f0) (g := f) (n := n) fun i hi => by rw [h3 i hi]; exact Nat.le_refl _
      omega
    · omega
theorem Go1.row {n : Nat} {r : Nat → Nat → Bool} {p f0 f : Nat → Nat} {b : Bool} {i : Nat} (h : Go1 n r p f0 f b (fun x y => x < i ∨ (x = i ∧ y < n))) : Go1 n r p f0 f b (fun x y => x < i + 1 ∨ (x = i + 1 ∧ y < 0)) :=
  ⟨h.le, h.ch, fun hb x y hx hy hd => h.con hb x y hx hy (by omega)⟩
theorem con_rep {n : Nat} {r : Nat → Nat → Bool} {f : Nat → Nat} (hn : n ≤ 12) (hO : OrdP n r) (hle : ∀ x, x < n → f x ≤ 1000) (h : ∀ x y, x < n → y < n → Con n r f x y) : RepA n n r (fun x => (f x : Int)) (n : Int) := by
  refine ⟨rfl, by omega, fun x y hx hy => ?_⟩
  rw [far_nat (by have := hle x hx; omega) (by have := hle y hy; omega) (by omega)]
  have h1 := h x y hx hy
  have h2 := h y x hy hx
  unfold Con at h1 h2
  cases hr : r x y
  · refine (decide_eq_false ?_).symm
    by_cases e : x = y
    · subst e; omega
    · cases hs : r y x
      · have := h2.2 (fun e2 => e e2.symm) hs hr; omega
      · have := h2.1 hs; omega
  · exact (decide_eq_true (by have := h1.1 hr; omega)).symm
set_option maxRecDepth 100000 in
set_option maxHeartbeats 600000 in
theorem fix_any (B n : Nat) (r : Nat → Nat → Bool) (w : World) (hn1 : 1 ≤ n) (hn : n ≤ 12) (hS : Semi n r) (hO : OrdAt w B n r) :
    Calls Tryd.prog 69 #[.pointer (some ⟨B, 0, none⟩), .int .i64 (n : Int)] w fun e w' => ∃ (g : Nat) (f : Nat → Nat), e = .returned (.slice (some ⟨g, 0, none⟩) n n) ∧ RowB w' g n (fun x => ((f x : Nat) : Int)) ∧ (∀ x, x < n → f x ≤ 1000) ∧ RepA n n r (fun x => ((f x : Nat) : Int)) (n : Int) ∧ Below w.heap.size w w' := by
  have HPP : Hid (∃ p, Places n r p) := (places hS hn).elim fun p h => ⟨p, h.1, h.2.1, h.2.2⟩
  obtain ⟨p, hp⟩ := HPP.out
  have HP := Lib.hid hp
  have HORD := Lib.hid hS.ord
  have HO := Lib.hid (fun W (hW : Below w.heap.size w W) => hO.below hW (Nat.le_refl _))
  have l0 := hO.cn
  clear hp HPP hS
  obtain ⟨vs, hv1, hv2, hmk⟩ := make_28 n (by omega)
  have HR0 : Hid (RowB (w.alloc (.cells vs 3)) w.heap.size n (fun _ => ((0 : Nat) : Int))) := ⟨vs, BoxN.new rfl, hv1, hv2⟩
  have HB0 : Hid (Below w.heap.size w (w.alloc (.cells vs 3))) := (Below.refl _ _).alloc (Nat.le_refl _) _
  clear hv1 hv2 hO
  go_enter Tryd.func69, Tryd.ntmps69
  go_upto_region 3 with (fail)
  obtain ⟨g, hg⟩ : ∃ g, Hid (g = w.heap.size) := ⟨_, rfl⟩
  rw [← hg.out] at HR0
  simp only [← hg.out]
  generalize w.alloc (.cells vs 3) = X at *
  clear hmk l0
  go_loopg [6] (2 * sm p n + 1) (fun gk s6 wr => ∃ (f : Nat → Nat) (b : Bool), s6 = .bool b ∧ Hid (RowB wr g n (fun x => ((f x : Nat) : Int))) ∧ Hid (Below w.heap.size w wr) ∧ Hid (∀ x, x < n → f x ≤ p x) ∧ Hid (b = false → ∀ x y, x < n → y < n → Con n r f x y) ∧ 2 * (sm p n - sm f n) + (if b then 1 else 0) ≤ gk)
  case atStart => exact ⟨fun _ => 0, true, rfl, HR0, HB0, fun x _ => Nat.zero_le _, fun h => (by cases h), by simp; omega⟩
  case round =>
    obtain ⟨f0, b, rfl, hR, hB, hle, hcon, hm⟩ := hrel
    clear HR0 HB0
    cases b
    · have HRP := Lib.hid (con_rep hn HORD.out (fun x hx => Nat.le_trans (hle.out x hx) (HP.out.le x hx)) (hcon.out rfl))
      have HLE : Hid (∀ x, x < n → f0 x ≤ 1000) := fun x hx => Nat.le_trans (hle.out x hx) (HP.out.le x hx)
      go_wp2
      go_ret
      exact ⟨g, rfl, f0, hR.out, HLE.out, HRP.out, hB.out⟩
    · have hm2 : 2 * (sm p n - sm f0 n) + 1 ≤ gk := by simpa using hm
      have HM := Lib.hid hm2
      clear hm hm2 hcon
      have l0 := (HO.out wr hB.out).cn
      go_upto_region 6 with (fail)
      obtain ⟨wo, hwo⟩ : ∃ wo, wo = wr := ⟨_, rfl⟩
      subst hwo
      clear l0
      go_loopw [6, 20] (fun s6 s20 wr => ∃ (i : Nat) (f : Nat → Nat) (b : Bool), i ≤ n ∧ s20 = .int .i64 (i : Int) ∧ s6 = .bool b ∧ Hid (RowB wr g n (fun x => ((f x : Nat) : Int))) ∧ Hid (Below w.heap.size w wr) ∧ Hid (Go1 n r p f0 f b (fun x y => x < i ∨ (x = i ∧ y < 0)))) (fun _ s20 _ => n - (intOf s20).toNat)
      case atStart => exact ⟨0, f0, false, by omega, rfl, rfl, hR, hB, hle.out, .inl ⟨rfl, fun _ _ => rfl⟩, fun _ x y _ _ h => by omega⟩
      case round =>
        clear hR hB
        obtain ⟨i, f, b, hi, rfl, rfl, hR, hB, hG⟩ := hrel
        by_cases hin : i < n
        · have g1 : (i : Int) < (n : Int) := by omega
          have l0 := (HO.out wr hB.out).cn
          go_upto_region 9 with (fail)
          clear l0
          go_loopw [6, 27] (fun s6 s27 wr => ∃ (j : Nat) (f : Nat → Nat) (b : Bool), j ≤ n ∧ s27 = .int .i64 (j : Int) ∧ s6 = .bool b ∧ Hid (RowB wr g n (fun x => ((f x : Nat) : Int))) ∧ Hid (Below w.heap.size w wr) ∧ Hid (Go1 n r p f0 f b (fun x y => x < i ∨ (x = i ∧ y < j)))) (fun _ s27 _ => n - (intOf s27).toNat)
          case atStart => exact ⟨0, f, b, by omega, rfl, rfl, hR, hB, hG⟩
          case round =>
            clear hR hB hG
            obtain ⟨j, f, b, hj, rfl, rfl, hR, hB, hG⟩ := hrel
            by_cases hjn : j < n
            · have g2 : (j : Int) < (n : Int) := by omega
              have g3 : (0 : Int) ≤ (i : Int) := by omega
              have g4 : (0 : Int) ≤ (j : Int) := by omega
              have k1 : wr.cell? ⟨g, i, none⟩ = some (.int .i64 (f i : Int)) := hR.out.cell hin
              have k2 : wr.cell? ⟨g, j, none⟩ = some (.int .i64 (f j : Int)) := hR.out.cell hjn
              have kf := hR.out.frozen j
              have HOW := Lib.hid (HO.out wr hB.out)
              have H1 := Lib.hid (has_any B n i j r wr hn hin hjn HOW.out)
              have H2 := Lib.hid (has_any B n j i r wr hn hjn hin HOW.out)
              have hf1 : f i ≤ 1000 := Nat.le_trans (hG.out.le i hin) (HP.out.le i hin)
              have hf2 : f j ≤ 1000 := Nat.le_trans (hG.out.le j hjn) (HP.out.le j hjn)
              have HST : Hid (Con n r f i j → Go1 n r p f0 f b (fun x y => x < i ∨ (x = i ∧ y < j + 1))) := fun h => hG.out.next hin hjn h
              have HUP : Hid (∀ v, f j < v → v ≤ p j → Go1 n r p f0 (fun y => if y = j then v else f y) true (fun x y => x < i ∨ (x = i ∧ y < j + 1))) := fun v h1 h2 => hG.out.upd hjn h1 h2
              have HSET : Hid (∀ v : Nat, RowB (wr.setCell ⟨g, j, none⟩ (.int .i64 (v : Int))) g n (fun x => (((if x = j then v else f x : Nat)) : Int)) ∧ Below w.heap.size w (wr.setCell ⟨g, j, none⟩ (.int .i64 (v : Int)))) := fun v => ⟨(hR.out.set hjn (v : Int)).congr fun x hx => by by_cases e : x = j <;> simp [e], hB.out.setCell (p := ⟨g, j, none⟩) (by show w.heap.size ≤ g; rw [hg.out]; exact Nat.le_refl _) _⟩
              have hle1 := HP.out.up i j hin hjn
              have hle2 := HP.out.no j i hjn hin
              have hpi := hG.out.le i hin
              obtain ⟨fi, hfi⟩ : ∃ fi, f i = fi := ⟨_, rfl⟩
              obtain ⟨fj, hfj⟩ : ∃ fj, f j = fj := ⟨_, rfl⟩
              rw [hfi] at k1 hf1 hpi
              rw [hfj] at k2 hf2 HUP
              have HRR := Lib.hid hR.out
              clear hR hG
              have z1 : IntKind.i64.wrap ((fi : Int) - (n : Int)) = (fi : Int) - (n : Int) := IntWalk.i64_in _ (by omega)
              have z2 : IntKind.i64.wrap ((fi : Int) + (n : Int)) = (fi : Int) + (n : Int) := IntWalk.i64_in _ (by omega)
              have z3 : IntKind.i64.wrap ((fi : Int) + (n : Int) + 1) = (fi : Int) + (n : Int) + 1 := IntWalk.i64_in _ (by omega)
              have HOUT : Hid (Go1 n r p f0 f b (fun x y => x < i ∨ (x = i ∧ y < j + 1)) → True) := fun _ => trivial
              clear HOUT
              by_cases eij : i = j
              · have q1 : ((i : Int) != (j : Int)) = false := by simp [eij]
                have hr : r i j = false := by rw [eij]; exact HORD.out.irr j hjn
                have HN := Lib.hid (HST.out ⟨fun h => (by rw [hr] at h; cases h), fun h => absurd eij h⟩)
                rw [hr] at H1
                clear H2 HST HUP HSET eij
                go_wp2_with (first
                  | (go_at_call 66; refine H1.out.mono ?_; rintro e wA ⟨rfl, hwA⟩; replace hwA := hwA.symm; subst hwA; clear H1)
                  | (go_at_call 66; refine H2.out.mono ?_; rintro e wA ⟨rfl, hwA⟩; replace hwA := hwA.symm; subst hwA))
                exact ⟨⟨j + 1, f, b, by omega, int_eq (by omega), rfl, HRR, hB, HN⟩, by simp [intOf]; omega⟩
              · have q1 : ((i : Int) != (j : Int)) = true := by rw [bne_iff_ne]; omega
                by_cases hr : r i j = true
                · have hs : r j i = false := by
                    cases hs : r j i
                    · rfl
                    · have := HORD.out.tr i j i hin hjn hin hr hs
                      rw [HORD.out.irr i hin] at this; cases this
                  rw [hr] at H1
                  rw [hs] at H2
                  by_cases hlt : fj < fi + n + 1
                  · have q2 : (fj : Int) < (fi : Int) + (n : Int) + 1 := by omega
                    have HN := Lib.hid (HUP.out (fi + n + 1) hlt (by have := hle1 hr; omega))
                    have HS := Lib.hid (HSET.out (fi + n + 1))
                    rw [show ((fi + n + 1 : Nat) : Int) = (fi : Int) + (n : Int) + 1 by omega] at HS
                    clear HST HUP HSET hr hs
                    go_wp2_with (first
                      | (go_at_call 66; refine H1.out.mono ?_; rintro e wA ⟨rfl, hwA⟩; replace hwA := hwA.symm; subst hwA; clear H1)
                      | (go_at_call 66; refine H2.out.mono ?_; rintro e wA ⟨rfl, hwA⟩; replace hwA := hwA.symm; subst hwA))
                    exact ⟨⟨j + 1, _, true, by omega, int_eq (by omega), rfl, HS.out.1, HS.out.2, HN⟩, by simp [intOf]; omega⟩
                  · have q2 : ¬ (fj : Int) < (fi : Int) + (n : Int) + 1 := by omega
                    have HN := Lib.hid (HST.out ⟨fun _ => by omega, fun _ h => by rw [hr] at h; cases h⟩)
                    clear HST HUP HSET hr hs
                    go_wp2_with (first
                      | (go_at_call 66; refine H1.out.mono ?_; rintro e wA ⟨rfl, hwA⟩; replace hwA := hwA.symm; subst hwA; clear H1)
                      | (go_at_call 66; refine H2.out.mono ?_; rintro e wA ⟨rfl, hwA⟩; replace hwA := hwA.symm; subst hwA))
                    exact ⟨⟨j + 1, f, b, by omega, int_eq (by omega), rfl, HRR, hB, HN⟩, by simp [intOf]; omega⟩
                · have hr : r i j = false := by simpa using hr
                  rw [hr] at H1
                  by_cases hs : r j i = true
                  · rw [hs] at H2
                    have HN := Lib.hid (HST.out ⟨fun h => (by rw [hr] at h; cases h), fun _ _ h => by rw [hs] at h; cases h⟩)
                    clear HST HUP HSET hr hs
                    go_wp2_with (first
                      | (go_at_call 66; refine H1.out.mono ?_; rintro e wA ⟨rfl, hwA⟩; replace hwA := hwA.symm; subst hwA; clear H1)
                      | (go_at_call 66; refine H2.out.mono ?_; rintro e wA ⟨rfl, hwA⟩; replace hwA := hwA.symm; subst hwA))
                    exact ⟨⟨j + 1, f, b, by omega, int_eq (by omega), rfl, HRR, hB, HN⟩, by simp [intOf]; omega⟩
                  · have hs : r j i = false := by simpa using hs
                    rw [hs] at H2
                    by_cases hlt : fj + n < fi
                    · have q2 : (fj : Int) < (fi : Int) - (n : Int) := by omega
                      have HN := Lib.hid (HUP.out (fi - n) (by omega) (by have := hle2 hs; omega))
                      have HS := Lib.hid (HSET.out (fi - n))
                      rw [show ((fi - n : Nat) : Int) = (fi : Int) - (n : Int) by omega] at HS
                      clear HST HUP HSET hr hs
                      go_wp2_with (first
                        | (go_at_call 66; refine H1.out.mono ?_; rintro e wA ⟨rfl, hwA⟩; replace hwA := hwA.symm; subst hwA; clear H1)
                        | (go_at_call 66; refine H2.out.mono ?_; rintro e wA ⟨rfl, hwA⟩; replace hwA := hwA.symm; subst hwA))
                      exact ⟨⟨j + 1, _, true, by omega, int_eq (by omega), rfl, HS.out.1, HS.out.2, HN⟩, by simp [intOf]; omega⟩
                    · have q2 : ¬ (fj : Int) < (fi : Int) - (n : Int) := by omega
                      have HN := Lib.hid (HST.out ⟨fun h => (by rw [hr] at h; cases h), fun _ _ _ => by omega⟩)
                      clear HST HUP HSET hr hs
                      go_wp2_with (first
                        | (go_at_call 66; refine H1.out.mono ?_; rintro e wA ⟨rfl, hwA⟩; replace hwA := hwA.symm; subst hwA; clear H1)
                        | (go_at_call 66; refine H2.out.mono ?_; rintro e wA ⟨rfl, hwA⟩; replace hwA := hwA.symm; subst hwA))
                      exact ⟨⟨j + 1, f, b, by omega, int_eq (by omega), rfl, HRR, hB, HN⟩, by simp [intOf]; omega⟩
            · have g2 : ¬ (j : Int) < (n : Int) := by omega
              obtain rfl : n = j := by omega
              go_wp2
              exact ⟨⟨i + 1, f, b, by omega, int_eq (by omega), rfl, hR, hB, hG.out.row⟩, by simp [intOf]; omega⟩
        · have g1 : ¬ (i : Int) < (n : Int) := by omega
          obtain rfl : n = i := by omega
          have HLE : Hid (∀ x, x < n → f x ≤ p x) := hG.out.le
          have hsf := sm_le HLE.out
          have HN : Hid (b = false → ∀ x y, x < n → y < n → Con n r f x y) := fun hb x y hx hy => by
            rcases hG.out.ch with ⟨_, h3⟩ | ⟨h3, _⟩
            · have := hG.out.con hb x y hx hy (.inl hx)
              unfold Con at *
              rw [h3 x hx, h3 y hy]; exact this
            · rw [hb] at h3; cases h3
          have HME : Hid (2 * (sm p n - sm f n) + (if b then 1 else 0) < gk) := by
            unfold Hid
            have := HM.out
            rcases hG.out.ch with ⟨rfl, h3⟩ | ⟨rfl, h3⟩
            · have := sm_le (f := f0) (g := f) (n := n) fun i hi => by rw [h3 i hi]; exact Nat.le_refl _
              simp; omega
            · simp; omega
          clear hsf
          go_wp2
          go_roundg (2 * (sm p n - sm f n) + (if b then 1 else 0))
          case measure => exact HME.out
          case rel => exact ⟨f, b, rfl, hR, hB, HLE, HN, Nat.le_refl _⟩
end Go.Proofs.YtgpijajgaclhfaaDoor
namespace Go.Proofs.YtgpijajgaclhfaaDoor
open Go.RowKit Go.Shelf

def HasTwo (n : Nat) (r : Nat → Nat → Bool) : Prop := ∃ a b c d, TwoTwo n r a b c d
def HasThree (n : Nat) (r : Nat → Nat → Bool) : Prop := ∃ a b c d, ThreeOne n r a b c d
structure FourB (e : Ending) (A : Prop) (v0 v1 v2 v3 : Int) (t : Bool) : Prop where
  is : e = .returned (.tuple #[.agg #[.int .i64 v0, .int .i64 v1, .int .i64 v2, .int .i64 v3], .bool t])
  iff : t = true ↔ A
theorem TwoA.four {n : Nat} {r : Nat → Nat → Bool} {e : Ending} (h : TwoA n r e) : ∃ v0 v1 v2 v3 t, FourB e (HasTwo n r) v0 v1 v2 v3 t := by
  rcases h with ⟨a, b, c, d, h1, h2⟩ | ⟨h1, h2⟩
  · exact ⟨_, _, _, _, _, h1, fun _ => ⟨a, b, c, d, h2⟩, fun _ => rfl⟩
  · exact ⟨_, _, _, _, _, h1, fun h => (by cases h), fun ⟨a, b, c, d, h⟩ => absurd h (h2 a b c d)⟩
theorem ThreeA.four {n : Nat} {r : Nat → Nat → Bool} {e : Ending} (h : ThreeA n r e) : ∃ v0 v1 v2 v3 t, FourB e (HasThree n r) v0 v1 v2 v3 t := by
  rcases h with ⟨a, b, c, d, h1, h2⟩ | ⟨h1, h2⟩
  · exact ⟨_, _, _, _, _, h1, fun _ => ⟨a, b, c, d, h2⟩, fun _ => rfl⟩
  · exact ⟨_, _, _, _, _, h1, fun h => (by cases h), fun ⟨a, b, c, d, h⟩ => absurd h (h2 a b c d)⟩
/-- what Positions answers -/
def PosA (n : Nat) (ln : Nat → Nat) (r : Nat → Nat → Bool) (e : Ending) (w' : World) : Prop :=
  (e = .returned (.tuple #[.slice none 0 0, .int .i64 0, .int .i64 100]) ∧ ¬ TabOK n ln r) ∨
  (e = .returned (.tuple #[.slice none 0 0, .int .i64 0, .int .i64 4]) ∧ TabOK n ln r ∧ (HasTwo n r ∨ HasThree n r)) ∨
  (∃ (g : Nat) (f : Nat → Nat), e = .returned (.tuple #[.slice (some ⟨g, 0, none⟩) n n, .int .i64 (n : Int), .int .i64 0]) ∧ TabOK n ln r ∧ ¬ HasTwo n r ∧ ¬ HasThree n r ∧ RowB w' g n (fun x => ((f x : Nat) : Int)) ∧ (∀ x, x < n → f x ≤ 1000) ∧ RepA n n r (fun x => ((f x : Nat) : Int)) (n : Int))
set_option maxRecDepth 100000 in
set_option maxHeartbeats 4000000 in
theorem Positions_any (la : Option Addr) (n lc : Nat) (ln : Nat → Nat) (r : Nat → Nat → Bool) (w : World) (hn : n ≤ 1099511627776) (hTb : Tab w) (hT : TblI w la n ln r) :
    Calls Tryd.prog 44 #[.slice la n lc] w fun e w' => PosA n ln r e w' ∧ Below w.heap.size w w' := by
  have HC := Lib.hid (open_any la n lc ln r _ hn hT)
  have HTb := Lib.hid hTb
  clear hT hTb
  go_enter Tryd.func44, Tryd.ntmps44
  go_upto_region 2 with (go_at_call 55; refine HC.out.mono ?_; rintro e w1 ⟨ha, hB1⟩; have HB1 := Lib.hid hB1; clear hB1; rcases ha with ⟨rfl, hno⟩ | ⟨B, rfl, hok, hB, hO⟩)
  · have HNO := Lib.hid hno
    clear hno
    go_wp2
    refine bodyPost_ret (v := .tuple #[.slice none 0 0, .int .i64 0, .int .i64 100]) (by simp [results, Tryd.f44, go_sem]) rfl ?_
    exact ⟨.inl ⟨rfl, HNO.out⟩, HB1.out⟩
  · have HOK := Lib.hid hok
    have HO := Lib.hid hO
    have hw1 : w.heap.size ≤ w1.heap.size := HB1.out.size
    have HT2 := Lib.hid (twoTwo_any B n r w1 hok.n1 hok.n12 (HTb.out.below HB1.out (Nat.le_refl _)) hO)
    clear hok hO HC
    go_upto_region 5 with (go_at_call 57; refine HT2.out.mono ?_; rintro e w2 ⟨ha, hB2⟩; obtain ⟨x0, x1, x2, x3, t2, h2⟩ := ha.four; obtain ⟨rfl, h2⟩ := h2; have HI2 := Lib.hid h2; have HB2 := Lib.hid (HB1.out.trans (hB2.mono hw1)); have HO2 := Lib.hid (HO.out.below hB2 (Nat.le_refl _)); clear hB2 ha h2)
    have hw2 : w.heap.size ≤ w2.heap.size := HB2.out.size
    have HBX : Hid (Below w.heap.size w (w2.alloc (.cells #[.int .i64 x0, .int .i64 x1, .int .i64 x2, .int .i64 x3] 45))) := HB2.out.alloc hw2 _
    have HOX : Hid (OrdAt (w2.alloc (.cells #[.int .i64 x0, .int .i64 x1, .int .i64 x2, .int .i64 x3] 45)) B n r) := HO2.out.below ((Below.refl _ _).alloc (Nat.le_refl _) _) (Nat.le_refl _)
    generalize w2.alloc (.cells #[.int .i64 x0, .int .i64 x1, .int .i64 x2, .int .i64 x3] 45) = X at *
    have hwX : w.heap.size ≤ X.heap.size := HBX.out.size
    have HT3 := Lib.hid (threeOne_any B n r X HOK.out.n1 HOK.out.n12 (HTb.out.below HBX.out (Nat.le_refl _)) HOX.out)
    clear HT2 HO HB1 hw1 HO2
    go_upto_region 6 with (go_at_call 68; refine HT3.out.mono ?_; rintro e w3 ⟨ha, hB3⟩; obtain ⟨y0, y1, y2, y3, t3, h3⟩ := ha.four; obtain ⟨rfl, h3⟩ := h3; have HI3 := Lib.hid h3; have HB3 := Lib.hid (HBX.out.trans (hB3.mono hwX)); have HO3 := Lib.hid (HOX.out.below hB3 (Nat.le_refl _)); clear hB3 ha h3)
    have hw3 : w.heap.size ≤ w3.heap.size := HB3.out.size
    have HBY : Hid (Below w.heap.size w (w3.alloc (.cells #[.int .i64 y0, .int .i64 y1, .int .i64 y2, .int .i64 y3] 45))) := HB3.out.alloc hw3 _
    have HOY : Hid (OrdAt (w3.alloc (.cells #[.int .i64 y0, .int .i64 y1, .int .i64 y2, .int .i64 y3] 45)) B n r) := HO3.out.below ((Below.refl _ _).alloc (Nat.le_refl _) _) (Nat.le_refl _)
    generalize w3.alloc (.cells #[.int .i64 y0, .int .i64 y1, .int .i64 y2, .int .i64 y3] 45) = Y at *
    have hwY : w.heap.size ≤ Y.heap.size := HBY.out.size
    clear HT3 HOX HO3
    cases t2
    · cases t3
      · have HN2 : Hid (¬ HasTwo n r) := fun h => by have := HI2.out.2 h; cases this
        have HN3 : Hid (¬ HasThree n r) := fun h => by have := HI3.out.2 h; cases this
        have HFX := Lib.hid (fix_any B n r Y HOK.out.n1 HOK.out.n12 ⟨HOK.out.ord, fun a b c d h => HN2.out ⟨a, b, c, d, h⟩, fun a b c d h => HN3.out ⟨a, b, c, d, h⟩⟩ HOY.out)
        have l0 := HOY.out.cn
        clear HI2 HI3
        go_wp2_with (go_at_call 69; refine HFX.out.mono ?_; rintro e w4 ⟨g, f, rfl, hR, hle, hrep, hB4⟩; have HR := Lib.hid hR; have HLE := Lib.hid hle; have HREP := Lib.hid hrep; have HB4 := Lib.hid (HBY.out.trans (hB4.mono hwY)); clear hR hle hrep hB4)
        refine bodyPost_ret (v := .tuple #[.slice (some ⟨g, 0, none⟩) n n, .int .i64 (n : Int), .int .i64 0]) (by simp [results, Tryd.f44, go_sem]) rfl ?_
        exact ⟨.inr (.inr ⟨g, f, rfl, HOK.out, HN2.out, HN3.out, HR.out, HLE.out, HREP.out⟩), HB4.out⟩
      · have HH : Hid (HasTwo n r ∨ HasThree n r) := .inr (HI3.out.1 rfl)
        clear HI2 HI3
        go_wp2
        refine bodyPost_ret (v := .tuple #[.slice none 0 0, .int .i64 0, .int .i64 4]) (by simp [results, Tryd.f44, go_sem]) rfl ?_
        exact ⟨.inr (.inl ⟨rfl, HOK.out, HH.out⟩), HBY.out⟩
    · have HH : Hid (HasTwo n r ∨ HasThree n r) := .inl (HI2.out.1 rfl)
      clear HI2 HI3
      go_wp2
      refine bodyPost_ret (v := .tuple #[.slice none 0 0, .int .i64 0, .int .i64 4]) (by simp [results, Tryd.f44, go_sem]) rfl ?_
      exact ⟨.inr (.inl ⟨rfl, HOK.out, HH.out⟩), HBY.out⟩
end Go.Proofs.YtgpijajgaclhfaaDoor
namespace Go.Proofs.YtgpijajgaclhfaaDoor
open Go.RowKit Go.Shelf

set_option maxRecDepth 100000 in
set_option maxHeartbeats 1000000 in
theorem Check_any (la : Option Addr) (n lc : Nat) (ln : Nat → Nat) (r : Nat → Nat → Bool) (w : World) (hn : n ≤ 1099511627776) (hT : TblI w la n ln r) :
    Calls Tryd.prog 34 #[.slice la n lc] w fun e w' => ChkA n ln r e ∧ Below w.heap.size w w' := by
  have HC := Lib.hid (open_any la n lc ln r _ hn hT)
  clear hT
  go_enter Tryd.func34, Tryd.ntmps34
  go_upto_region 2 with (go_at_call 55; refine HC.out.mono ?_; rintro e w1 ⟨ha, hB1⟩; have HB1 := Lib.hid hB1; clear hB1; rcases ha with ⟨rfl, hno⟩ | ⟨B, rfl, hok, hB, hO⟩)
  · have HNO := Lib.hid hno
    clear hno
    go_wp2
    go_ret
    exact ⟨.inr ⟨rfl, HNO.out⟩, HB1.out⟩
  · have HOK := Lib.hid hok
    clear hok hB hO
    go_wp2
    go_ret
    exact ⟨.inl ⟨rfl, HOK.out⟩, HB1.out⟩
set_option maxRecDepth 100000 in
set_option maxHeartbeats 1000000 in
theorem Positions_bad (la : Option Addr) (n lc : Nat) (ln : Nat → Nat) (r : Nat → Nat → Bool) (w : World) (hn : n ≤ 1099511627776) (hbad : ¬ TabOK n ln r) (hT : TblI w la n ln r) :
    Calls Tryd.prog 44 #[.slice la n lc] w fun e w' => e = .returned (.tuple #[.slice none 0 0, .int .i64 0, .int .i64 100]) ∧ Below w.heap.size w w' := by
  have HC := Lib.hid (open_any la n lc ln r _ hn hT)
  have HBAD := Lib.hid hbad
  clear hT hbad
  go_enter Tryd.func44, Tryd.ntmps44
  go_upto_region 2 with (go_at_call 55; refine HC.out.mono ?_; rintro e w1 ⟨ha, hB1⟩; have HB1 := Lib.hid hB1; clear hB1; rcases ha with ⟨rfl, hno⟩ | ⟨B, rfl, hok, hB, hO⟩)
  · clear hno
    go_wp2
    refine bodyPost_ret (v := .tuple #[.slice none 0 0, .int .i64 0, .int .i64 100]) (by simp [results, Tryd.f44, go_sem]) rfl ?_
    exact ⟨rfl, HB1.out⟩
  · exact absurd hok HBAD.out
set_option maxRecDepth 100000 in
set_option maxHeartbeats 1000000 in
theorem Levels_bad (la : Option Addr) (n lc : Nat) (ln : Nat → Nat) (r : Nat → Nat → Bool) (w : World) (hn : n ≤ 1099511627776) (hbad : ¬ TabOK n ln r) (hT : TblI w la n ln r) :
    Calls Tryd.prog 46 #[.slice la n lc] w fun e w' => e = .returned (.tuple #[.slice none 0 0, .int .i64 100]) ∧ Below w.heap.size w w' := by
  have HB0 : Hid (Below w.heap.size w (w.alloc (.cells #[.slice none 0 0] 28))) := (Below.refl _ _).alloc (Nat.le_refl _) _
  have HX0 : Hid (BoxN (w.alloc (.cells #[.slice none 0 0] 28)) w.heap.size 28 #[.slice none 0 0]) := BoxN.new rfl
  have HBAD := Lib.hid hbad
  have HT := Lib.hid (hT.below HB0.out (Nat.le_refl _))
  clear hT hbad
  obtain ⟨X, hX⟩ : ∃ X, Hid (X = w.alloc (.cells #[.slice none 0 0] 28)) := ⟨_, rfl⟩
  rw [← hX.out] at HB0 HX0 HT
  have hsX := HX0.out.lt
  have HB1 : Hid (Below X.heap.size X (X.alloc (.cells #[.int .i64 0] 25))) := (Below.refl _ _).alloc (Nat.le_refl _) _
  have HX1 : Hid (BoxN (X.alloc (.cells #[.int .i64 0] 25)) X.heap.size 25 #[.int .i64 0]) := BoxN.new rfl
  have HC := Lib.hid (open_any la n lc ln r _ hn (HT.out.below HB1.out (Nat.le_refl _)))
  clear HT
  go_enter Tryd.func46, Tryd.ntmps46
  go_upto_region 1 with (fail)
  rw [← hX.out]
  have e1 : w.heap.size + 1 = X.heap.size := by rw [hX.out]; simp
  have HB2 := Lib.hid (HB0.out.trans (HB1.out.mono HB0.out.size))
  have HX2 := Lib.hid (HX0.out.below HB1.out hsX)
  have hY := HX1.out.lt
  have hY2 := HX2.out.lt
  simp only [e1]
  generalize X.alloc (.cells #[.int .i64 0] 25) = Y at *
  obtain ⟨bb, hbb⟩ : ∃ bb, Hid (bb = X.heap.size) := ⟨_, rfl⟩
  rw [← hbb.out] at HX1 hY ⊢
  obtain ⟨ba, hba⟩ : ∃ ba, Hid (ba = w.heap.size) := ⟨_, rfl⟩
  rw [← hba.out] at HX2 hY2 ⊢
  have hwY : w.heap.size ≤ Y.heap.size := HB2.out.size
  have HAB : Hid (ba ≠ bb) := by rw [hba.out, hbb.out]; unfold Hid; omega
  have HLE : Hid (w.heap.size ≤ ba ∧ w.heap.size ≤ bb) := by rw [hba.out, hbb.out]; unfold Hid; omega
  clear HX0 HB0 HB1 e1
  go_upto_region 2 with (go_at_call 55; refine HC.out.mono ?_; rintro e w1 ⟨ha, hB1⟩; have HB3 := Lib.hid (HB2.out.trans (hB1.mono hwY)); have HXA := Lib.hid (HX2.out.below hB1 hY2); have HXB := Lib.hid (HX1.out.below hB1 hY); clear hB1; rcases ha with ⟨rfl, hno⟩ | ⟨B, rfl, hok, hB, hO⟩)
  · clear hno HC HX1 HX2
    have hsz : w.heap.size ≤ w1.heap.size := HB3.out.size
    have hA1 := HXA.out.lt
    have hB1 := HXB.out.lt
    have HBA : Hid (Below w1.heap.size w1 (w1.alloc (.cells #[.pointer none] 81))) := (Below.refl _ _).alloc (Nat.le_refl _) _
    have HXA3 := Lib.hid (HXA.out.below HBA.out hA1)
    have HXB3 := Lib.hid (HXB.out.below HBA.out hB1)
    have HB4 := Lib.hid (HB3.out.trans (HBA.out.mono hsz))
    go_upto_region 3 with (fail)
    generalize w1.alloc (.cells #[.pointer none] 81) = Z at *
    have k1 : Z.cell? ⟨ba, 0, none⟩ = some (.slice none 0 0) := by rw [HXA3.out.cell]; rfl
    have f1 := HXA3.out.frozen 0
    have hXA4 := HXA3.out.set 0 (.slice none 0 0)
    have hA : Ag (· = ba) Z (Z.setCell ⟨ba, 0, none⟩ (.slice none 0 0)) := (Ag.refl _ Z).set ⟨ba, 0, none⟩ _ (.inr rfl)
    have hXB4 := hA.boxN HXB3.out (fun e => HAB.out e.symm)
    have k2 : (Z.setCell ⟨ba, 0, none⟩ (.slice none 0 0)).cell? ⟨bb, 0, none⟩ = some (.int .i64 0) := by rw [hXB4.cell]; rfl
    have f2 := hXB4.frozen 0
    have hXB5 := hXB4.set 0 (.int .i64 100)
    have hA5 : Ag (· = bb) (Z.setCell ⟨ba, 0, none⟩ (.slice none 0 0)) ((Z.setCell ⟨ba, 0, none⟩ (.slice none 0 0)).setCell ⟨bb, 0, none⟩ (.int .i64 100)) := (Ag.refl _ _).set ⟨bb, 0, none⟩ _ (.inr rfl)
    have hXA5 := hA5.boxN hXA4 HAB.out
    have r1 : ((Z.setCell ⟨ba, 0, none⟩ (.slice none 0 0)).setCell ⟨bb, 0, none⟩ (.int .i64 100)).cell? ⟨ba, 0, none⟩ = some (.slice none 0 0) := by rw [hXA5.cell]; rfl
    have r2 : ((Z.setCell ⟨ba, 0, none⟩ (.slice none 0 0)).setCell ⟨bb, 0, none⟩ (.int .i64 100)).cell? ⟨bb, 0, none⟩ = some (.int .i64 100) := by rw [hXB5.cell]; rfl
    have HB5 : Hid (Below w.heap.size w ((Z.setCell ⟨ba, 0, none⟩ (.slice none 0 0)).setCell ⟨bb, 0, none⟩ (.int .i64 100))) := (HB4.out.setCell (p := ⟨ba, 0, none⟩) HLE.out.1 _).setCell (p := ⟨bb, 0, none⟩) HLE.out.2 _
    clear hA hXB4 hXA4 hXB5 hXA5 hA5
    go_wp2
    refine bodyPost_ret (v := .tuple #[.slice none 0 0, .int .i64 100]) (by simp [results, Tryd.f46, go_sem, r1, r2]) rfl ?_
    exact ⟨rfl, HB5.out⟩
  · exact absurd hok HBAD.out
end Go.Proofs.YtgpijajgaclhfaaDoor
namespace Go.Proofs.YtgpijajgaclhfaaDoor
open Go.RowKit Go.Shelf
attribute [local go_sem] Oper.semAt_some

/-- overlapping elements have the same before and after them -/
def Weak (n : Nat) (r : Nat → Nat → Bool) : Prop := ∀ x y, x < n → y < n → Ovl r x y → bef n r x = bef n r y ∧ aft n r x = aft n r y
def SameP {n : Nat} {r : Nat → Nat → Bool} (pre : List (OvX n r)) : Prop := ∀ z ∈ pre, bef n r z.1.1 = bef n r z.1.2 ∧ aft n r z.1.1 = aft n r z.1.2
abbrev ExV (ra rb : Nat) (k : Nat) : Prop := k = ra ∨ k = rb
/-- what holds between two rounds -/
structure V3 (w W : World) (ra rb ob B n : Nat) (r : Nat → Nat → Bool) : Prop where
  bl : Below w.heap.size w W
  oa : BoxN W ra 28 #[.slice none 0 0]
  o2 : BoxN W rb 25 #[.int .i64 0]
  ob : Boxed W ob 81 (.pointer (some ⟨B, 0, none⟩))
  or : OrdAt W B n r
theorem V3.own {w A C : World} {ra rb ob B n K : Nat} {r : Nat → Nat → Bool} (hw : w.heap.size ≤ K) (ha : ra < K) (hb : rb < K) (ho : ob < K) (hB : B < K) (h : V3 w A ra rb ob B n r) {row : Option Nat} (hg : A.grownBy C row) (hr : ∀ k, row = some k → K ≤ k) : V3 w C ra rb ob B n r := by
  have hne : ∀ {k}, k < K → some k ≠ row := fun hk e => by have := hr _ e.symm; omega
  have hBl : Below w.heap.size A C := ⟨hg.os, hg.tape, hg.output, hg.size, fun k hk => hg.block k (Nat.lt_of_lt_of_le hk h.bl.size) (hne (by omega))⟩
  have hb2 : C.heap[B]? = A.heap[B]? := hg.block B h.or.lt (hne hB)
  exact ⟨h.bl.trans hBl, h.oa.kept hg (hne ha), h.o2.kept hg (hne hb), h.ob.kept hg (hne ho), ⟨Nat.lt_of_lt_of_le h.or.lt hg.size, (World.cell?_of_block hb2).trans h.or.cn, fun j hj => (World.cell?_of_block hb2).trans (h.or.cb j hj), fun j hj => (World.cell?_of_block hb2).trans (h.or.ca j hj)⟩⟩
theorem V3.dr {w A : World} {ra rb ob B n : Nat} {r : Nat → Nat → Bool} (h : V3 w A ra rb ob B n r) (q : Nat) : V3 w (A.drewN q) ra rb ob B n r := ⟨below_dr h.bl q, h.oa, h.o2, h.ob, h.or.dr q⟩
theorem kfV {X C : World} {ra rb K : Nat} (ha : ra < K) (hb : rb < K) (h : Ag (ExV ra rb) X C) : KeepsFrom K X C := KeepsFrom.of_ag h (fun k o hk _ _ e => by rcases e with e | e <;> omega)
theorem koV {X C : World} {ra rb cb B n : Nat} {r : Nat → Nat → Bool} (h1 : rb < B) (h2 : ra < B) (h3 : rb < cb) (h4 : ra < cb) (h : Ag (ExV ra rb) X C) : KeepsOv cb B n r X C := fun hI => hI.block (h.block B hI.1.lt (fun e => by rcases e with e | e <;> omega)) (h.block _ hI.2.2 (fun e => by rcases e with e | e <;> omega)) h.size
/-- when a pair has been found -/
def V3x (w W : World) (ra rb n : Nat) (r : Nat → Nat → Bool) : Prop := ¬ Weak n r ∧ Below w.heap.size w W ∧ BoxN W ra 28 #[.slice none 0 0] ∧ BoxN W rb 25 #[.int .i64 4]
theorem V3x.own {w A C : World} {ra rb n K : Nat} {r : Nat → Nat → Bool} (hw : w.heap.size ≤ K) (ha : ra < K) (hb : rb < K) (h : V3x w A ra rb n r) {row : Option Nat} (hg : A.grownBy C row) (hr : ∀ k, row = some k → K ≤ k) : V3x w C ra rb n r := by
  have hne : ∀ {k}, k < K → some k ≠ row := fun hk e => by have := hr _ e.symm; omega
  obtain ⟨h1, h2, h3, h4⟩ := h
  have hBl : Below w.heap.size A C := ⟨hg.os, hg.tape, hg.output, hg.size, fun k hk => hg.block k (Nat.lt_of_lt_of_le hk h2.size) (hne (by omega))⟩
  exact ⟨h1, h2.trans hBl, h3.kept hg (hne ha), h4.kept hg (hne hb)⟩
/-- what Levels answers -/
def LevA (n : Nat) (ln : Nat → Nat) (r : Nat → Nat → Bool) (base : Nat) (e : Ending) (w' : World) : Prop :=
  (e = .returned (.tuple #[.slice none 0 0, .int .i64 100]) ∧ ¬ TabOK n ln r) ∨
  (e = .returned (.tuple #[.slice none 0 0, .int .i64 4]) ∧ TabOK n ln r ∧ ¬ Weak n r) ∨
  (∃ v L, e = .returned (.tuple #[v, .int .i64 0]) ∧ TabOK n ln r ∧ Weak n r ∧ SetsL n r L ∧ QRow w' base 3 1 v n (ivI (la (canonPs n r L)) n))
set_option maxRecDepth 100000 in
set_option maxHeartbeats 4000000 in
theorem Levels_in (ta : Option Addr) (n lc : Nat) (ln : Nat → Nat) (r : Nat → Nat → Bool) (w : World) (hok : TabOK n ln r) (hT : TblI w ta n ln r) :
    CallsIn Fence.wide 26 Tryd.prog 46 #[.slice ta n lc] w fun e w' => LevA n ln r w.heap.size e w' ∧ Below w.heap.size w w' := by
  have HB0 : Hid (Below w.heap.size w (w.alloc (.cells #[.slice none 0 0] 28))) := (Below.refl _ _).alloc (Nat.le_refl _) _
  have HX0 : Hid (BoxN (w.alloc (.cells #[.slice none 0 0] 28)) w.heap.size 28 #[.slice none 0 0]) := BoxN.new rfl
  have HOK := Lib.hid hok
  have HT := Lib.hid (hT.below HB0.out (Nat.le_refl _))
  clear hT hok
  obtain ⟨X, hX⟩ : ∃ X, Hid (X = w.alloc (.cells #[.slice none 0 0] 28)) := ⟨_, rfl⟩
  rw [← hX.out] at HB0 HX0 HT
  have hsX := HX0.out.lt
  have HB1 : Hid (Below X.heap.size X (X.alloc (.cells #[.int .i64 0] 25))) := (Below.refl _ _).alloc (Nat.le_refl _) _
  have HX1 : Hid (BoxN (X.alloc (.cells #[.int .i64 0] 25)) X.heap.size 25 #[.int .i64 0]) := BoxN.new rfl
  have HC := Lib.hid (open_any ta n lc ln r _ (by have := HOK.out.n12; omega) (HT.out.below HB1.out (Nat.le_refl _)))
  clear HT
  refine callsIn_of_wp_marks Tryd.func46 rfl trivial ?_ rfl
  simp only [Tryd.ntmps46, List.size_toArray, List.length_cons, List.length_nil, Nat.reduceAdd, Nat.reduceSub, Array.replicate_succ, Array.replicate_zero, List.push_toArray, List.append_toArray, List.nil_append, List.cons_append]
  refine wpIn_wide.2 ?_
  go_upto_region 1 with (fail)
  rw [← hX.out]
  have e1 : w.heap.size + 1 = X.heap.size := by rw [hX.out]; simp
  have HB2 := Lib.hid (HB0.out.trans (HB1.out.mono HB0.out.size))
  have HX2 := Lib.hid (HX0.out.below HB1.out hsX)
  have hY := HX1.out.lt
  have hY2 := HX2.out.lt
  simp only [e1]
  generalize X.alloc (.cells #[.int .i64 0] 25) = Y at *
  obtain ⟨rb, hbb⟩ : ∃ rb, Hid (rb = X.heap.size) := ⟨_, rfl⟩
  rw [← hbb.out] at HX1 hY ⊢
  obtain ⟨ra, hba⟩ : ∃ ra, Hid (ra = w.heap.size) := ⟨_, rfl⟩
  rw [← hba.out] at HX2 hY2 ⊢
  have hwY : w.heap.size ≤ Y.heap.size := HB2.out.size
  have HAB : Hid (ra < rb) := by rw [hba.out, hbb.out]; unfold Hid; omega
  have HLE : Hid (w.heap.size ≤ ra ∧ w.heap.size ≤ rb) := by rw [hba.out, hbb.out]; unfold Hid; omega
  clear HX0 HB0 HB1 e1
  go_upto_region 2 with (go_at_call 55; refine HC.out.mono ?_; rintro e w1 ⟨ha, hB1⟩; have HB3 := Lib.hid (HB2.out.trans (hB1.mono hwY)); have HXA := Lib.hid (HX2.out.below hB1 hY2); have HXB := Lib.hid (HX1.out.below hB1 hY); have hw1s := hB1.size; clear hB1; rcases ha with ⟨rfl, hno⟩ | ⟨B, rfl, hok, hB, hO⟩)
  · exact absurd HOK.out hno
  · have HO := Lib.hid hO
    have hw1 : w.heap.size ≤ w1.heap.size := HB3.out.size
    clear HC hO hok HX1 HX2
    have HV0 : Hid (V3 w (w1.alloc (.cells #[.pointer (some ⟨B, 0, none⟩)] 81)) ra rb w1.heap.size B n r) := ⟨HB3.out.alloc hw1 _, HXA.out.alloc _, HXB.out.alloc _, boxed_at rfl, HO.out.below ((Below.refl _ _).alloc (Nat.le_refl _) _) (Nat.le_refl _)⟩
    have hWs : (w1.alloc (.cells #[.pointer (some ⟨B, 0, none⟩)] 81)).heap.size = w1.heap.size + 1 := by simp
    generalize w1.alloc (.cells #[.pointer (some ⟨B, 0, none⟩)] 81) = W2 at *
    obtain ⟨ob, hob⟩ : ∃ ob, Hid (ob = w1.heap.size) := ⟨_, rfl⟩
    rw [← hob.out] at HV0 hWs ⊢
    have hBob : B < ob := by rw [hob.out]; exact HO.out.lt
    have hrbB : rb < B := by have := hY; omega
    have hraB : ra < B := by have := HAB.out; omega
    have c0 := HV0.out.ob.cell
    have HC70 := Lib.hid (overlaps_any B)
    go_wp2_with (go_at_call 70; refine (HC70.out _).mono ?_; rintro e w4 ⟨rfl, hw4⟩; subst hw4)
    have hV1 : V3 w (W2.alloc (.cells #[.pointer (some ⟨B, 0, none⟩)] 81)) ra rb ob B n r := ⟨HV0.out.bl.alloc HV0.out.bl.size _, HV0.out.oa.alloc _, HV0.out.o2.alloc _, HV0.out.ob.alloc _, HV0.out.or.below ((Below.refl _ _).alloc (Nat.le_refl _) _) (Nat.le_refl _)⟩
    have x4 : Boxed (W2.alloc (.cells #[.pointer (some ⟨B, 0, none⟩)] 81)) W2.heap.size 81 (.pointer (some ⟨B, 0, none⟩)) := boxed_at rfl
    have hUs : (W2.alloc (.cells #[.pointer (some ⟨B, 0, none⟩)] 81)).heap.size = W2.heap.size + 1 := by simp
    generalize W2.alloc (.cells #[.pointer (some ⟨B, 0, none⟩)] 81) = U at *
    have HV1 := Lib.hid hV1
    have HN := HOK.out.n12
    rw [hWs] at x4 hUs
    have hwK : w.heap.size ≤ U.heap.size := HV1.out.bl.size
    have HS : Hid (U.heap.size = ob + 1 + 1) := hUs
    clear hV1 HXA HXB HV0 c0 hUs
    refine (wpIn_wide (n := 26)).1 ?_
    refine rf_two (α := OvX n r) (u1 := fun x => .int .i64 (x.1.1 : Int)) (u2 := fun x => .int .i64 (x.1.2 : Int)) (by decide) (gf := 85) (lb := #[.pointer (some ⟨ob + 1, 0, none⟩)]) rfl (enters_of Tryd.func85 (by kernel_rfl) rfl)
      (ov_stops 25 (by decide) (ob + 1) B n r HN U ⟨HV1.out.or, x4.cell, x4.lt⟩) keepsOv_t (keepsOv_b (by rw [HS.out]; omega) HV1.out.or.lt) (fun W => KeepsOv.refl W) (by simp) (by simp) (by decide) (by decide)
      (fun pre W => V3 w W ra rb ob B n r ∧ Hid (SameP pre))
      (fun c pre W => c = .ret ∧ V3x w W ra rb n r) ?hI ?hIx ?h0 ?body ?done ?stop
    case hI =>
      intro pre A C row hs hg hr
      exact ⟨hs.1.own (K := U.heap.size) hwK (by rw [HS.out]; omega) (by rw [HS.out]; omega) (by rw [HS.out]; omega) (by rw [HS.out]; omega) hg (fun k e => (hr k e).1), hs.2⟩
    case hIx =>
      intro c pre A C row hs hg hr
      exact ⟨hs.1, hs.2.own (K := U.heap.size) hwK (by rw [HS.out]; omega) (by rw [HS.out]; omega) hg (fun k e => (hr k e).1)⟩
    case h0 => exact ⟨HV1.out, fun z hz => by cases hz⟩
    case body =>
      rintro lf pre x Z ⟨hV, hpre⟩ _
      simp only [List.setIfInBounds_toArray, List.set_cons_zero, List.set_cons_succ]
      obtain ⟨a, ha⟩ : ∃ a, x.1.1 = a := ⟨_, rfl⟩
      obtain ⟨d, hd⟩ : ∃ d, x.1.2 = d := ⟨_, rfl⟩
      have han : a < n := by rw [← ha]; exact x.2.1
      have hdn : d < n := by rw [← hd]; exact x.2.2.1
      have HOV : Hid (Ovl r a d) := by rw [← ha, ← hd]; exact x.2.2.2
      rw [ha, hd]
      have HXA := Lib.hid ha
      have HXD := Lib.hid hd
      clear ha hd
      have c0 := hV.ob.cell
      have HV := Lib.hid hV
      have l1 := hV.or.cb a han
      have l2 := hV.or.cb d hdn
      have l3 := hV.or.ca a han
      have l4 := hV.or.ca d hdn
      clear hV x4
      have ga : (a : Int) < 12 := by omega
      have ga0 : (0 : Int) ≤ (a : Int) := by omega
      have gd : (d : Int) < 12 := by omega
      have gd0 : (0 : Int) ≤ (d : Int) := by omega
      have HI : Hid (∀ z, z ∈ pre → bef n r z.1.1 = bef n r z.1.2 ∧ aft n r z.1.1 = aft n r z.1.2) := hpre.out
      obtain ⟨v1, hv1⟩ : ∃ v1, bef n r a = v1 := ⟨_, rfl⟩
      obtain ⟨v2, hv2⟩ : ∃ v2, bef n r d = v2 := ⟨_, rfl⟩
      obtain ⟨v3, hv3⟩ : ∃ v3, aft n r a = v3 := ⟨_, rfl⟩
      obtain ⟨v4, hv4⟩ : ∃ v4, aft n r d = v4 := ⟨_, rfl⟩
      have HWK : Hid (Weak n r → v1 = v2 ∧ v3 = v4) := fun hW => by
        have := hW a d han hdn HOV.out
        rw [hv1, hv2, hv3, hv4] at this; exact this
      have HSAME : Hid (v1 = v2 → v3 = v4 → bef n r a = bef n r d ∧ aft n r a = aft n r d) := fun h1 h2 => by rw [hv1, hv2, hv3, hv4]; exact ⟨h1, h2⟩
      rw [hv1] at l1
      rw [hv2] at l2
      rw [hv3] at l3
      rw [hv4] at l4
      clear hv1 hv2 hv3 hv4 hpre
      by_cases e1 : v1 = v2
      · have q1 : ((v1 : Int) != (v2 : Int)) = false := by rw [e1]; simp
        by_cases e2 : v3 = v4
        · have q2 : ((v3 : Int) != (v4 : Int)) = false := by rw [e2]; simp
          have HSM := Lib.hid (HSAME.out e1 e2)
          clear HSAME HWK e1 e2
          gi_wp2
          refine quietR_lit (by kernel_rfl) (by kernel_rfl) (by kernel_rfl) ?_
          repeat (gi_big_quiet_step (fail))
          refine wpQuietIn_nil ?_
          rintro _ ⟨nq, rfl⟩
          have HAX : Ag (ExV ra rb) Z (Z.drewN nq) := (Ag.refl _ Z).drewN nq
          have HAXH := Lib.hid HAX
          clear l1 l2 l3 l4 HAX
          gi_wp2
          refine ⟨kfV (by rw [HS.out]; omega) (by rw [HS.out]; omega) HAXH.out, koV hrbB hraB (by omega) (by omega) HAXH.out, HV.out.dr nq, fun z hz => ?_⟩
          rcases List.mem_append.1 hz with hz | hz
          · exact HI.out z hz
          · rw [List.mem_singleton] at hz
            subst hz
            rw [HXA.out, HXD.out]
            exact HSM.out
        · have q2 : ((v3 : Int) != (v4 : Int)) = true := by rw [bne_iff_ne]; omega
          have HNW : Hid (¬ Weak n r) := fun hW => e2 (HWK.out hW).2
          have hra : ra < Z.heap.size := HV.out.oa.lt
          have hrb : rb < Z.heap.size := HV.out.o2.lt
          gi_wp2
          refine quietR_lit (by kernel_rfl) (by kernel_rfl) (by kernel_rfl) ?_
          repeat (gi_big_quiet_step (fail))
          refine wpQuietIn_nil ?_
          rintro _ ⟨nq, rfl⟩
          have xa : BoxN (Z.drewN nq) ra 28 #[.slice none 0 0] := HV.out.oa
          have xb : BoxN (Z.drewN nq) rb 25 #[.int .i64 0] := HV.out.o2
          have HAX : Ag (ExV ra rb) Z (((Z.drewN nq).setCell ⟨ra, 0, none⟩ (.slice none 0 0)).setCell ⟨rb, 0, none⟩ (.int .i64 4)) := (((Ag.refl _ Z).drewN nq).set ⟨ra, 0, none⟩ _ (.inr (.inl rfl))).set ⟨rb, 0, none⟩ _ (.inr (.inr rfl))
          have HABn : ra ≠ rb := by have := HAB.out; omega
          have HABm : ¬ rb = ra := fun e => HABn e.symm
          have xa2 := xa.set 0 (.slice none 0 0)
          have xb2 := xb.other (a := ⟨ra, 0, none⟩) (fun e => HABn e.symm) (.slice none 0 0)
          have xa3 := xa2.other (a := ⟨rb, 0, none⟩) HABn (.int .i64 4)
          have xb3 := xb2.set 0 (.int .i64 4)
          have f1 := xa.frozen 0
          have f2 := xb2.frozen 0
          have k1 : (Z.drewN nq).cell? ⟨ra, 0, none⟩ = some (.slice none 0 0) := by rw [xa.cell]; rfl
          have k2 : ((Z.drewN nq).setCell ⟨ra, 0, none⟩ (.slice none 0 0)).cell? ⟨rb, 0, none⟩ = some (.int .i64 0) := by rw [xb2.cell]; rfl
          have XX := Lib.hid xa3
          have XY := Lib.hid xb3
          have HAXH := Lib.hid HAX
          clear l1 l2 l3 l4 xa xb xa2 xb2 xa3 xb3 HAX
          generalize Z.drewN nq = V at *
          gi_wp2
          refine ⟨kfV (by rw [HS.out]; omega) (by rw [HS.out]; omega) HAXH.out, rfl, HNW.out, HAXH.out.below HV.out.bl HV.out.bl.size (fun k hk e => by have h1 := HLE.out; rcases e with e | e <;> omega), XX.out, XY.out⟩
      · have q1 : ((v1 : Int) != (v2 : Int)) = true := by rw [bne_iff_ne]; omega
        have HNW : Hid (¬ Weak n r) := fun hW => e1 (HWK.out hW).1
        have hra : ra < Z.heap.size := HV.out.oa.lt
        have hrb : rb < Z.heap.size := HV.out.o2.lt
        gi_wp2
        refine quietR_lit (by kernel_rfl) (by kernel_rfl) (by kernel_rfl) ?_
        repeat (gi_big_quiet_step (fail))
        refine wpQuietIn_nil ?_
        rintro _ ⟨nq, rfl⟩
        have xa : BoxN (Z.drewN nq) ra 28 #[.slice none 0 0] := HV.out.oa
        have xb : BoxN (Z.drewN nq) rb 25 #[.int .i64 0] := HV.out.o2
        have HAX : Ag (ExV ra rb) Z (((Z.drewN nq).setCell ⟨ra, 0, none⟩ (.slice none 0 0)).setCell ⟨rb, 0, none⟩ (.int .i64 4)) := (((Ag.refl _ Z).drewN nq).set ⟨ra, 0, none⟩ _ (.inr (.inl rfl))).set ⟨rb, 0, none⟩ _ (.inr (.inr rfl))
        have HABn : ra ≠ rb := by have := HAB.out; omega
        have HABm : ¬ rb = ra := fun e => HABn e.symm
        have xa2 := xa.set 0 (.slice none 0 0)
        have xb2 := xb.other (a := ⟨ra, 0, none⟩) (fun e => HABn e.symm) (.slice none 0 0)
        have xa3 := xa2.other (a := ⟨rb, 0, none⟩) HABn (.int .i64 4)
        have xb3 := xb2.set 0 (.int .i64 4)
        have f1 := xa.frozen 0
        have f2 := xb2.frozen 0
        have k1 : (Z.drewN nq).cell? ⟨ra, 0, none⟩ = some (.slice none 0 0) := by rw [xa.cell]; rfl
        have k2 : ((Z.drewN nq).setCell ⟨ra, 0, none⟩ (.slice none 0 0)).cell? ⟨rb, 0, none⟩ = some (.int .i64 0) := by rw [xb2.cell]; rfl
        have XX := Lib.hid xa3
        have XY := Lib.hid xb3
        have HAXH := Lib.hid HAX
        clear l1 l2 l3 l4 xa xb xa2 xb2 xa3 xb3 HAX
        generalize Z.drewN nq = V at *
        gi_wp2
        refine ⟨kfV (by rw [HS.out]; omega) (by rw [HS.out]; omega) HAXH.out, rfl, HNW.out, HAXH.out.below HV.out.bl HV.out.bl.size (fun k hk e => by have h1 := HLE.out; rcases e with e | e <;> omega), XX.out, XY.out⟩
    case done =>
      rintro D xs W3 hD hall ⟨hV, hsame⟩ hK
      have HW : Hid (Weak n r) := fun x y hx hy ho => by
        obtain ⟨z, hz, e⟩ := hall x y hx hy ho
        have := hsame.out z hz
        rw [e] at this
        exact this
      have HV := Lib.hid hV
      have hws : w.heap.size ≤ W3.heap.size := hV.bl.size
      have c0 := hV.ob.cell
      have HI := Lib.hid (ivals_any B n r W3 HOK.out.n1 HOK.out.n12 hV.or)
      have HKD := Lib.hid hK
      have hDlt : D < W3.heap.size := (Array.getElem?_eq_some_iff.1 hK).1
      clear hall hsame hV hK x4
      go_upto_region 11 with (go_at_call 58; refine HI.out.mono ?_; rintro e w3 ⟨v3, L, rfl, hSL, hq3, hB3⟩; obtain ⟨p3, c3, rfl⟩ := hq3.isSlice; have HSL := Lib.hid hSL; have HP3 := Lib.hid (hq3.pairs' (canonPs_len n r L).symm); have HB4 := Lib.hid hB3; clear hSL hq3 hB3)
      obtain ⟨i0, hi0, hz0, hz1, hz2⟩ := info_parts info3
      have hDw : D < w3.heap.size := Nat.lt_of_lt_of_le hDlt HB4.out.size
      have hww3 : w.heap.size ≤ w3.heap.size := Nat.le_trans hws HB4.out.size
      go_loopw [8, 54] (fun s8 s54 wr => ∃ i : Nat, i ≤ n ∧ s54 = .int .i64 (i : Int) ∧ QRow wr w3.heap.size 3 1 s8 i (ivI (la (canonPs n r L)) i) ∧ Hid (Below w3.heap.size w3 wr)) (fun _ s54 _ => n - (intOf s54).toNat)
      case atStart => exact ⟨0, by omega, rfl, QRow.nil _ _ _ _, Below.refl _ _⟩
      case round =>
        obtain ⟨i, hi, rfl, hq, hB⟩ := hrel
        by_cases hin : i < n
        · have g1 : (i : Int) < (n : Int) := by omega
          have g0 : (0 : Int) ≤ (i : Int) := by omega
          obtain ⟨b, o, rfl, hb, k1, k2⟩ := HP3.out.at (k := i) (by rw [canonPs_len]; exact hin)
          have k1 := (hB.out.cell (p := ⟨b, o + i * 2, none⟩) hb).trans k1
          have k2 := (hB.out.cell (p := ⟨b, o + i * 2 + 1, none⟩) hb).trans k2
          have hsz : w3.heap.size ≤ wr.heap.size := hB.out.size
          have HSN : Hid (ivI (la (canonPs n r L)) (i + 1) = ivI (la (canonPs n r L)) i ++ [.int .i64 (la (canonPs n r L) i)]) := by
            unfold Hid
            rw [ivI_snoc]
            exact ivI_congr fun j hj => by
              by_cases e : j = i
              · subst e; simp
              · simp [e]
          obtain ⟨x, hx⟩ : ∃ x, la (canonPs n r L) i = x := ⟨_, rfl⟩
          obtain ⟨y, hy⟩ : ∃ y, ua (canonPs n r L) i = y := ⟨_, rfl⟩
          rw [hx] at k1 HSN
          rw [hy] at k2
          have HQA := Lib.hid ((hq.alloc (.cells #[.int .i64 x, .int .i64 y] 90)).alloc (.cells #[.int .i64 x] 3))
          have HBA := Lib.hid (((hB.out.alloc hsz (.cells #[.int .i64 x, .int .i64 y] 90))).alloc (by simp; omega) (.cells #[.int .i64 x] 3))
          have HLT := Lib.hid (fun kk (e : _ = some kk) => (hq.lt kk e).1)
          have hcn := cells_new1 (wr.alloc (.cells #[.int .i64 x, .int .i64 y] 90)) 3 (.int .i64 x)
          rw [World.size_alloc] at hcn
          have HCN := Lib.hid hcn
          clear hcn hq
          go_wp2_with (at_builtin; go_must (refine wpList_append_q _ rfl (.tmp 58) (.tmp 61) 28 rfl w3.heap.size 3 i0 (.int .i64 0) 1 8 Tryd.underlying28 hi0 hz0 hz1 hz2 rfl (by decide) _ i (ivI (la (canonPs n r L)) i) rfl HQA.out ⟨_, 0, none⟩ 1 1 [.int .i64 x] rfl rfl HCN.out (by simp [Value.oneCell']) (by unfold maxLen; omega) (by omega) (by simp; omega) ?_); intro v7 w7 hq7 hg7 ho7; have HQ7 : Hid (QRow w7 w3.heap.size 3 1 v7 (i + 1) (ivI (la (canonPs n r L)) (i + 1))) := (by rw [HSN.out]; exact hq7); have HB7 : Hid (Below w3.heap.size w3 w7) := Below.grown HBA.out hg7 (by simp; omega) (fun kk e => HLT.out kk e); clear hq7 hg7 ho7)
          exact ⟨⟨i + 1, by omega, int_eq (by omega), HQ7.out, HB7⟩, by simp [intOf]; omega⟩
        · have g1 : ¬ (i : Int) < (n : Int) := by omega
          obtain rfl : n = i := by omega
          obtain ⟨p8, c8, rfl⟩ := hq.isSlice
          have HQ := Lib.hid hq
          have hKs := HS.out
          have hBall : Below W3.heap.size W3 wr := HB4.out.trans (hB.out.mono HB4.out.size)
          have xa := HV.out.oa.below hBall HV.out.oa.lt
          have xb := HV.out.o2.below hBall HV.out.o2.lt
          have hABn : ra ≠ rb := by have := HAB.out; omega
          have xa2 := xa.set 0 (.slice p8 n c8)
          have xb2 := xb.other (a := ⟨ra, 0, none⟩) (fun e => hABn e.symm) (.slice p8 n c8)
          have xa3 := xa2.other (a := ⟨rb, 0, none⟩) hABn (.int .i64 0)
          have xb3 := xb2.set 0 (.int .i64 0)
          have f1 := xa.frozen 0
          have f2 := xb2.frozen 0
          have k1 : wr.cell? ⟨ra, 0, none⟩ = some (.slice none 0 0) := by rw [xa.cell]; rfl
          have k2 : (wr.setCell ⟨ra, 0, none⟩ (.slice p8 n c8)).cell? ⟨rb, 0, none⟩ = some (.int .i64 0) := by rw [xb2.cell]; rfl
          have hKY : wr.heap[D]? = some (.deferred (some [])) := (hBall.block D hDlt).trans HKD.out
          have HAG : Hid (Ag (fun k => k = ra ∨ k = rb ∨ k = D) wr (((wr.setCell ⟨ra, 0, none⟩ (.slice p8 n c8)).setCell ⟨rb, 0, none⟩ (.int .i64 0)).putObj D (.deferred none))) := (((Ag.refl _ wr).set ⟨ra, 0, none⟩ _ (.inr (.inl rfl))).set ⟨rb, 0, none⟩ _ (.inr (.inr (.inl rfl)))).grown (grownBy_putObj' _ D _) (fun k e => .inr (.inr (.inr (by simpa using e.symm))))
          have hAG1 : Ag (fun k => k = ra ∨ k = rb) wr ((wr.setCell ⟨ra, 0, none⟩ (.slice p8 n c8)).setCell ⟨rb, 0, none⟩ (.int .i64 0)) := ((Ag.refl _ wr).set ⟨ra, 0, none⟩ _ (.inr (.inl rfl))).set ⟨rb, 0, none⟩ _ (.inr (.inr rfl))
          have HKZ := Lib.hid (hAG1.obj hKY (fun e => by rcases e with e | e <;> omega))
          have q0 := (xa3.kept (grownBy_putObj' _ D (.deferred none)) (by simp; omega)).cell 0
          have q1 := (xb3.kept (grownBy_putObj' _ D (.deferred none)) (by simp; omega)).cell 0
          have HBW := Lib.hid (HV.out.bl.trans (hBall.mono hws))
          clear hq xa xb xa2 xb2 xa3 xb3 hAG1 hKY
          go_wp2
          refine ⟨by simp, .inl ⟨_, _, rfl, run_takeDeferred HKZ.out, ?_⟩⟩
          refine ⟨.tuple #[.slice p8 n c8, .int .i64 0], by simp [results, Tryd.f46, go_sem, q0, q1], .inr (.inr ⟨_, L, rfl, HOK.out, HW.out, HSL.out, ?_⟩), HAG.out.below HBW.out HBW.out.size (fun k hk e => by have := HLE.out; rcases e with e | e | e <;> omega)⟩
          exact (HAG.out.qrow HQ.out (fun k e h => by have := (HQ.out.lt k e).1; have := HLE.out; have := hww3; rcases h with h | h | h <;> omega)).mono hww3
    case stop =>
      rintro D c pre W3 hD - ⟨rfl, hx⟩ hK
      obtain ⟨hnw, hbl, xa, xb⟩ := hx
      have HNW := Lib.hid hnw
      have HBL := Lib.hid hbl
      have hKs := HS.out
      have q0 := (xa.kept (grownBy_putObj' _ D (.deferred none)) (by simp; omega)).cell 0
      have q1 := (xb.kept (grownBy_putObj' _ D (.deferred none)) (by simp; omega)).cell 0
      clear hnw hbl
      gi_wp2
      refine ⟨by simp, .inl ⟨_, _, rfl, run_takeDeferred hK, ?_⟩⟩
      refine ⟨.tuple #[.slice none 0 0, .int .i64 4], by simp [results, Tryd.f46, go_sem, q0, q1], .inr (.inl ⟨rfl, HOK.out, HNW.out⟩), ?_⟩
      exact ((Ag.refl (fun k => k = D) W3).grown (grownBy_putObj' _ D _) (fun k e => .inr (by simpa using e.symm))).below HBL.out HBL.out.size (fun k hk e => by omega)
end Go.Proofs.YtgpijajgaclhfaaDoor
namespace Go.Proofs.YtgpijajgaclhfaaDoor

section
variable {n : Nat} {r : Nat → Nat → Bool} {L : List Nat}
theorem weak_up (O : OrdP n r) (hn : n ≤ 12) (hL : SetsL n r L) {x y : Nat} (hx : x < n) (hy : y < n) (h : r x y = true) : Weak n r → lftS L (bef n r x) < lftS L (bef n r y) := fun _ => by
  obtain ⟨a1, a2⟩ := hL.at hx
  obtain ⟨b1, b2⟩ := hL.at hy
  have hs := (O.bef_sub (by omega) hy hx h).2
  rcases Nat.lt_trichotomy (lftS L (bef n r x)) (lftS L (bef n r y)) with h1 | h1 | h1
  · exact h1
  · rw [h1, b2] at a2
    rw [a2] at hs; omega
  · have := hL.lt h1 a1
    rw [a2, b2] at this
    unfold LtS at this; omega
theorem weak_iff (O : OrdP n r) (hn : n ≤ 12) (hW : Weak n r) (hL : SetsL n r L) {x y : Nat} (hx : x < n) (hy : y < n) : r x y = true ↔ lftS L (bef n r x) < lftS L (bef n r y) := by
  refine ⟨fun h => weak_up O hn hL hx hy h hW, fun h => ?_⟩
  apply Classical.byContradiction; intro h1
  by_cases h2 : r y x = true
  · have := weak_up O hn hL hy hx h2 hW; omega
  · by_cases e : x = y
    · subst e; omega
    · have := (hW x y hx hy ⟨e, bfalse h1, bfalse h2⟩).1
      rw [this] at h; omega
theorem weak_pred (O : OrdP n r) (hn : n ≤ 12) (hW : Weak n r) (hL : SetsL n r L) {y k : Nat} (hy : y < n) (h : lftS L (bef n r y) = k + 1) : ∃ x, x < n ∧ r x y = true ∧ lftS L (bef n r x) = k := by
  have hlt := (hL.at hy).1
  have hk : k < L.length := by omega
  have hm : nthN L k ∈ L := by unfold nthN; rw [List.getElem?_eq_getElem hk]; exact List.getElem_mem hk
  obtain ⟨x, hx, ex⟩ := (hL.mem _).1 hm
  have e : lftS L (bef n r x) = k := by rw [← ex]; exact hL.idx hk
  exact ⟨x, hx, (weak_iff O hn hW hL hx hy).2 (by omega), e⟩
theorem weak_le (O : OrdP n r) (hn : n ≤ 12) (hW : Weak n r) (hL : SetsL n r L) : ∀ k y, y < n → lftS L (bef n r y) = k → k ≤ cn (fun i => r i y) n
  | 0, _, _, _ => Nat.zero_le _
  | k + 1, y, hy, h => by
    obtain ⟨x, hx, hr, e⟩ := weak_pred O hn hW hL hy h
    have h1 := weak_le O hn hW hL k x hx e
    have h2 := cn_lt (p := fun i => r i x) (q := fun i => r i y) (j := x) (n := n) (fun i hi h => O.tr _ _ _ hi hx hy h hr) hx (O.irr x hx) hr
    omega
theorem cn_bef_lt (O : OrdP n r) {y : Nat} (hy : y < n) : cn (fun i => r i y) n + 1 ≤ n := by
  have h1 := cn_lt (p := fun i => r i y) (q := fun _ => true) (j := y) (n := n) (fun _ _ _ => rfl) hy (O.irr y hy) rfl
  have h2 := cn_le (fun _ => true) n
  omega
theorem rep_weak {f : Nat → Nat} (hf : ∀ x, x < n → f x ≤ 1000) (h : RepA n n r (fun x => ((f x : Nat) : Int)) 0) : Weak n r := by
  have hr : ∀ x y, x < n → y < n → (r x y = true ↔ f x < f y) := fun x y hx hy => by
    have h1 := h.rel x y hx hy
    have h2 := far_nat (x := f x) (y := f y) (k := 0) (by have := hf x hx; omega) (by have := hf y hy; omega) (by omega)
    rw [h1, show (0 : Int) = ((0 : Nat) : Int) from rfl, h2]; simp
  intro x y hx hy ⟨_, h1, h2⟩
  have e1 := mt (hr x y hx hy).2 (by rw [h1]; simp)
  have e2 := mt (hr y x hy hx).2 (by rw [h2]; simp)
  refine ⟨bs_congr fun i hi => ?_, bs_congr fun i hi => ?_⟩
  · have a := hr i x hi hx
    have b := hr i y hi hy
    cases c : r i x <;> cases d : r i y <;> simp_all <;> omega
  · have a := hr x i hx hi
    have b := hr y i hy hi
    cases c : r x i <;> cases d : r y i <;> simp_all <;> omega
theorem weak_rep (O : OrdP n r) (hn : n ≤ 12) (hW : Weak n r) (hL : SetsL n r L) {f : Nat → Nat} (hf : ∀ x, x < n → f x = lftS L (bef n r x)) : RepA n n r (fun x => ((f x : Nat) : Int)) 0 := by
  have hb : ∀ x, x < n → f x ≤ 12 := fun x hx => by
    rw [hf x hx]
    have h1 := weak_le O hn hW hL _ x hx rfl
    have h2 := cn_bef_lt O hx
    omega
  refine ⟨rfl, by omega, fun x y hx hy => ?_⟩
  have h2 := far_nat (x := f x) (y := f y) (k := 0) (by have := hb x hx; omega) (by have := hb y hy; omega) (by omega)
  rw [show (0 : Int) = ((0 : Nat) : Int) from rfl, h2]
  have h3 := weak_iff O hn hW hL hx hy
  rw [← hf x hx, ← hf y hy] at h3
  cases c : r x y
  · exact (decide_eq_false (by rw [Nat.add_zero]; exact fun e => by rw [h3.2 e] at c; cases c)).symm
  · exact (decide_eq_true (by rw [Nat.add_zero]; exact h3.1 c)).symm
/-- what holds in the rounds of the document's levels -/
structure Lv1 (n : Nat) (r : Nat → Nat → Bool) (f : Nat → Nat) (t : Nat) (D : Nat → Nat → Prop) : Prop where
  bd : ∀ y, y < n → f y ≤ cn (fun i => r i y) n
  up : ∀ L, SetsL n r L → Weak n r → ∀ y, y < n → f y ≤ lftS L (bef n r y)
  lo : ∀ L, SetsL n r L → Weak n r → ∀ y, y < n → lftS L (bef n r y) ≤ t → lftS L (bef n r y) ≤ f y
  st : ∀ L, SetsL n r L → Weak n r → ∀ x y, x < n → y < n → D x y → r x y = true → lftS L (bef n r x) = t → t + 1 ≤ f y
theorem Lv1.skip {f : Nat → Nat} {t i j : Nat} (h : Lv1 n r f t (fun x y => y < i ∨ (y = i ∧ x < j))) (hr : r j i = false) : Lv1 n r f t (fun x y => y < i ∨ (y = i ∧ x < j + 1)) :=
  ⟨h.bd, h.up, h.lo, fun L hL hW x y hx hy hd hxy e => by
    by_cases e2 : x = j ∧ y = i
    · rw [e2.1, e2.2, hr] at hxy; cases hxy
    · exact h.st L hL hW x y hx hy (by omega) hxy e⟩
theorem Lv1.relax (O : OrdP n r) (hn : n ≤ 12) {f : Nat → Nat} {t i j : Nat} (h : Lv1 n r f t (fun x y => y < i ∨ (y = i ∧ x < j))) (hi : i < n) (hj : j < n) (hr : r j i = true) : Lv1 n r (fun y => if y = i then max (f i) (f j + 1) else f y) t (fun x y => y < i ∨ (y = i ∧ x < j + 1)) := by
  have hge : ∀ y, f y ≤ if y = i then max (f i) (f j + 1) else f y := fun y => by
    by_cases e : y = i
    · subst e; simp; omega
    · simp [e]
  refine ⟨fun y hy => ?_, fun L hL hW y hy => ?_, fun L hL hW y hy ht => Nat.le_trans (h.lo L hL hW y hy ht) (hge y), fun L hL hW x y hx hy hd hxy e => ?_⟩
  · by_cases e : y = i
    · subst e
      have h1 := h.bd j hj
      have h2 := h.bd y hi
      have h3 := cn_lt (p := fun k => r k j) (q := fun k => r k y) (j := j) (n := n) (fun k hk h => O.tr _ _ _ hk hj hi h hr) hj (O.irr j hj) hr
      simp; omega
    · simpa [e] using h.bd y hy
  · by_cases e : y = i
    · subst e
      have h1 := h.up L hL hW j hj
      have h2 := h.up L hL hW y hi
      have h3 := weak_up O hn hL hj hi hr hW
      simp; omega
    · simpa [e] using h.up L hL hW y hy
  · by_cases e2 : x = j ∧ y = i
    · obtain ⟨rfl, rfl⟩ := e2
      have h1 := h.lo L hL hW x hj (by omega)
      simp; omega
    · exact Nat.le_trans (h.st L hL hW x y hx hy (by omega) hxy e) (hge y)
theorem Lv1.row {f : Nat → Nat} {t i : Nat} (h : Lv1 n r f t (fun x y => y < i ∨ (y = i ∧ x < n))) : Lv1 n r f t (fun x y => y < i + 1 ∨ (y = i + 1 ∧ x < 0)) :=
  ⟨h.bd, h.up, h.lo, fun L hL hW x y hx hy hd => h.st L hL hW x y hx hy (by omega)⟩
theorem Lv1.round (O : OrdP n r) (hn : n ≤ 12) {f : Nat → Nat} {t : Nat} (h : Lv1 n r f t (fun x y => y < n ∨ (y = n ∧ x < 0))) : Lv1 n r f (t + 1) (fun x y => y < 0 ∨ (y = 0 ∧ x < 0)) :=
  ⟨h.bd, h.up, fun L hL hW y hy ht => by
    by_cases e : lftS L (bef n r y) ≤ t
    · exact h.lo L hL hW y hy e
    · obtain ⟨x, hx, hr, ex⟩ := weak_pred O hn hW hL hy (show lftS L (bef n r y) = t + 1 by omega)
      have := h.st L hL hW x y hx hy (.inl hy) hr ex
      omega, fun L hL hW x y hx hy hd => by omega⟩
theorem Lv1.start : Lv1 n r (fun _ => 0) 0 (fun x y => y < 0 ∨ (y = 0 ∧ x < 0)) :=
  ⟨fun _ _ => Nat.zero_le _, fun _ _ _ _ _ => Nat.zero_le _, fun _ _ _ _ _ h => h, fun _ _ _ _ _ _ _ hd => by omega⟩
theorem Lv1.done (O : OrdP n r) (hn : n ≤ 12) {f : Nat → Nat} {D : Nat → Nat → Prop} (h : Lv1 n r f n D) (hL : SetsL n r L) (hW : Weak n r) : ∀ y, y < n → f y = lftS L (bef n r y) := fun y hy => by
  have h1 := h.up L hL hW y hy
  have h2 := weak_le O hn hW hL _ y hy rfl
  have h3 := cn_bef_lt O hy
  have h4 := h.lo L hL hW y hy (by omega)
  omega
end
end Go.Proofs.YtgpijajgaclhfaaDoor
namespace Go.Proofs.YtgpijajgaclhfaaDoor
open Go.RowKit Go.Shelf

/-- what the document's Levels answers -/
structure RLev (n : Nat) (r : Nat → Nat → Bool) (base : Nat) (e : Ending) (w' : World) (v : Value) (f : Nat → Nat) (t : Bool) : Prop where
  is : e = .returned (.tuple #[v, .bool t])
  q : QRow w' base 3 1 v n (ivI (fun x => ((f x : Nat) : Int)) n)
  iff : t = true ↔ Weak n r
  eq : ∀ L, SetsL n r L → Weak n r → ∀ y, y < n → f y = lftS L (bef n r y)
set_option maxRecDepth 100000 in
set_option maxHeartbeats 4000000 in
theorem rLev_any (ta : Option Addr) (n lc : Nat) (r : Nat → Nat → Bool) (w : World) (hok : TabOK n (fun _ => n) r) (hT : TblI w ta n (fun _ => n) r) :
    Calls Tryd.prog 47 #[.slice ta n lc] w fun e w' => (∃ v f t, RLev n r w.heap.size e w' v f t) ∧ Below w.heap.size w w' := by
  obtain ⟨i0, hi0, hz0, hz1, hz2⟩ := info_parts info3
  have HOK := Lib.hid hok
  have hn1 := hok.n1
  have hn := hok.n12
  have HT := Lib.hid hT
  clear hT hok
  go_enter Tryd.func47, Tryd.ntmps47
  go_upto_region 4 with (fail)
  go_loopw [5, 6] (fun s5 s6 wr => ∃ i : Nat, i ≤ n ∧ s6 = .int .i64 (i : Int) ∧ QRow wr w.heap.size 3 1 s5 i (ivI (fun _ => ((0 : Nat) : Int)) i) ∧ Hid (Below w.heap.size w wr)) (fun _ s6 _ => n - (intOf s6).toNat)
  case atStart => exact ⟨0, by omega, rfl, QRow.nil _ _ _ _, Below.refl _ _⟩
  case round =>
    obtain ⟨i, hi, rfl, hq, hB⟩ := hrel
    by_cases hin : i < n
    · have g1 : (i : Int) < (n : Int) := by omega
      have hsz : w.heap.size ≤ wr.heap.size := hB.out.size
      have HSN : Hid (ivI (fun _ => ((0 : Nat) : Int)) (i + 1) = ivI (fun _ => ((0 : Nat) : Int)) i ++ [.int .i64 0]) := by
        unfold Hid
        rw [ivI_snoc]
        exact ivI_congr fun j hj => by by_cases e : j = i <;> simp [e]
      have HQA := Lib.hid (hq.alloc (.cells #[.int .i64 0] 3))
      have HBA := Lib.hid (hB.out.alloc hsz (.cells #[.int .i64 0] 3))
      have HLT := Lib.hid (fun kk (e : _ = some kk) => (hq.lt kk e).1)
      clear hq
      go_wp2_with (at_builtin; go_must (refine wpList_append_q _ rfl (.tmp 17) (.tmp 18) 28 rfl w.heap.size 3 i0 (.int .i64 0) 1 8 Tryd.underlying28 hi0 hz0 hz1 hz2 rfl (by decide) _ i (ivI (fun _ => ((0 : Nat) : Int)) i) rfl HQA.out ⟨_, 0, none⟩ 1 1 [.int .i64 0] rfl rfl (cells_new1 _ _ _) (by simp [Value.oneCell']) (by unfold maxLen; omega) (by omega) (by simp; omega) ?_); intro v7 w7 hq7 hg7 ho7; have HQ7 : Hid (QRow w7 w.heap.size 3 1 v7 (i + 1) (ivI (fun _ => ((0 : Nat) : Int)) (i + 1))) := (by rw [HSN.out]; exact hq7); have HB7 : Hid (Below w.heap.size w w7) := Below.grown HBA.out hg7 (by simp; omega) (fun kk e => HLT.out kk e); clear hq7 hg7 ho7)
      exact ⟨⟨i + 1, by omega, int_eq (by omega), HQ7.out, HB7⟩, by simp [intOf]; omega⟩
    · have g1 : ¬ (i : Int) < (n : Int) := by omega
      obtain rfl : n = i := by omega
      obtain ⟨g, o, c, rfl, hgb, _⟩ := hq.at (by omega)
      have HQ0 : Hid (QRow wr w.heap.size 3 1 (.slice (some ⟨g, o, none⟩) n c) n (ivI (fun _ => ((0 : Nat) : Int)) n)) := hq
      clear hq
      go_upto_region 8 with (fail)
      go_loopw [7] (fun s7 wr => ∃ (t : Nat) (f : Nat → Nat), t ≤ n ∧ s7 = .int .i64 (t : Int) ∧ Hid (QRow wr w.heap.size 3 1 (.slice (some ⟨g, o, none⟩) n c) n (ivI (fun x => ((f x : Nat) : Int)) n)) ∧ Hid (Below w.heap.size w wr) ∧ Hid (Lv1 n r f t (fun x y => y < 0 ∨ (y = 0 ∧ x < 0)))) (fun s7 _ => n - (intOf s7).toNat)
      case atStart => exact ⟨0, fun _ => 0, by omega, rfl, HQ0, hB, Lv1.start⟩
      case round =>
        clear HQ0 hB
        obtain ⟨t, f, ht, rfl, hQ, hB, hL⟩ := hrel
        by_cases htn : t < n
        · have g2 : (t : Int) < (n : Int) := by omega
          go_upto_region 11 with (fail)
          go_loopw [8] (fun s8 wr => ∃ (i : Nat) (f : Nat → Nat), i ≤ n ∧ s8 = .int .i64 (i : Int) ∧ Hid (QRow wr w.heap.size 3 1 (.slice (some ⟨g, o, none⟩) n c) n (ivI (fun x => ((f x : Nat) : Int)) n)) ∧ Hid (Below w.heap.size w wr) ∧ Hid (Lv1 n r f t (fun x y => y < i ∨ (y = i ∧ x < 0)))) (fun s8 _ => n - (intOf s8).toNat)
          case atStart => exact ⟨0, f, by omega, rfl, hQ, hB, hL⟩
          case round =>
            clear hQ hB hL
            obtain ⟨i, f, hi, rfl, hQ, hB, hL⟩ := hrel
            by_cases hin : i < n
            · have g3 : (i : Int) < (n : Int) := by omega
              have g4 : (0 : Int) ≤ (i : Int) := by omega
              go_upto_region 14 with (fail)
              go_loopw [9] (fun s9 wr => ∃ (j : Nat) (f : Nat → Nat), j ≤ n ∧ s9 = .int .i64 (j : Int) ∧ Hid (QRow wr w.heap.size 3 1 (.slice (some ⟨g, o, none⟩) n c) n (ivI (fun x => ((f x : Nat) : Int)) n)) ∧ Hid (Below w.heap.size w wr) ∧ Hid (Lv1 n r f t (fun x y => y < i ∨ (y = i ∧ x < j)))) (fun s9 _ => n - (intOf s9).toNat)
              case atStart => exact ⟨0, f, by omega, rfl, hQ, hB, hL⟩
              case round =>
                clear hQ hB hL
                obtain ⟨j, f, hj, rfl, hQ, hB, hL⟩ := hrel
                by_cases hjn : j < n
                · have g5 : (j : Int) < (n : Int) := by omega
                  have g6 : (0 : Int) ≤ (j : Int) := by omega
                  obtain ⟨b, ob, pp, o2, c2, rfl, hb, hpp, k1, hc1⟩ := (HT.out.below hB.out (Nat.le_refl _)).at hjn
                  have k2 := hc1 i hin
                  clear hc1
                  cases hr : r j i
                  · rw [hr] at k2
                    have HN := Lib.hid (hL.out.skip hr)
                    clear hL
                    go_wp2
                    exact ⟨⟨j + 1, f, by omega, int_eq (by omega), hQ, hB, HN⟩, by simp [intOf]; omega⟩
                  · rw [hr] at k2
                    have HN := Lib.hid (hL.out.relax HOK.out.ord hn hin hjn hr)
                    have hb1 := Nat.le_trans (hL.out.bd i hin) (cn_le _ _)
                    have hb2 := Nat.le_trans (hL.out.bd j hjn) (cn_le _ _)
                    clear hL hr
                    obtain ⟨g', o', cap2, e, hgb2, hglt, _, _, hc, _⟩ := hQ.out.at (by omega)
                    cases e
                    have k3 := (hc i (by omega)).trans (ivI_get (fun x => ((f x : Nat) : Int)) n i hin)
                    have k4 := (hc j (by omega)).trans (ivI_get (fun x => ((f x : Nat) : Int)) n j hjn)
                    clear hc
                    have HSET : Hid (∀ W, Below wr.heap.size wr W → W.frozen? ⟨g, o + i, none⟩ = false ∧ QRow (W.setCell ⟨g, o + i, none⟩ (.int .i64 (max (f i : Int) ((f j : Int) + 1)))) w.heap.size 3 1 (.slice (some ⟨g, o, none⟩) n c) n (ivI (fun x => (((if x = i then max (f i) (f j + 1) else f x : Nat)) : Int)) n) ∧ Below w.heap.size w (W.setCell ⟨g, o + i, none⟩ (.int .i64 (max (f i : Int) ((f j : Int) + 1))))) := fun W hW => by
                      have hq := hQ.out.below hW (fun kk e => (hQ.out.lt kk e).2)
                      have h1 := hq.put hin (max (f i : Int) ((f j : Int) + 1))
                      refine ⟨h1.1, ?_, (hB.out.trans (hW.mono hB.out.size)).setCell (p := ⟨g, o + i, none⟩) hgb2 _⟩
                      have e : ivI (fun x => (((if x = i then max (f i) (f j + 1) else f x : Nat)) : Int)) n = ivI (fun x => if x = i then max (f i : Int) ((f j : Int) + 1) else ((f x : Nat) : Int)) n := ivI_congr fun x hx => by
                        by_cases e : x = i
                        · simp [e]; omega
                        · simp [e]
                      rw [e]; exact h1.2
                    obtain ⟨fi, hfi⟩ : ∃ fi, f i = fi := ⟨_, rfl⟩
                    obtain ⟨fj, hfj⟩ : ∃ fj, f j = fj := ⟨_, rfl⟩
                    have k3 : wr.cell? ⟨g, o + i, none⟩ = some (.int .i64 (fi : Int)) := by rw [← hfi]; exact k3
                    have k4 : wr.cell? ⟨g, o + j, none⟩ = some (.int .i64 (fj : Int)) := by rw [← hfj]; exact k4
                    rw [hfi] at hb1 HN HSET
                    rw [hfj] at hb2 HN HSET
                    have r1 : ∀ d : BW wr.heap.size wr, d.w.cell? ⟨g, o + i, none⟩ = some (.int .i64 (fi : Int)) := fun d => (d.b.cell (p := ⟨g, o + i, none⟩) hglt).trans k3
                    have r2 : ∀ d : BW wr.heap.size wr, d.w.cell? ⟨g, o + j, none⟩ = some (.int .i64 (fj : Int)) := fun d => (d.b.cell (p := ⟨g, o + j, none⟩) hglt).trans k4
                    have z5 : IntKind.i64.wrap ((fj : Int) + 1) = (fj : Int) + 1 := IntWalk.i64_in _ (by omega)
                    clear hQ hB k3 k4 hfi hfj
                    go_upto_region 17 with (fail)
                    refine wp_region_bw_copy_tail 12 (by kernel_rfl) (by kernel_rfl) (fun _ _ _ h => h) (.inl ⟨rfl, fun _ => rfl⟩) ?_
                    simp only [Act.put, Act.eval, List.getElem?_toArray, List.getElem?_cons_zero, List.getElem?_cons_succ, Option.getD_some, List.setIfInBounds_toArray, List.set_cons_zero, List.set_cons_succ, Nat.reduceSub, Array.getD_eq_getD_getElem?]
                    simp only [List.take_succ_cons, List.take_zero, List.drop_succ_cons, List.drop_zero]
                    repeat (go_big_quiet_step (rfl))
                    refine wpQuiet_nil ?_
                    rintro _ ⟨d, rfl⟩
                    have c1 := r1 d
                    have f1 := (HSET.out d.w d.b).1
                    have HS := Lib.hid (HSET.out d.w d.b).2
                    clear r1 r2 HSET
                    generalize d.w = V at *
                    go_wp2
                    exact ⟨⟨j + 1, _, by omega, int_eq (by omega), HS.out.1, HS.out.2, HN⟩, by simp [intOf]; omega⟩
                · have g5 : ¬ (j : Int) < (n : Int) := by omega
                  obtain rfl : n = j := by omega
                  go_wp2
                  exact ⟨⟨i + 1, f, by omega, int_eq (by omega), hQ, hB, hL.out.row⟩, by simp [intOf]; omega⟩
            · have g3 : ¬ (i : Int) < (n : Int) := by omega
              obtain rfl : n = i := by omega
              go_wp2
              exact ⟨⟨t + 1, f, by omega, int_eq (by omega), hQ, hB, hL.out.round HOK.out.ord hn⟩, by simp [intOf]; omega⟩
        · have g2 : ¬ (t : Int) < (n : Int) := by omega
          obtain rfl : n = t := by omega
          have HQ := Lib.hid (fun W (hW : Below wr.heap.size wr W) => hQ.out.below hW (fun kk e => (hQ.out.lt kk e).2))
          obtain ⟨tb, htb⟩ := boolOf (RepA n n r (fun x => ((f x : Nat) : Int)) 0)
          have HF : Hid (∀ x, x < n → f x ≤ 1000) := fun x hx => by have := hL.out.bd x hx; have := cn_le (fun i => r i x) n; omega
          have HIFF : Hid (tb = true ↔ Weak n r) := htb.trans ⟨rep_weak HF.out, fun hW => by
            obtain ⟨L, hS⟩ := sets_ex n r
            exact weak_rep HOK.out.ord hn hW hS (hL.out.done HOK.out.ord hn hS hW)⟩
          have HEQ : Hid (∀ L, SetsL n r L → Weak n r → ∀ y, y < n → f y = lftS L (bef n r y)) := fun L hS hW => hL.out.done HOK.out.ord hn hS hW
          have HR := Lib.hid (rRep_any ta (some ⟨g, o, none⟩) n lc n c r (fun x => ((f x : Nat) : Int)) 0 wr (by omega) (HT.out.below hB.out (Nat.le_refl _)) (hQ.out.srcI (ivI_get _ n)))
          have HTB := Lib.hid htb
          clear htb hL
          go_wp2_with (go_at_call 43; refine HR.out.mono ?_; rintro e w9 ⟨h9, z, hz⟩; replace h9 := h9.dec (b := tb) HTB.out; subst h9; subst hz)
          refine bodyPost_ret (v := .tuple #[.slice (some ⟨g, o, none⟩) n c, .bool tb]) (by simp [results, Tryd.f47, go_sem]) rfl ?_
          exact ⟨⟨_, f, tb, rfl, HQ.out _ (below_dr (Below.refl _ _) z), HIFF.out, HEQ.out⟩, below_dr hB.out z⟩
end Go.Proofs.YtgpijajgaclhfaaDoor
namespace Go.Proofs.YtgpijajgaclhfaaDoor
open Go.RowKit Go.Shelf

set_option maxRecDepth 100000 in
set_option maxHeartbeats 2000000 in
theorem ints_any (p q : Option Addr) (m c d : Nat) (f : Nat → Int) (w : World) (hl : m ≤ 1000) (hP : SrcI w p m f) (hQ : SrcI w q m f) :
    Calls Tryd.prog 35 #[.slice p m c, .slice q m d] w fun e w' => e = .returned (.bool true) ∧ ∃ z, w' = w.drewN z := by
  have HP := Lib.hid hP
  have HQ := Lib.hid hQ
  clear hP hQ
  go_enter Tryd.func35, Tryd.ntmps35
  go_upto_region 4 with (fail)
  go_loopw [5] (fun s5 wr => ∃ i : Nat, i ≤ m ∧ s5 = .int .i64 (i : Int) ∧ ∃ z, Hid (wr = w.drewN z)) (fun s5 _ => m - (intOf s5).toNat)
  case atStart => exact ⟨0, by omega, rfl, 0, rfl⟩
  case round =>
    obtain ⟨i, hi, rfl, z, hw⟩ := hrel
    rw [hw.out]
    clear hw
    by_cases him : i < m
    · have g1 : (i : Int) < (m : Int) := by omega
      have g2 : (0 : Int) ≤ (i : Int) := by omega
      obtain ⟨b, o, rfl, hb, h1⟩ := HP.out (by omega)
      obtain ⟨b', o', rfl, hb', h2⟩ := HQ.out (by omega)
      have k1 := h1 i him
      have k2 := h2 i him
      clear h1 h2
      generalize f i = x at *
      have q1 : (x != x) = false := by simp
      go_wp2
      go_quiet (fail)
      go_wp2
      exact ⟨⟨i + 1, by omega, int_eq (by omega), _, rfl⟩, by simp [intOf]; omega⟩
    · have g1 : ¬ (i : Int) < (m : Int) := by omega
      go_wp2
      go_ret
      exact ⟨rfl, z, rfl⟩
/-- Positions at an order -/
theorem pos_none (p : Option Addr) (k c : Nat) (R : Nat → Nat → Bool) (w : World) (hk : TabOK k (fun _ => k) R) (h : HasTwo k R ∨ HasThree k R) (hTb : Tab w) (hT : TblI w p k (fun _ => k) R) :
    Calls Tryd.prog 44 #[.slice p k c] w fun e w' => e = .returned (.tuple #[.slice none 0 0, .int .i64 0, .int .i64 4]) ∧ Below w.heap.size w w' := by
  refine (Positions_any p k c _ R w (by have := hk.n12; omega) hTb hT).mono ?_
  rintro e w' ⟨⟨_, h1⟩ | ⟨rfl, _, _⟩ | ⟨_, _, _, _, h1, h2, _⟩, hB⟩
  · exact absurd hk h1
  · exact ⟨rfl, hB⟩
  · exact absurd h (fun h => h.elim h1 h2)
theorem pos_some (p : Option Addr) (k c : Nat) (R : Nat → Nat → Bool) (w : World) (hk : TabOK k (fun _ => k) R) (h2 : ¬ HasTwo k R) (h3 : ¬ HasThree k R) (hTb : Tab w) (hT : TblI w p k (fun _ => k) R) :
    Calls Tryd.prog 44 #[.slice p k c] w fun e w' => ∃ (g : Nat) (f : Nat → Nat), e = .returned (.tuple #[.slice (some ⟨g, 0, none⟩) k k, .int .i64 (k : Int), .int .i64 0]) ∧ RowB w' g k (fun x => ((f x : Nat) : Int)) ∧ (∀ x, x < k → f x ≤ 1000) ∧ RepA k k R (fun x => ((f x : Nat) : Int)) (k : Int) ∧ Below w.heap.size w w' := by
  refine (Positions_any p k c _ R w (by have := hk.n12; omega) hTb hT).mono ?_
  rintro e w' ⟨⟨_, h1⟩ | ⟨_, _, h1⟩ | ⟨g, f, rfl, _, _, _, a, b, d⟩, hB⟩
  · exact absurd hk h1
  · exact absurd h1 (fun h => h.elim h2 h3)
  · exact ⟨g, f, rfl, a, b, d, hB⟩
theorem three_yes (p : Option Addr) (k c : Nat) (R : Nat → Nat → Bool) (w : World) (hk : TabOK k (fun _ => k) R) (h2 : HasThree k R) (hTb : Tab w) (hT : TblI w p k (fun _ => k) R) :
    Calls Tryd.prog 45 #[.slice p k c] w fun e w' => ∃ a b c d : Nat, e = .returned (.tuple #[.agg #[.int .i64 (a : Int), .int .i64 (b : Int), .int .i64 (c : Int), .int .i64 (d : Int)], .bool true, .int .i64 0]) ∧ ThreeOne k R a b c d ∧ Below w.heap.size w w' := by
  refine (ThreeOne_any p k c _ R w (by have := hk.n12; omega) hTb hT).mono ?_
  rintro e w' ⟨⟨_, h⟩ | ⟨a, b, c, d, rfl, _, h⟩ | ⟨_, _, h⟩, hB⟩
  · exact absurd hk h
  · exact ⟨a, b, c, d, rfl, h, hB⟩
  · obtain ⟨a, b, c, d, h3⟩ := h2
    exact absurd h3 (h a b c d)
theorem three_no (p : Option Addr) (k c : Nat) (R : Nat → Nat → Bool) (w : World) (hk : TabOK k (fun _ => k) R) (h2 : ¬ HasThree k R) (hTb : Tab w) (hT : TblI w p k (fun _ => k) R) :
    Calls Tryd.prog 45 #[.slice p k c] w fun e w' => e = .returned (.tuple #[.agg #[.int .i64 0, .int .i64 0, .int .i64 0, .int .i64 0], .bool false, .int .i64 0]) ∧ Below w.heap.size w w' := by
  refine (ThreeOne_any p k c _ R w (by have := hk.n12; omega) hTb hT).mono ?_
  rintro e w' ⟨⟨_, h⟩ | ⟨a, b, c, d, _, _, h⟩ | ⟨rfl, _, _⟩, hB⟩
  · exact absurd hk h
  · exact absurd ⟨a, b, c, d, h⟩ h2
  · exact ⟨rfl, hB⟩
theorem lev_none (p : Option Addr) (k c : Nat) (R : Nat → Nat → Bool) (w : World) (hk : TabOK k (fun _ => k) R) (hW : ¬ Weak k R) (hT : TblI w p k (fun _ => k) R) :
    Calls Tryd.prog 46 #[.slice p k c] w fun e w' => e = .returned (.tuple #[.slice none 0 0, .int .i64 4]) ∧ Below w.heap.size w w' := by
  refine (callsIn_wide.1 (Levels_in p k c _ R w hk hT)).mono ?_
  rintro e w' ⟨⟨_, h⟩ | ⟨rfl, _, _⟩ | ⟨_, _, _, _, h, _⟩, hB⟩
  · exact absurd hk h
  · exact ⟨rfl, hB⟩
  · exact absurd h hW
theorem lev_some (p : Option Addr) (k c : Nat) (R : Nat → Nat → Bool) (L : List Nat) (w : World) (hk : TabOK k (fun _ => k) R) (hW : Weak k R) (hL : SetsL k R L) (hT : TblI w p k (fun _ => k) R) :
    Calls Tryd.prog 46 #[.slice p k c] w fun e w' => ∃ v, e = .returned (.tuple #[v, .int .i64 0]) ∧ QRow w' w.heap.size 3 1 v k (ivI (fun x => ((lftS L (bef k R x) : Nat) : Int)) k) ∧ Below w.heap.size w w' := by
  refine (callsIn_wide.1 (Levels_in p k c _ R w hk hT)).mono ?_
  rintro e w' ⟨⟨_, h⟩ | ⟨_, _, h⟩ | ⟨v, L', rfl, _, _, hL', hq⟩, hB⟩
  · exact absurd hk h
  · exact absurd hW h
  · rw [hL'.unique hL, ivI_congr (fun j hj => (canonPs_at hj).1)] at hq
    exact ⟨v, rfl, hq, hB⟩
theorem rTO_yes (p : Option Addr) (k n : Nat) (R : Nat → Nat → Bool) (a b c d : Nat) (w : World) (hk : TabOK k (fun _ => k) R) (h : ThreeOne k R a b c d) (hT : TblI w p k (fun _ => k) R) :
    Calls Tryd.prog 41 #[.slice p k n, .agg #[.int .i64 (a : Int), .int .i64 (b : Int), .int .i64 (c : Int), .int .i64 (d : Int)]] w fun e w' => e = .returned (.bool true) ∧ Below w.heap.size w w' := by
  have h1 := h.1
  have h2 := h.2.1
  have h3 := h.2.2.1
  have h4 := h.2.2.2.1
  refine (rTO_any p k n R a b c d w (by have := hk.n12; omega) hT).mono fun e w' h' => ⟨h'.1.dec (b := true) ⟨fun _ => ⟨by unfold In4; omega, by simpa using h⟩, fun _ => rfl⟩, h'.2⟩
end Go.Proofs.YtgpijajgaclhfaaDoor
namespace Go.Proofs.YtgpijajgaclhfaaDoor
open Go.RowKit Go.Shelf

def Goes (n : Nat) (r : Nat → Nat → Bool) : Prop := ∀ a b d, a < n → b < n → d < n → Ovl r a b → Ovl r b d → a ≠ d → Ovl r a d
theorem Ovl.symm {r : Nat → Nat → Bool} {x y : Nat} (h : Ovl r x y) : Ovl r y x := ⟨fun e => h.1 e.symm, h.2.2, h.2.1⟩
theorem goes_iff {n : Nat} {r : Nat → Nat → Bool} (O : OrdP n r) : Goes n r ↔ Weak n r := by
  constructor
  · intro G
    have key : ∀ x y, x < n → y < n → Ovl r x y → (∀ z, z < n → r z x = true → r z y = true) ∧ ∀ z, z < n → r x z = true → r y z = true := fun x y hx hy ho => by
      refine ⟨fun z hz h => ?_, fun z hz h => ?_⟩
      · apply Classical.byContradiction; intro h1
        have h2 : ¬ r y z = true := fun e => by have := O.tr _ _ _ hy hz hx e h; rw [ho.2.2] at this; cases this
        have h3 : z ≠ y := fun e => by rw [e, ho.2.2] at h; cases h
        have h4 : z ≠ x := fun e => by rw [e, O.irr x hx] at h; cases h
        have := G z y x hz hy hx ⟨h3, bfalse h1, bfalse h2⟩ ho.symm h4
        rw [this.2.1] at h; cases h
      · apply Classical.byContradiction; intro h1
        have h2 : ¬ r z y = true := fun e => by have := O.tr _ _ _ hx hz hy h e; rw [ho.2.1] at this; cases this
        have h3 : y ≠ z := fun e => by rw [← e, ho.2.1] at h; cases h
        have h4 : x ≠ z := fun e => by rw [← e, O.irr x hx] at h; cases h
        have := G x y z hx hy hz ho ⟨h3, bfalse h1, bfalse h2⟩ h4
        rw [this.2.1] at h; cases h
    intro x y hx hy ho
    have k1 := key x y hx hy ho
    have k2 := key y x hy hx ho.symm
    refine ⟨bs_congr fun i hi => ?_, bs_congr fun i hi => ?_⟩
    · have a := k1.1 i hi
      have b := k2.1 i hi
      cases c : r i x <;> cases d : r i y <;> simp_all
    · have a := k1.2 i hi
      have b := k2.2 i hi
      cases c : r x i <;> cases d : r y i <;> simp_all
  · intro W a b d ha hb hd h1 h2 hne
    have e1 := W a b ha hb h1
    have e2 := W b d hb hd h2
    refine ⟨hne, bfalse fun h => ?_, bfalse fun h => ?_⟩
    · have : (bef n r d).testBit a = true := bef_bit.2 ⟨ha, h⟩
      rw [← e2.1, ← e1.1] at this
      have := (bef_bit.1 this).2
      rw [O.irr a ha] at this; cases this
    · have : (bef n r a).testBit d = true := bef_bit.2 ⟨hd, h⟩
      rw [e1.1, e2.1] at this
      have := (bef_bit.1 this).2
      rw [O.irr d hd] at this; cases this
theorem height_hit {n : Nat} {r : Nat → Nat → Bool} {L : List Nat} (hL : SetsL n r L) {x k : Nat} (hx : x < n) (hk : k ≤ lftS L (bef n r x)) : ∃ y, y < n ∧ lftS L (bef n r y) = k := by
  have h1 := (hL.at hx).1
  have hkl : k < L.length := by omega
  have hm : nthN L k ∈ L := by unfold nthN; rw [List.getElem?_eq_getElem hkl]; exact List.getElem_mem hkl
  obtain ⟨y, hy, e⟩ := (hL.mem _).1 hm
  exact ⟨y, hy, by rw [← e]; exact hL.idx hkl⟩
theorem pTO_yes (p : Option Addr) (k n : Nat) (R : Nat → Nat → Bool) (a b c d : Nat) (w : World) (hk : TabOK k (fun _ => k) R) (h : ThreeOne k R a b c d) (hT : TblI w p k (fun _ => k) R) :
    Calls Tryd.prog 40 #[.slice p k n, .agg #[.int .i64 (a : Int), .int .i64 (b : Int), .int .i64 (c : Int), .int .i64 (d : Int)]] w fun e w' => e = .returned (.bool true) ∧ Below w.heap.size w w' := by
  have h1 := h.1
  have h2 := h.2.1
  have h3 := h.2.2.1
  have h4 := h.2.2.2.1
  refine (IsThreeOne_any p k n _ R a b c d w (by have := hk.n12; omega) hT).mono fun e w' h' => ⟨h'.1.dec (b := true) ⟨fun _ => ⟨hk, by unfold In4; omega, by simpa using h⟩, fun _ => rfl⟩, h'.2⟩
theorem pRep_yes (p q : Option Addr) (k c m d : Nat) (R : Nat → Nat → Bool) (f : Nat → Int) (z : Int) (w : World) (hk : TabOK k (fun _ => k) R) (h : RepA m k R f z) (hT : TblI w p k (fun _ => k) R) (hS : SrcI w q m f) :
    Calls Tryd.prog 42 #[.slice p k c, .slice q m d, .int .i64 z] w fun e w' => e = .returned (.bool true) ∧ Below w.heap.size w w' :=
  (pRep_any p q k c m d _ R f z w (by have := hk.n12; omega) hT hS).mono fun e w' h' => ⟨h'.1.dec (b := true) ⟨fun _ => ⟨hk, h⟩, fun _ => rfl⟩, h'.2⟩
structure GoS (n : Nat) (r : Nat → Nat → Bool) (b : Bool) (D : Nat → Nat → Nat → Prop) : Prop where
  yes : b = true → ∀ x y z, x < n → y < n → z < n → D x y z → Ovl r x y → Ovl r y z → x ≠ z → Ovl r x z
  no : b = false → ¬ Goes n r
theorem GoS.next {n : Nat} {r : Nat → Nat → Bool} {b : Bool} {i j l : Nat} (h : GoS n r b (fun x y z => x < i ∨ (x = i ∧ (y < j ∨ (y = j ∧ z < l))))) (ht : Ovl r i j → Ovl r j l → i ≠ l → Ovl r i l) : GoS n r b (fun x y z => x < i ∨ (x = i ∧ (y < j ∨ (y = j ∧ z < l + 1)))) :=
  ⟨fun hb x y z hx hy hz hd h1 h2 h3 => by
    by_cases e : x = i ∧ y = j ∧ z = l
    · obtain ⟨rfl, rfl, rfl⟩ := e; exact ht h1 h2 h3
    · exact h.yes hb x y z hx hy hz (by omega) h1 h2 h3, h.no⟩
theorem GoS.bad {n : Nat} {r : Nat → Nat → Bool} {i j l : Nat} {D : Nat → Nat → Nat → Prop} (hi : i < n) (hj : j < n) (hl : l < n) (h1 : Ovl r i j) (h2 : Ovl r j l) (h3 : i ≠ l) (h4 : ¬ Ovl r i l) : GoS n r false D := ⟨fun h => (by cases h), fun _ G => h4 (G i j l hi hj hl h1 h2 h3)⟩
theorem GoS.row1 {n : Nat} {r : Nat → Nat → Bool} {b : Bool} {i j : Nat} (h : GoS n r b (fun x y z => x < i ∨ (x = i ∧ (y < j ∨ (y = j ∧ z < n))))) : GoS n r b (fun x y z => x < i ∨ (x = i ∧ (y < j + 1 ∨ (y = j + 1 ∧ z < 0)))) :=
  ⟨fun hb x y z hx hy hz hd => h.yes hb x y z hx hy hz (by omega), h.no⟩
theorem GoS.row2 {n : Nat} {r : Nat → Nat → Bool} {b : Bool} {i : Nat} (h : GoS n r b (fun x y z => x < i ∨ (x = i ∧ (y < n ∨ (y = n ∧ z < 0))))) : GoS n r b (fun x y z => x < i + 1 ∨ (x = i + 1 ∧ (y < 0 ∨ (y = 0 ∧ z < 0)))) :=
  ⟨fun hb x y z hx hy hz hd => h.yes hb x y z hx hy hz (by omega), h.no⟩
theorem GoS.start {n : Nat} {r : Nat → Nat → Bool} : GoS n r true (fun x y z => x < 0 ∨ (x = 0 ∧ (y < 0 ∨ (y = 0 ∧ z < 0)))) := ⟨fun _ x y z _ _ _ hd => by omega, fun h => by cases h⟩
theorem GoS.done {n : Nat} {r : Nat → Nat → Bool} {b : Bool} (O : OrdP n r) (h : GoS n r b (fun x y z => x < n ∨ (x = n ∧ (y < 0 ∨ (y = 0 ∧ z < 0))))) : b = true ↔ Weak n r := by
  rw [← goes_iff O]
  constructor
  · intro hb x y z hx hy hz; exact h.yes hb x y z hx hy hz (.inl hx)
  · intro G
    cases hb : b
    · exact absurd G (h.no hb)
    · rfl
end Go.Proofs.YtgpijajgaclhfaaDoor
