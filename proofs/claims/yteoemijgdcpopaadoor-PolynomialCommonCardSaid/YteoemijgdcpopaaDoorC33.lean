/- Pseudo-division and greatest common divisors of polynomials by their values: plain laws. -/
import Derived.Test.YteoemijgdcpopaaDoorC19
import Derived.Test.YteoemijgdcpopaaDoorC27
import Derived.Test.YteoemijgdcpopaaDoorC32
namespace Go.Proofs.YteoemijgdcpopaaDoor
theorem ypol_mono (a : Int) (i K : Nat) (h : i < K) (x : Int) : ypol (fun t => if t = i then a else 0) K x = a * x ^ i := by
  unfold ypol
  rw [dotN_congr (g := fun t => if t = i then a * x ^ i else 0) fun t _ => by
    show (if t = i then a else 0) * x ^ t = _
    by_cases h1 : t = i
    · rw [if_pos h1, if_pos h1, h1]
    · rw [if_neg h1, if_neg h1, Int.zero_mul]]
  exact dotN_one _ _ K h
theorem ypol_nought (K : Nat) (x : Int) : ypol (fun _ => 0) K x = 0 := by
  unfold ypol
  rw [dotN_congr (g := fun _ => 0) fun t _ => Int.zero_mul _, dotN_zero]
/-- Quotient and rest of the first rounds. -/
theorem dvS_ev {f g : Nat → Int} {n m : Nat} (hm : 0 < m) (hnm : m ≤ n) (x : Int) : ∀ j, j ≤ n - m + 1 →
    g (m - 1) ^ j * ypol f n x = ypol (dvS f g n m j).1 (n - m + 1) x * ypol g m x + ypol (dvS f g n m j).2 n x
  | 0, _ => by
    show _ = ypol (fun _ => 0) _ x * _ + ypol f n x
    rw [ypol_nought]
    simp
  | j + 1, hj => by
    have ih := dvS_ev (f := f) (g := g) hm hnm x j (by omega)
    obtain ⟨t, ht⟩ : ∃ t, (dvS f g n m j).2 (n - m - j + m - 1) = t := ⟨_, rfl⟩
    obtain ⟨i, hi⟩ : ∃ i, n - m - j = i := ⟨_, rfl⟩
    obtain ⟨c, hc⟩ : ∃ c, g (m - 1) = c := ⟨_, rfl⟩
    have e1 : ypol (dvS f g n m (j + 1)).1 (n - m + 1) x = c * ypol (dvS f g n m j).1 (n - m + 1) x + t * x ^ i := by
      rw [← ypol_smul, ← ypol_mono t i (n - m + 1) (by omega) x, ← ypol_add]
      refine ypol_congr x fun k _ => ?_
      dsimp only [dvS]
      rw [ht, hi, hc, Int.mul_comm]
    have e2 : ypol (dvS f g n m (j + 1)).2 n x = c * ypol (dvS f g n m j).2 n x + -t * x ^ i * ypol g m x := by
      rw [← ypol_smul, ← ypol_shift (-t) g i x m n (by omega), ← ypol_add]
      refine ypol_congr x fun k _ => ?_
      dsimp only [dvS]
      rw [ht, hi, hc, Int.mul_comm]
      by_cases h : i ≤ k ∧ k < i + m
      · rw [if_pos h, if_pos h, Int.neg_mul]; omega
      · rw [if_neg h, if_neg h]; omega
    rw [hc] at ih
    rw [e1, e2, hc, Int.pow_succ, show c ^ j * c * ypol f n x = c * (c ^ j * ypol f n x) from by rw [Int.mul_comm (c ^ j) c, Int.mul_assoc], ih]
    clear e1 e2 ih
    generalize ypol (dvS f g n m j).1 (n - m + 1) x = Q
    generalize ypol (dvS f g n m j).2 n x = R
    generalize ypol g m x = G
    generalize x ^ i = y
    clear ht hc hi
    grind
/-- The equation of the pseudo-division. -/
theorem dv_ev {f g : Nat → Int} {n m : Nat} (hm : 0 < m) (x : Int) :
    g (m - 1) ^ (n + 1 - m) * ypol f n x = ypol (dvQ f g n m) (dvLQ f g n m) x * ypol g m x + ypol (dvR f g n m) (dvLR f g n m) x := by
  unfold dvQ dvLQ dvR dvLR
  by_cases h : n < m
  · rw [if_pos h, if_pos h, if_pos h, show n + 1 - m = 0 from by omega, ypol_nil]
    simp
  · rw [if_neg h, if_neg h, if_neg h, ypol_dg, ypol_dg, show n + 1 - m = n - m + 1 from by omega]
    exact dvS_ev hm (by omega) x _ (Nat.le_refl _)
theorem IsP.mk' (f : Nat → Int) (n : Nat) (h : 0 < n → f (n - 1) ≠ 0) : IsP n (ctN f n) (fun x => ypol f n x) := by
  refine ⟨fun h0 => ?_, fun k hk => if_neg (by omega), fun x => ypol_cut f n x⟩
  unfold ctN
  rw [if_pos (by omega)]
  exact h h0
/-- A polynomial function. -/
def PF (e : Int → Int) : Prop := ∃ N F, IsP N F e
theorem IsP.pf {N : Nat} {F : Nat → Int} {e : Int → Int} (h : IsP N F e) : PF e := ⟨N, F, h⟩
theorem PF.of (f : Nat → Int) (n : Nat) : PF (fun x => ypol f n x) := (IsP.of f n).pf
theorem PF.congr {e e' : Int → Int} (h : PF e) (he : ∀ x, e x = e' x) : PF e' := by
  obtain ⟨N, F, h⟩ := h; exact ⟨N, F, h.congr he⟩
theorem PF.add {e e' : Int → Int} (h : PF e) (k : PF e') : PF (fun x => e x + e' x) := by
  obtain ⟨N, F, h⟩ := h
  obtain ⟨M, G, k⟩ := k
  refine (PF.of (fun j => F j + G j) (N + M)).congr fun x => ?_
  rw [ypol_add, h.far (by omega), k.far (by omega)]
theorem PF.mul {e e' : Int → Int} (h : PF e) (k : PF e') : PF (fun x => e x * e' x) := by
  obtain ⟨N, F, h⟩ := h
  obtain ⟨M, G, k⟩ := k
  by_cases h0 : N = 0 ∨ M = 0
  · exact (h.mul0 k h0).pf
  · exact (h.mul k (by omega) (by omega)).pf
theorem PF.const (c : Int) : PF (fun _ => c) := (PF.of (fun _ => c) 1).congr fun x => by simp [ypol, dotN]
theorem PF.x : PF (fun x => x) := (PF.of (fun j => if j = 1 then 1 else 0) 2).congr fun x => by simp [ypol, dotN, Int.pow_succ]
theorem PF.smul (c : Int) {e : Int → Int} (h : PF e) : PF (fun x => c * e x) := (PF.const c).mul h
theorem PF.sub {e e' : Int → Int} (h : PF e) (k : PF e') : PF (fun x => e x - e' x) := (h.add (k.smul (-1))).congr fun x => by omega
theorem IsP.smul {N : Nat} {F : Nat → Int} {e : Int → Int} (h : IsP N F e) {c : Int} (hc : c ≠ 0) : IsP N (fun j => c * F j) (fun x => c * e x) :=
  ⟨fun h0 h1 => by
    rcases Int.mul_eq_zero.1 h1 with h2 | h2
    · exact hc h2
    · exact h.top h0 h2, fun k hk => by show c * F k = 0; rw [h.out k hk, Int.mul_zero], fun x => by rw [ypol_smul, h.ev]⟩
theorem IsP.zero_iff {N : Nat} {F : Nat → Int} {e : Int → Int} (h : IsP N F e) : N = 0 ↔ ∀ x, e x = 0 := by
  constructor
  · intro h0 x; exact h.nil h0 x
  · intro h0; exact (h.unique (IsP.zero.congr fun x => (h0 x).symm)).1
theorem IsP.len_mul {N M K : Nat} {F G H : Nat → Int} {e e' s : Int → Int} (h : IsP N F e) (k : IsP M G e') (l : IsP K H s) (hs : ∀ x, s x = e x * e' x) : (N = 0 ∨ M = 0 → K = 0) ∧ (0 < N → 0 < M → K = N + M - 1) := h.deg k (l.congr hs)
/-- No divisors of zero. -/
theorem PF.cancel {e d d' : Int → Int} (h : PF e) (hd : PF d) (hd' : PF d') (h0 : ¬ ∀ x, e x = 0) (he : ∀ x, e x * d x = e x * d' x) (x : Int) : d x = d' x := by
  obtain ⟨N, F, h⟩ := h
  obtain ⟨M, G, k⟩ := hd.sub hd'
  have hN : 0 < N := by
    rcases Nat.eq_zero_or_pos N with h1 | h1
    · exact absurd (h.zero_iff.1 h1) h0
    · exact h1
  have := (h.len_mul k IsP.zero fun x => by rw [Int.mul_sub, he]; omega).2 hN
  have hM : M = 0 := by
    rcases Nat.eq_zero_or_pos M with h1 | h1
    · exact h1
    · have := this h1; omega
  have := k.zero_iff.1 hM x
  omega
/-- A rest that is less than the divisor, and divisible by it. -/
theorem IsP.rest0 {N M : Nat} {F G : Nat → Int} {r g s : Int → Int} (h : IsP N F r) (k : IsP M G g) (hs : PF s) {l : Int} (hl : l ≠ 0) (he : ∀ x, l * r x = s x * g x) (hlt : N < M) : N = 0 := by
  obtain ⟨K, H, hs⟩ := hs
  have h1 := hs.len_mul k (h.smul hl) he
  rcases Nat.eq_zero_or_pos K with h0 | h0
  · exact h1.1 (.inl h0)
  · have := h1.2 h0 (by omega); omega
/-- What a greatest common divisor over the rationals is. -/
structure CD (a b g : Int → Int) : Prop where
  left : ∃ k s, k ≠ 0 ∧ PF s ∧ ∀ x, k * a x = s x * g x
  right : ∃ k s, k ≠ 0 ∧ PF s ∧ ∀ x, k * b x = s x * g x
  bez : ∃ k u v, k ≠ 0 ∧ PF u ∧ PF v ∧ ∀ x, k * g x = u x * a x + v x * b x
theorem CD.swap {a b g : Int → Int} (h : CD a b g) : CD b a g := by
  obtain ⟨h1, h2, k, u, v, hk, hu, hv, he⟩ := h
  exact ⟨h2, h1, k, v, u, hk, hv, hu, fun x => by rw [he]; omega⟩
theorem CD.zero {a b : Int → Int} (hb : ∀ x, b x = 0) : CD a b a :=
  ⟨⟨1, fun _ => 1, by decide, PF.const 1, fun x => rfl⟩, ⟨1, fun _ => 0, by decide, PF.const 0, fun x => by rw [hb]; simp⟩, 1, fun _ => 1, fun _ => 0, by decide, PF.const 1, PF.const 0, fun x => by rw [hb]; simp⟩
theorem mul_ne {a b : Int} (ha : a ≠ 0) (hb : b ≠ 0) : a * b ≠ 0 := fun h => by
  rcases Int.mul_eq_zero.1 h with h | h
  · exact ha h
  · exact hb h
/-- A step of Euclid's algorithm: c a = q b + l r. -/
theorem CD.step {a b r g q : Int → Int} {c l : Int} (h : CD b r g) (hq : PF q) (hc : c ≠ 0) (hl : l ≠ 0) (he : ∀ x, c * a x = q x * b x + l * r x) : CD a b g := by
  obtain ⟨⟨k1, s1, hk1, hs1, e1⟩, ⟨k2, s2, hk2, hs2, e2⟩, k, u, v, hk, hu, hv, e3⟩ := h
  refine ⟨⟨k1 * k2 * c, fun x => k2 * (q x * s1 x) + k1 * (l * s2 x), mul_ne (mul_ne hk1 hk2) hc, ((hq.mul hs1).smul k2).add ((hs2.smul l).smul k1), fun x => ?_⟩, ⟨k1, s1, hk1, hs1, e1⟩, l * k, fun x => c * v x, fun x => l * u x - q x * v x, mul_ne hl hk, hv.smul c, (hu.smul l).sub (hq.mul hv), fun x => ?_⟩
  · have h1 := he x; have h2 := e1 x; have h3 := e2 x
    rw [show k1 * k2 * c * a x = k1 * k2 * (c * a x) from by rw [Int.mul_assoc], h1]
    grind
  · have h1 := he x; have h3 := e3 x
    rw [show l * k * g x = l * (k * g x) from by rw [Int.mul_assoc], h3]
    grind
/-- Factors in front change nothing. -/
theorem CD.scale {a b g a' b' : Int → Int} {c d c' d' : Int} (h : CD a b g) (hc : c ≠ 0) (hd : d ≠ 0) (hc' : c' ≠ 0) (hd' : d' ≠ 0) (he : ∀ x, c * a' x = c' * a x) (hf : ∀ x, d * b' x = d' * b x) : CD a' b' g := by
  obtain ⟨⟨k1, s1, hk1, hs1, e1⟩, ⟨k2, s2, hk2, hs2, e2⟩, k, u, v, hk, hu, hv, e3⟩ := h
  refine ⟨⟨k1 * c, fun x => c' * s1 x, mul_ne hk1 hc, hs1.smul c', fun x => ?_⟩, ⟨k2 * d, fun x => d' * s2 x, mul_ne hk2 hd, hs2.smul d', fun x => ?_⟩, c' * d' * k, fun x => d' * c * u x, fun x => c' * d * v x, mul_ne (mul_ne hc' hd') hk, hu.smul _, hv.smul _, fun x => ?_⟩
  · have h1 := he x; have h2 := e1 x
    grind
  · have h1 := hf x; have h2 := e2 x
    grind
  · have h1 := he x; have h2 := hf x; have h3 := e3 x
    grind
/-- Two greatest common divisors divide each other. -/
theorem CD.dvd {a b g h : Int → Int} (hg : CD a b g) (hh : CD a b h) : ∃ k s, k ≠ 0 ∧ PF s ∧ ∀ x, k * g x = s x * h x := by
  obtain ⟨_, _, k, u, v, hk, hu, hv, e3⟩ := hg
  obtain ⟨⟨k1, s1, hk1, hs1, e1⟩, ⟨k2, s2, hk2, hs2, e2⟩, _⟩ := hh
  refine ⟨k1 * k2 * k, fun x => k2 * (u x * s1 x) + k1 * (v x * s2 x), mul_ne (mul_ne hk1 hk2) hk, ((hu.mul hs1).smul _).add ((hv.mul hs2).smul _), fun x => ?_⟩
  have h1 := e1 x; have h2 := e2 x; have h3 := e3 x
  rw [show k1 * k2 * k * g x = k1 * k2 * (k * g x) from by rw [Int.mul_assoc], h3]
  grind
end Go.Proofs.YteoemijgdcpopaaDoor
