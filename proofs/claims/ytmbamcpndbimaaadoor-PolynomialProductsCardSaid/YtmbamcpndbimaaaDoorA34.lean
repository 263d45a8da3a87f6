/- Polynomials by their values: plain laws. Pseudo-division and greatest common divisors of polynomials by their values: plain laws. -/
import Derived.Test.YtmbamcpndbimaaaDoorA11
import Derived.Test.YtmbamcpndbimaaaDoorA12
import Derived.Test.YtmbamcpndbimaaaDoorA19
import Derived.Test.YtmbamcpndbimaaaDoorA20
namespace Go.Proofs.YtmbamcpndbimaaaDoor
/-- A polynomial with m coefficients. -/
def ypol (c : Nat → Int) (m : Nat) (x : Int) : Int := dotN (fun j => c j * x ^ j) m
theorem ypol_succ (c : Nat → Int) (m : Nat) (x : Int) : ypol c (m + 1) x = c 0 + x * ypol (fun j => c (j + 1)) m x := by
  unfold ypol
  induction m with
  | zero => simp [dotN]
  | succ m ih =>
    rw [dotN, ih, dotN, Int.pow_succ]
    grind
theorem ypol_add (c d : Nat → Int) (m : Nat) (x : Int) : ypol (fun j => c j + d j) m x = ypol c m x + ypol d m x := by
  unfold ypol
  rw [← dotN_add]
  exact dotN_congr fun j _ => Int.add_mul ..
theorem ypol_smul (a : Int) (c : Nat → Int) (m : Nat) (x : Int) : ypol (fun j => a * c j) m x = a * ypol c m x := by
  unfold ypol
  rw [← dotN_mul]
  exact dotN_congr fun j _ => Int.mul_assoc ..
theorem ypol_congr {c d : Nat → Int} {m : Nat} (x : Int) (h : ∀ j, j < m → c j = d j) : ypol c m x = ypol d m x := dotN_congr fun j hj => by rw [h j hj]
theorem ypol_more {c : Nat → Int} {m : Nat} (h : c m = 0) (x : Int) : ypol c (m + 1) x = ypol c m x := by
  unfold ypol
  rw [dotN, h, Int.zero_mul, Int.add_zero]
theorem ypol_zero {m : Nat} : ∀ {c : Nat → Int}, (∀ x : Int, 1 ≤ x → ypol c m x = 0) → ∀ j, j < m → c j = 0 := by
  induction m with
  | zero => intro c _ j hj; omega
  | succ m ih =>
    intro c h
    have h0 : c 0 = 0 := by
      have h1 := h ((c 0).natAbs + 1) (by omega)
      rw [ypol_succ] at h1
      refine Int.eq_zero_of_dvd_of_natAbs_lt_natAbs (d := (((c 0).natAbs : Int) + 1)) ?_ (by omega)
      refine ⟨-ypol (fun j => c (j + 1)) m (((c 0).natAbs : Int) + 1), ?_⟩
      rw [Int.mul_neg]
      omega
    have h2 := ih (c := fun j => c (j + 1)) fun x hx => by
      have := h x hx
      rw [ypol_succ, h0, Int.zero_add] at this
      rcases Int.mul_eq_zero.1 this with h | h
      · omega
      · exact h
    intro j hj
    cases j with
    | zero => exact h0
    | succ j => exact h2 j (by omega)
theorem ypol_inj {m : Nat} {c d : Nat → Int} (h : ∀ x : Int, 1 ≤ x → ypol c m x = ypol d m x) (j : Nat) (hj : j < m) : c j = d j := by
  have h1 := ypol_zero (c := fun j => c j + -1 * d j) (m := m) (fun x hx => by
    rw [ypol_add c (fun j => -1 * d j), ypol_smul, h x hx]
    omega) j hj
  omega
theorem dotN_split (f : Nat → Int) (n : Nat) : ∀ k, dotN f (n + k) = dotN f n + dotN (fun j => f (n + j)) k
  | 0 => by simp [dotN]
  | k + 1 => by rw [← Nat.add_assoc, dotN, dotN_split f n k, dotN]; omega
theorem ypol_far {c : Nat → Int} {n : Nat} (h : ∀ k, n ≤ k → c k = 0) {m : Nat} (hm : n ≤ m) (x : Int) : ypol c m x = ypol c n x := by
  obtain ⟨d, rfl⟩ : ∃ d, m = n + d := ⟨m - n, by omega⟩
  induction d with
  | zero => rfl
  | succ d ih => rw [← Nat.add_assoc, ypol_more (h _ (by omega)), ih (by omega)]
theorem dotN_one (j : Nat) (b : Int) : ∀ K, j < K → dotN (fun t => if t = j then b else 0) K = b
  | 0, h => by omega
  | K + 1, h => by
    rw [dotN]
    by_cases hj : j < K
    · rw [dotN_one j b K hj, if_neg (by omega)]; omega
    · obtain rfl : j = K := by omega
      have : dotN (fun t => if t = j then b else 0) j = 0 := by
        rw [dotN_congr (g := fun _ => 0) fun t ht => if_neg (by omega), dotN_zero]
      rw [this, if_pos rfl]; omega
/-- A polynomial moved by i places. -/
theorem ypol_shift (a : Int) (g : Nat → Int) (i : Nat) (x : Int) : ∀ (m K : Nat), i + m ≤ K → ypol (fun t => if i ≤ t ∧ t < i + m then a * g (t - i) else 0) K x = a * x ^ i * ypol g m x
  | 0, K, _ => by
    rw [ypol_congr (d := fun _ => 0) x fun t _ => if_neg (by omega)]
    unfold ypol
    rw [dotN_congr (g := fun _ => 0) fun t _ => Int.zero_mul _, dotN_zero]
    simp [dotN]
  | m + 1, K, h => by
    have e : ∀ t, t < K → (if i ≤ t ∧ t < i + (m + 1) then a * g (t - i) else 0) = (if i ≤ t ∧ t < i + m then a * g (t - i) else 0) + (if t = i + m then a * g m else 0) := by
      intro t _
      by_cases h1 : t = i + m
      · rw [if_pos (by omega), if_neg (by omega), if_pos h1, h1, Nat.add_sub_cancel_left]; omega
      · by_cases h2 : i ≤ t ∧ t < i + m
        · rw [if_pos (by omega), if_pos h2, if_neg h1]; omega
        · rw [if_neg (by omega), if_neg h2, if_neg h1]; omega
    rw [ypol_congr x e, ypol_add, ypol_shift a g i x m K (by omega)]
    have e2 : ypol (fun t => if t = i + m then a * g m else 0) K x = a * g m * x ^ (i + m) := by
      unfold ypol
      rw [dotN_congr (g := fun t => if t = i + m then a * g m * x ^ (i + m) else 0) fun t _ => by
        show (if t = i + m then a * g m else 0) * x ^ t = _
        by_cases h1 : t = i + m
        · rw [if_pos h1, if_pos h1, h1]
        · rw [if_neg h1, if_neg h1, Int.zero_mul]]
      exact dotN_one _ _ K (by omega)
    rw [e2]
    show _ = a * x ^ i * dotN _ (m + 1)
    rw [dotN]
    show _ = a * x ^ i * (ypol g m x + g m * x ^ m)
    rw [Int.pow_add]
    grind
theorem ypol_nil (c : Nat → Int) (x : Int) : ypol c 0 x = 0 := rfl
theorem ypol_mR (f g : Nat → Int) (m : Nat) (x : Int) (K : Nat) : ∀ n, (∀ i, i < n → i + m ≤ K) → ypol (mR f g m n) K x = ypol f n x * ypol g m x
  | 0, _ => by
    rw [ypol_nil, Int.zero_mul]
    unfold ypol
    rw [dotN_congr (f := fun j => mR f g m 0 j * x ^ j) (g := fun _ => 0) fun t _ => Int.zero_mul _, dotN_zero]
  | n + 1, h => by
    rw [ypol_congr (c := mR f g m (n + 1)) (d := fun t => mR f g m n t + (if n ≤ t ∧ t < n + m then f n * g (t - n) else 0)) x fun t _ => rfl, ypol_add, ypol_mR f g m x K n fun i hi => h i (by omega), ypol_shift _ _ _ _ _ _ (h n (by omega))]
    show _ = (dotN _ (n + 1)) * _
    rw [dotN]
    show _ = (ypol f n x + f n * x ^ n) * _
    rw [Int.add_mul]
/-- The canonical polynomial with these values. -/
structure IsP (N : Nat) (F : Nat → Int) (e : Int → Int) : Prop where
  top : 0 < N → F (N - 1) ≠ 0
  out : ∀ k, N ≤ k → F k = 0
  ev : ∀ x, ypol F N x = e x
theorem IsP.far {N : Nat} {F : Nat → Int} {e : Int → Int} (h : IsP N F e) {M : Nat} (hM : N ≤ M) (x : Int) : ypol F M x = e x := by rw [ypol_far h.out hM, h.ev]
theorem IsP.unique {N M : Nat} {F G : Nat → Int} {e : Int → Int} (h : IsP N F e) (k : IsP M G e) : N = M ∧ F = G := by
  have hfg : F = G := by
    funext j
    by_cases hj : j < N + M
    · exact ypol_inj (m := N + M) (fun x _ => by rw [h.far (by omega), k.far (by omega)]) j hj
    · rw [h.out j (by omega), k.out j (by omega)]
  refine ⟨?_, hfg⟩
  subst hfg
  apply Classical.byContradiction
  intro hne
  rcases Nat.lt_or_ge N M with hl | hl
  · exact k.top (by omega) (h.out _ (by omega))
  · exact h.top (by omega) (k.out _ (by omega))
theorem IsP.congr {N : Nat} {F : Nat → Int} {e e' : Int → Int} (h : IsP N F e) (he : ∀ x, e x = e' x) : IsP N F e' := ⟨h.top, h.out, fun x => (h.ev x).trans (he x)⟩
def ctN (f : Nat → Int) (n k : Nat) : Int := if k < n then f k else 0
theorem ypol_cut (f : Nat → Int) (n : Nat) (x : Int) : ypol (ctN f n) n x = ypol f n x := ypol_congr x fun _ hj => if_pos hj
theorem ypol_dg (f : Nat → Int) (n : Nat) (x : Int) : ypol f (dgN f n) x = ypol f n x := by
  have h := dgN_over f n
  have h2 := dgN_le f n
  generalize dgN f n = m at *
  obtain ⟨d, rfl⟩ : ∃ d, n = m + d := ⟨n - m, by omega⟩
  clear h2
  induction d with
  | zero => rfl
  | succ d ih => rw [← Nat.add_assoc, ypol_more (h _ (by omega) (by omega)), ih fun i h1 h2 => h i h1 (by omega)]
/-- What Canonical leaves. -/
theorem IsP.of (f : Nat → Int) (n : Nat) : IsP (dgN f n) (ctN f (dgN f n)) (fun x => ypol f n x) := by
  refine ⟨fun h => ?_, fun k hk => if_neg (by omega), fun x => ?_⟩
  · unfold ctN
    rw [if_pos (by omega)]
    exact dgN_top f n h
  · rw [ypol_cut, ypol_dg]
theorem IsP.nil {N : Nat} {F : Nat → Int} {e : Int → Int} (h : IsP N F e) (h0 : N = 0) (x : Int) : e x = 0 := by rw [← h.ev, h0, ypol_nil]
theorem IsP.zero : IsP 0 (fun _ => 0) (fun _ => 0) := ⟨fun h => by omega, fun _ _ => rfl, fun _ => rfl⟩
theorem mR_far (f g : Nat → Int) (m : Nat) : ∀ n t, n + m ≤ t + 1 → (∀ i, i < n → t < i + m → False) → mR f g m n t = 0
  | 0, _, _, _ => rfl
  | n + 1, t, h, h2 => by
    rw [mR, mR_far f g m n t (by omega) (fun i hi => h2 i (by omega)), if_neg]
    · omega
    · intro hh; exact h2 n (by omega) hh.2
/-- The leading coefficient of a product. -/
theorem mR_top (f g : Nat → Int) (m n : Nat) : mR f g (m + 1) (n + 1) (n + m) = f n * g m := by
  rw [mR, if_pos (by omega), Nat.add_sub_cancel_left]
  have : ∀ k, k ≤ n → mR f g (m + 1) k (n + m) = 0 := by
    intro k
    induction k with
    | zero => intro _; rfl
    | succ k ih => intro hk; rw [mR, ih (by omega), if_neg (by omega)]; rfl
  rw [this n (Nat.le_refl _)]; omega
/-- A product of canonical polynomials. -/
theorem IsP.mul {N M : Nat} {F G : Nat → Int} {e e' : Int → Int} (h : IsP N F e) (k : IsP M G e') (hN : 0 < N) (hM : 0 < M) : IsP (N + M - 1) (mR F G M N) (fun x => e x * e' x) := by
  obtain ⟨n, rfl⟩ : ∃ n, N = n + 1 := ⟨N - 1, by omega⟩
  obtain ⟨m, rfl⟩ : ∃ m, M = m + 1 := ⟨M - 1, by omega⟩
  refine ⟨fun _ => ?_, fun t ht => mR_far F G _ _ t (by omega) (fun i hi h2 => by omega), fun x => ?_⟩
  · rw [show n + 1 + (m + 1) - 1 - 1 = n + m from by omega, mR_top]
    intro h0
    rcases Int.mul_eq_zero.1 h0 with h1 | h1
    · exact h.top (by omega) h1
    · exact k.top (by omega) h1
  · rw [ypol_mR F G _ x _ _ fun i hi => by omega, h.ev, k.ev]
theorem IsP.mul0 {N M : Nat} {F G : Nat → Int} {e e' : Int → Int} (h : IsP N F e) (k : IsP M G e') (h0 : N = 0 ∨ M = 0) : IsP 0 (fun _ => 0) (fun x => e x * e' x) :=
  ⟨fun h => by omega, fun _ _ => rfl, fun x => by
    rcases h0 with h0 | h0
    · rw [h.nil h0, Int.zero_mul]; rfl
    · rw [k.nil h0, Int.mul_zero]; rfl⟩
/-- The degree of a product. -/
theorem IsP.deg {N M K : Nat} {F G H : Nat → Int} {e e' : Int → Int} (h : IsP N F e) (k : IsP M G e') (l : IsP K H (fun x => e x * e' x)) : (N = 0 ∨ M = 0 → K = 0) ∧ (0 < N → 0 < M → K = N + M - 1) :=
  ⟨fun h0 => (l.unique (h.mul0 k h0)).1, fun hN hM => (l.unique (h.mul k hN hM)).1⟩
end Go.Proofs.YtmbamcpndbimaaaDoor
namespace Go.Proofs.YtmbamcpndbimaaaDoor
theorem ypol_mono (a : Int) (i K : Nat) (h : i < K) (x : Int) : ypol (fun t => if t = i then a else 0) K x = a * x ^ i := by
  unfold ypol
  rw [dotN_congr (g := fun t => if t = i then a * x ^ i else 0) fun t _ => by
    show (if t = i then a else 0) * x ^ t = _
    by_cases h1 : t = i
    · rw [if_pos h1, if_pos h1, h1]
    · rw [if_neg h1, if_neg h1, Int.zero_mul]]
  exact dotN_one _ _ K h
theorem ypol_nought (K : Nat) (x : Int) : ypol (fun _ => 0) K x = 0 := by
  unfold ypol
  rw [dotN_congr (g := fun _ => 0) fun t _ => Int.zero_mul _, dotN_zero]
/-- Quotient and rest of the first rounds. -/
theorem dvS_ev {f g : Nat → Int} {n m : Nat} (hm : 0 < m) (hnm : m ≤ n) (x : Int) : ∀ j, j ≤ n - m + 1 →
    g (m - 1) ^ j * ypol f n x = ypol (dvS f g n m j).1 (n - m + 1) x * ypol g m x + ypol (dvS f g n m j).2 n x
  | 0, _ => by
    show _ = ypol (fun _ => 0) _ x * _ + ypol f n x
    rw [ypol_nought]
    simp
  | j + 1, hj => by
    have ih := dvS_ev (f := f) (g := g) hm hnm x j (by omega)
    obtain ⟨t, ht⟩ : ∃ t, (dvS f g n m j).2 (n - m - j + m - 1) = t := ⟨_, rfl⟩
    obtain ⟨i, hi⟩ : ∃ i, n - m - j = i := ⟨_, rfl⟩
    obtain ⟨c, hc⟩ : ∃ c, g (m - 1) = c := ⟨_, rfl⟩
    have e1 : ypol (dvS f g n m (j + 1)).1 (n - m + 1) x = c * ypol (dvS f g n m j).1 (n - m + 1) x + t * x ^ i := by
      rw [← ypol_smul, ← ypol_mono t i (n - m + 1) (by omega) x, ← ypol_add]
      refine ypol_congr x fun k _ => ?_
      dsimp only [dvS]
      rw [ht, hi, hc, Int.mul_comm]
    have e2 : ypol (dvS f g n m (j + 1)).2 n x = c * ypol (dvS f g n m j).2 n x + -t * x ^ i * ypol g m x := by
      rw [← ypol_smul, ← ypol_shift (-t) g i x m n (by omega), ← ypol_add]
      refine ypol_congr x fun k _ => ?_
      dsimp only [dvS]
      rw [ht, hi, hc, Int.mul_comm]
      by_cases h : i ≤ k ∧ k < i + m
      · rw [if_pos h, if_pos h, Int.neg_mul]; omega
      · rw [if_neg h, if_neg h]; omega
    rw [hc] at ih
    rw [e1, e2, hc, Int.pow_succ, show c ^ j * c * ypol f n x = c * (c ^ j * ypol f n x) from by rw [Int.mul_comm (c ^ j) c, Int.mul_assoc], ih]
    clear e1 e2 ih
    generalize ypol (dvS f g n m j).1 (n - m + 1) x = Q
    generalize ypol (dvS f g n m j).2 n x = R
    generalize ypol g m x = G
    generalize x ^ i = y
    clear ht hc hi
    grind
/-- The equation of the pseudo-division. -/
theorem dv_ev {f g : Nat → Int} {n m : Nat} (hm : 0 < m) (x : Int) :
    g (m - 1) ^ (n + 1 - m) * ypol f n x = ypol (dvQ f g n m) (dvLQ f g n m) x * ypol g m x + ypol (dvR f g n m) (dvLR f g n m) x := by
  unfold dvQ dvLQ dvR dvLR
  by_cases h : n < m
  · rw [if_pos h, if_pos h, if_pos h, show n + 1 - m = 0 from by omega, ypol_nil]
    simp
  · rw [if_neg h, if_neg h, if_neg h, ypol_dg, ypol_dg, show n + 1 - m = n - m + 1 from by omega]
    exact dvS_ev hm (by omega) x _ (Nat.le_refl _)
/-- A polynomial function. -/
def PF (e : Int → Int) : Prop := ∃ N F, IsP N F e
theorem IsP.pf {N : Nat} {F : Nat → Int} {e : Int → Int} (h : IsP N F e) : PF e := ⟨N, F, h⟩
theorem PF.of (f : Nat → Int) (n : Nat) : PF (fun x => ypol f n x) := (IsP.of f n).pf
theorem PF.congr {e e' : Int → Int} (h : PF e) (he : ∀ x, e x = e' x) : PF e' := by
  obtain ⟨N, F, h⟩ := h; exact ⟨N, F, h.congr he⟩
theorem PF.add {e e' : Int → Int} (h : PF e) (k : PF e') : PF (fun x => e x + e' x) := by
  obtain ⟨N, F, h⟩ := h
  obtain ⟨M, G, k⟩ := k
  refine (PF.of (fun j => F j + G j) (N + M)).congr fun x => ?_
  rw [ypol_add, h.far (by omega), k.far (by omega)]
theorem PF.mul {e e' : Int → Int} (h : PF e) (k : PF e') : PF (fun x => e x * e' x) := by
  obtain ⟨N, F, h⟩ := h
  obtain ⟨M, G, k⟩ := k
  by_cases h0 : N = 0 ∨ M = 0
  · exact (h.mul0 k h0).pf
  · exact (h.mul k (by omega) (by omega)).pf
theorem PF.const (c : Int) : PF (fun _ => c) := (PF.of (fun _ => c) 1).congr fun x => by simp [ypol, dotN]
theorem PF.x : PF (fun x => x) := (PF.of (fun j => if j = 1 then 1 else 0) 2).congr fun x => by simp [ypol, dotN, Int.pow_succ]
theorem PF.smul (c : Int) {e : Int → Int} (h : PF e) : PF (fun x => c * e x) := (PF.const c).mul h
theorem PF.sub {e e' : Int → Int} (h : PF e) (k : PF e') : PF (fun x => e x - e' x) := (h.add (k.smul (-1))).congr fun x => by omega
theorem IsP.smul {N : Nat} {F : Nat → Int} {e : Int → Int} (h : IsP N F e) {c : Int} (hc : c ≠ 0) : IsP N (fun j => c * F j) (fun x => c * e x) :=
  ⟨fun h0 h1 => by
    rcases Int.mul_eq_zero.1 h1 with h2 | h2
    · exact hc h2
    · exact h.top h0 h2, fun k hk => by show c * F k = 0; rw [h.out k hk, Int.mul_zero], fun x => by rw [ypol_smul, h.ev]⟩
theorem IsP.len_mul {N M K : Nat} {F G H : Nat → Int} {e e' s : Int → Int} (h : IsP N F e) (k : IsP M G e') (l : IsP K H s) (hs : ∀ x, s x = e x * e' x) : (N = 0 ∨ M = 0 → K = 0) ∧ (0 < N → 0 < M → K = N + M - 1) := h.deg k (l.congr hs)
/-- What a greatest common divisor over the rationals is. -/
structure CD (a b g : Int → Int) : Prop where
  left : ∃ k s, k ≠ 0 ∧ PF s ∧ ∀ x, k * a x = s x * g x
  right : ∃ k s, k ≠ 0 ∧ PF s ∧ ∀ x, k * b x = s x * g x
  bez : ∃ k u v, k ≠ 0 ∧ PF u ∧ PF v ∧ ∀ x, k * g x = u x * a x + v x * b x
theorem CD.zero {a b : Int → Int} (hb : ∀ x, b x = 0) : CD a b a :=
  ⟨⟨1, fun _ => 1, by decide, PF.const 1, fun x => rfl⟩, ⟨1, fun _ => 0, by decide, PF.const 0, fun x => by rw [hb]; simp⟩, 1, fun _ => 1, fun _ => 0, by decide, PF.const 1, PF.const 0, fun x => by rw [hb]; simp⟩
theorem mul_ne {a b : Int} (ha : a ≠ 0) (hb : b ≠ 0) : a * b ≠ 0 := fun h => by
  rcases Int.mul_eq_zero.1 h with h | h
  · exact ha h
  · exact hb h
/-- A step of Euclid's algorithm: c a = q b + l r. -/
theorem CD.step {a b r g q : Int → Int} {c l : Int} (h : CD b r g) (hq : PF q) (hc : c ≠ 0) (hl : l ≠ 0) (he : ∀ x, c * a x = q x * b x + l * r x) : CD a b g := by
  obtain ⟨⟨k1, s1, hk1, hs1, e1⟩, ⟨k2, s2, hk2, hs2, e2⟩, k, u, v, hk, hu, hv, e3⟩ := h
  refine ⟨⟨k1 * k2 * c, fun x => k2 * (q x * s1 x) + k1 * (l * s2 x), mul_ne (mul_ne hk1 hk2) hc, ((hq.mul hs1).smul k2).add ((hs2.smul l).smul k1), fun x => ?_⟩, ⟨k1, s1, hk1, hs1, e1⟩, l * k, fun x => c * v x, fun x => l * u x - q x * v x, mul_ne hl hk, hv.smul c, (hu.smul l).sub (hq.mul hv), fun x => ?_⟩
  · have h1 := he x; have h2 := e1 x; have h3 := e2 x
    rw [show k1 * k2 * c * a x = k1 * k2 * (c * a x) from by rw [Int.mul_assoc], h1]
    grind
  · have h1 := he x; have h3 := e3 x
    rw [show l * k * g x = l * (k * g x) from by rw [Int.mul_assoc], h3]
    grind
/-- Two greatest common divisors divide each other. -/
theorem CD.dvd {a b g h : Int → Int} (hg : CD a b g) (hh : CD a b h) : ∃ k s, k ≠ 0 ∧ PF s ∧ ∀ x, k * g x = s x * h x := by
  obtain ⟨_, _, k, u, v, hk, hu, hv, e3⟩ := hg
  obtain ⟨⟨k1, s1, hk1, hs1, e1⟩, ⟨k2, s2, hk2, hs2, e2⟩, _⟩ := hh
  refine ⟨k1 * k2 * k, fun x => k2 * (u x * s1 x) + k1 * (v x * s2 x), mul_ne (mul_ne hk1 hk2) hk, ((hu.mul hs1).smul _).add ((hv.mul hs2).smul _), fun x => ?_⟩
  have h1 := e1 x; have h2 := e2 x; have h3 := e3 x
  rw [show k1 * k2 * k * g x = k1 * k2 * (k * g x) from by rw [Int.mul_assoc], h3]
  grind
end Go.Proofs.YtmbamcpndbimaaaDoor
