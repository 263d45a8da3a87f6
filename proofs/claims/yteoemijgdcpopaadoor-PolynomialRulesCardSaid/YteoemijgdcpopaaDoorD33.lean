/- Primitive polynomials and the greatest common divisor: plain laws. Gauss's lemma: a product of primitive polynomials is primitive. -/
import Derived.Test.YteoemijgdcpopaaDoorD32
namespace Go.Proofs.YteoemijgdcpopaaDoor
/-- A primitive polynomial: the coefficients have no common divisor, the leading one is positive. -/
structure Prim (N : Nat) (F : Nat → Int) : Prop where
  pos : 0 < N
  lead : 0 < F (N - 1)
  one : gcN F N = 1
theorem gcN_congr {f g : Nat → Int} : ∀ {n : Nat}, (∀ k, k < n → f k = g k) → gcN f n = gcN g n
  | 0, _ => rfl
  | n + 1, h => by rw [gcN, gcN, h n (by omega), gcN_congr fun k hk => h k (by omega)]
theorem gcN_scale (c : Int) (f : Nat → Int) : ∀ n, gcN (fun j => c * f j) n = c.natAbs * gcN f n
  | 0 => rfl
  | n + 1 => by rw [gcN, gcN, gcN_scale c f n, Int.natAbs_mul, Nat.gcd_mul_left]
theorem Prim.congr {N : Nat} {F G : Nat → Int} (h : Prim N F) (he : ∀ k, k < N → F k = G k) : Prim N G :=
  ⟨h.pos, by rw [← he _ (by have := h.pos; omega)]; exact h.lead, by rw [← gcN_congr he]; exact h.one⟩
theorem Prim.ct {N : Nat} {F : Nat → Int} (h : Prim N F) : Prim N (ctN F N) := h.congr fun _ hk => (if_pos hk).symm
theorem prG_ne {f : Nat → Int} {n : Nat} (h0 : 0 < n) (h : f (n - 1) ≠ 0) : prG f n ≠ 0 := by
  have h1 := gcN_ne (show n - 1 < n by omega) h
  unfold prG
  split <;> omega
theorem prG_dvd (f : Nat → Int) {n k : Nat} (hk : k < n) : prG f n ∣ f k := by
  unfold prG
  split
  · exact Int.neg_dvd.2 (gcN_dvd f n _ hk)
  · exact gcN_dvd f n _ hk
theorem prC_mul (f : Nat → Int) {n k : Nat} (hk : k < n) : prG f n * prC f n k = f k := Int.mul_ediv_cancel' (prG_dvd f hk)
theorem prG_abs (f : Nat → Int) (n : Nat) : (prG f n).natAbs = gcN f n := by unfold prG; split <;> omega
theorem prC_prim {f : Nat → Int} {n : Nat} (h0 : 0 < n) (h : f (n - 1) ≠ 0) : Prim n (prC f n) := by
  have h1 := gcN_ne (show n - 1 < n by omega) h
  refine ⟨h0, ?_, ?_⟩
  · have h2 := prC_mul f (show n - 1 < n by omega)
    unfold prG at h2
    split at h2
    · rename_i h3
      refine Classical.byContradiction fun h4 => ?_
      have h5 : 0 ≤ -(gcN f n : Int) * prC f n (n - 1) := Int.mul_nonneg_of_nonpos_of_nonpos (by omega) (by omega)
      omega
    · rename_i h3
      refine Classical.byContradiction fun h4 => ?_
      have h5 : (gcN f n : Int) * prC f n (n - 1) ≤ 0 := Int.mul_nonpos_of_nonneg_of_nonpos (by omega) (by omega)
      omega
  · have h2 : gcN f n = gcN (fun j => prG f n * prC f n j) n := gcN_congr fun k hk => (prC_mul f hk).symm
    rw [gcN_scale, prG_abs] at h2
    have h3 : gcN f n * gcN (prC f n) n = gcN f n * 1 := by omega
    exact Nat.eq_of_mul_eq_mul_left (by omega) h3
theorem ypol_prC {f : Nat → Int} {n : Nat} (h : 0 < n → f (n - 1) ≠ 0) : ∃ l, l ≠ 0 ∧ ∀ x, ypol f n x = l * ypol (prC f n) n x := by
  rcases Nat.eq_zero_or_pos n with h0 | h0
  · exact ⟨1, by decide, fun x => by rw [h0, ypol_nil, ypol_nil]; rfl⟩
  · refine ⟨prG f n, prG_ne h0 (h h0), fun x => ?_⟩
    rw [← ypol_smul]
    exact ypol_congr x fun k hk => (prC_mul f hk).symm
/-- Primitive polynomials that differ by factors are the same. -/
theorem Prim.assoc {N M : Nat} {F G : Nat → Int} {e e' : Int → Int} (h : Prim N F) (k : Prim M G) (hF : IsP N F e) (hG : IsP M G e') {a b : Int} (ha : a ≠ 0) (hb : b ≠ 0) (he : ∀ x, a * e x = b * e' x) : ∀ x, e x = e' x := by
  obtain ⟨h1, h2⟩ := (hF.smul ha).unique ((hG.smul hb).congr fun x => (he x).symm)
  subst h1
  have h3 : ∀ j, a * F j = b * G j := fun j => congrFun h2 j
  have h4 : gcN (fun j => a * F j) N = gcN (fun j => b * G j) N := gcN_congr fun j _ => h3 j
  rw [gcN_scale, gcN_scale, h.one, k.one, Nat.mul_one, Nat.mul_one] at h4
  have h5 := h3 (N - 1)
  have h6 := h.lead
  have h7 := k.lead
  have h8 : a = b := by
    rcases (show a = b ∨ a = -b by omega) with h8 | h8
    · exact h8
    · rw [h8, Int.neg_mul] at h5
      have : b * (F (N - 1) + G (N - 1)) = 0 := by rw [Int.mul_add]; omega
      rcases Int.mul_eq_zero.1 this with h9 | h9
      · exact absurd h9 hb
      · omega
  intro x
  have := he x
  rw [h8] at this
  exact Int.eq_of_mul_eq_mul_left hb this
/-- Euclid's algorithm. -/
theorem gcS_cd : ∀ (k n m : Nat) (f g : Nat → Int), m ≤ k → (0 < n → Prim n f) → (0 < m → Prim m g) → (0 < n ∨ 0 < m) →
    Prim (gcS k n f m g).1 (gcS k n f m g).2 ∧ CD (fun x => ypol f n x) (fun x => ypol g m x) (fun x => ypol (gcS k n f m g).2 (gcS k n f m g).1 x)
  | k, n, 0, f, g, _, hf, _, h0 => by
    rw [gcS_end]
    exact ⟨hf (by omega), CD.zero fun x => ypol_nil g x⟩
  | 0, n, m + 1, f, g, h, _, _, _ => by omega
  | k + 1, n, m + 1, f, g, hk, hf, hg, h0 => by
    rw [gcS, if_neg (by omega)]
    by_cases hnm : n < m + 1
    · rw [if_pos hnm]
      obtain ⟨h1, h2⟩ := gcS_cd k (m + 1) n g f (by omega) hg hf (by omega)
      exact ⟨h1, h2.swap⟩
    · rw [if_neg hnm]
      have hlt := dvLR_lt (f := f) (g := g) (show 0 < m + 1 by omega) hnm
      have hrt := dvR_top (f := f) (g := g) hnm
      obtain ⟨h1, h2⟩ := gcS_cd k (m + 1) (dvLR f g n (m + 1)) g (prC (dvR f g n (m + 1)) (dvLR f g n (m + 1))) (by omega) hg (fun h => prC_prim h (hrt h)) (by omega)
      refine ⟨h1, ?_⟩
      obtain ⟨l, hl, he⟩ := ypol_prC hrt
      have hc : g (m + 1 - 1) ≠ 0 := by have := (hg (by omega)).lead; omega
      refine h2.step (q := fun x => ypol (dvQ f g n (m + 1)) (dvLQ f g n (m + 1)) x) (c := g (m + 1 - 1) ^ (n + 1 - (m + 1))) (l := l) (PF.of _ _) (Int.pow_ne_zero hc) hl fun x => ?_
      rw [← he x]
      exact dv_ev (by omega) x
theorem gcR_cd {f g : Nat → Int} {n m : Nat} (hf : 0 < n → f (n - 1) ≠ 0) (hg : 0 < m → g (m - 1) ≠ 0) (h0 : 0 < n ∨ 0 < m) :
    Prim (gcR f g n m).1 (gcR f g n m).2 ∧ CD (fun x => ypol f n x) (fun x => ypol g m x) (fun x => ypol (gcR f g n m).2 (gcR f g n m).1 x) := by
  obtain ⟨h1, h2⟩ := gcS_cd m n m (prC f n) (prC g m) (Nat.le_refl _) (fun h => prC_prim h (hf h)) (fun h => prC_prim h (hg h)) h0
  obtain ⟨l, hl, he⟩ := ypol_prC hf
  obtain ⟨l', hl', he'⟩ := ypol_prC hg
  exact ⟨h1, h2.scale (c := 1) (d := 1) (by decide) (by decide) hl hl' (fun x => by rw [he]; omega) (fun x => by rw [he']; omega)⟩
/-- What Gcd hands back. -/
structure GcP (ea eb : Int → Int) (N : Nat) (H : Nat → Int) (e : Int → Int) : Prop where
  nil : (∀ x, ea x = 0) → (∀ x, eb x = 0) → N = 0
  prim : ¬ ((∀ x, ea x = 0) ∧ ∀ x, eb x = 0) → Prim N H
  cd : ¬ ((∀ x, ea x = 0) ∧ ∀ x, eb x = 0) → CD ea eb e
theorem CD.congr {a b g a' b' g' : Int → Int} (h : CD a b g) (ha : ∀ x, a x = a' x) (hb : ∀ x, b x = b' x) (hg : ∀ x, g x = g' x) : CD a' b' g' := by
  rw [show a' = a from funext fun x => (ha x).symm, show b' = b from funext fun x => (hb x).symm, show g' = g from funext fun x => (hg x).symm]
  exact h
/-- Greatest common divisors that are primitive are the same. -/
theorem CD.unique {a b g h : Int → Int} (hg : CD a b g) (hh : CD a b h) {N M : Nat} {F G : Nat → Int} (kF : IsP N F g) (kG : IsP M G h) (pF : Prim N F) (pG : Prim M G) : ∀ x, g x = h x := by
  obtain ⟨k1, s1, hk1, hs1, e1⟩ := hg.dvd hh
  obtain ⟨k2, s2, hk2, hs2, e2⟩ := hh.dvd hg
  obtain ⟨K1, S1, i1⟩ := hs1
  obtain ⟨K2, S2, i2⟩ := hs2
  have l1 := i1.len_mul kG (kF.smul hk1) e1
  have l2 := i2.len_mul kF (kG.smul hk2) e2
  have p1 := pF.pos
  have p2 := pG.pos
  have q1 : 0 < K1 := by
    rcases Nat.eq_zero_or_pos K1 with h0 | h0
    · have := l1.1 (.inl h0); omega
    · exact h0
  have q2 : 0 < K2 := by
    rcases Nat.eq_zero_or_pos K2 with h0 | h0
    · have := l2.1 (.inl h0); omega
    · exact h0
  have r1 := l1.2 q1 p2
  have r2 := l2.2 q2 p1
  have hc : ∀ x, s1 x = S1 0 := fun x => by
    rw [← i1.ev x, show K1 = 1 from by omega]
    simp [ypol, dotN]
  have hc0 : S1 0 ≠ 0 := by have := i1.top (by omega); rwa [show K1 - 1 = 0 from by omega] at this
  exact pF.assoc pG kF kG hk1 hc0 fun x => by rw [e1, hc]
end Go.Proofs.YteoemijgdcpopaaDoor
namespace Go.Proofs.YteoemijgdcpopaaDoor
theorem least_nat {P : Nat → Prop} : ∀ n, P n → ∃ m, P m ∧ ∀ k, k < m → ¬ P k := by
  intro n
  induction n using Nat.strongRecOn with
  | ind n ih =>
    intro h
    by_cases h1 : ∃ k, k < n ∧ P k
    · obtain ⟨k, hk, hp⟩ := h1
      exact ih k hk hp
    · exact ⟨n, h, fun k hk hp => h1 ⟨k, hk, hp⟩⟩
theorem gcN_all {f : Nat → Int} {p : Nat} : ∀ {n : Nat}, (∀ k, k < n → (p : Int) ∣ f k) → p ∣ gcN f n
  | 0, _ => ⟨0, rfl⟩
  | n + 1, h => by
    rw [gcN]
    refine Nat.dvd_gcd (gcN_all fun k hk => h k (by omega)) ?_
    have := Int.natAbs_dvd_natAbs.2 (h n (by omega))
    rwa [Int.natAbs_natCast] at this
/-- The least divisor of a number is prime. -/
theorem least_prime {d p : Nat} (hp : 1 < p) (hd : p ∣ d) (hl : ∀ q, q < p → ¬ (1 < q ∧ q ∣ d)) {a b : Int} (h : (p : Int) ∣ a * b) : (p : Int) ∣ a ∨ (p : Int) ∣ b := by
  have h1 : p ∣ a.natAbs * b.natAbs := by
    have := Int.natAbs_dvd_natAbs.2 h
    rwa [Int.natAbs_natCast, Int.natAbs_mul] at this
  have h2 : Nat.gcd p a.natAbs ∣ p := Nat.gcd_dvd_left _ _
  have h3 : Nat.gcd p a.natAbs ≤ p := Nat.le_of_dvd (by omega) h2
  have h4 : 0 < Nat.gcd p a.natAbs := Nat.gcd_pos_of_pos_left _ (by omega)
  by_cases h5 : Nat.gcd p a.natAbs = 1
  · right
    exact Int.ofNat_dvd_left.2 (Nat.Coprime.dvd_of_dvd_mul_left h5 h1)
  · left
    have h6 : ¬ Nat.gcd p a.natAbs < p := fun h7 => hl _ h7 ⟨by omega, Nat.dvd_trans h2 hd⟩
    have h7 : Nat.gcd p a.natAbs = p := by omega
    have h8 : Nat.gcd p a.natAbs ∣ a.natAbs := Nat.gcd_dvd_right _ _
    rw [h7] at h8
    exact Int.ofNat_dvd_left.2 h8
theorem not_all {f : Nat → Int} {n p : Nat} (hp : 1 < p) (h : gcN f n = 1) : ∃ i, (i < n ∧ ¬ (p : Int) ∣ f i) ∧ ∀ k, k < i → ¬ (k < n ∧ ¬ (p : Int) ∣ f k) := by
  have h1 : ∃ i, i < n ∧ ¬ (p : Int) ∣ f i := by
    apply Classical.byContradiction
    intro h2
    have : p ∣ gcN f n := gcN_all fun k hk => Classical.byContradiction fun h3 => h2 ⟨k, hk, h3⟩
    rw [h] at this
    have := Nat.le_of_dvd (by omega) this
    omega
  obtain ⟨i, hi⟩ := h1
  exact least_nat (P := fun i => i < n ∧ ¬ (p : Int) ∣ f i) i hi
theorem mR_mod {f g : Nat → Int} {m p i j : Nat} (hj : j < m) (hf : ∀ k, k < i → (p : Int) ∣ f k) (hg : ∀ k, k < j → (p : Int) ∣ g k) : ∀ n, (p : Int) ∣ mR f g m n (i + j) - if i < n then f i * g j else 0
  | 0 => by rw [if_neg (by omega)]; exact ⟨0, by simp [mR]⟩
  | n + 1 => by
    have ih := mR_mod (m := m) hj hf hg n
    rw [mR]
    rcases Nat.lt_trichotomy n i with h | h | h
    · rw [if_neg (show ¬ i < n by omega)] at ih
      rw [if_neg (show ¬ i < n + 1 by omega)]
      have h2 : (p : Int) ∣ if n ≤ i + j ∧ i + j < n + m then f n * g (i + j - n) else 0 := by
        split
        · exact Int.dvd_trans (hf n h) (Int.dvd_mul_right ..)
        · exact Int.dvd_zero _
      have := Int.dvd_add ih h2
      rwa [show ∀ a b : Int, a - 0 + b = a + b - 0 from fun a b => by omega] at this
    · subst h
      rw [if_neg (Nat.lt_irrefl _)] at ih
      rw [if_pos (show n < n + 1 by omega), if_pos (show n ≤ n + j ∧ n + j < n + m by omega), Nat.add_sub_cancel_left]
      rwa [show ∀ a b : Int, a + b - b = a - 0 from fun a b => by omega]
    · rw [if_pos (show i < n by omega)] at ih
      rw [if_pos (show i < n + 1 by omega)]
      have h2 : (p : Int) ∣ if n ≤ i + j ∧ i + j < n + m then f n * g (i + j - n) else 0 := by
        split
        · exact Int.dvd_trans (hg (i + j - n) (by omega)) (Int.dvd_mul_left ..)
        · exact Int.dvd_zero _
      have := Int.dvd_add ih h2
      rwa [show ∀ a b c : Int, a - c + b = a + b - c from fun a b c => by omega] at this
theorem Prim.mul {N M : Nat} {F G : Nat → Int} (h : Prim N F) (k : Prim M G) : Prim (N + M - 1) (mR F G M N) := by
  have hN := h.pos
  have hM := k.pos
  have hlead : 0 < mR F G M N (N + M - 1 - 1) := by
    obtain ⟨n, rfl⟩ : ∃ n, N = n + 1 := ⟨N - 1, by omega⟩
    obtain ⟨m, rfl⟩ : ∃ m, M = m + 1 := ⟨M - 1, by omega⟩
    rw [show n + 1 + (m + 1) - 1 - 1 = n + m from by omega, mR_top]
    exact Int.mul_pos h.lead k.lead
  refine ⟨by omega, hlead, ?_⟩
  apply Classical.byContradiction
  intro h1
  have h0 := gcN_ne (f := mR F G M N) (n := N + M - 1) (k := N + M - 1 - 1) (by omega) (by omega)
  obtain ⟨d, hd⟩ : ∃ d, gcN (mR F G M N) (N + M - 1) = d := ⟨_, rfl⟩
  rw [hd] at h1 h0
  obtain ⟨p, ⟨hp1, hpd⟩, hl⟩ := least_nat (P := fun q => 1 < q ∧ q ∣ d) d ⟨by omega, Nat.dvd_refl _⟩
  obtain ⟨i, ⟨hi, hpi⟩, hil⟩ := not_all hp1 h.one
  obtain ⟨j, ⟨hj, hpj⟩, hjl⟩ := not_all hp1 k.one
  have h2 := mR_mod (f := F) (g := G) (p := p) (i := i) hj (fun k hk => Classical.byContradiction fun h3 => hil k hk ⟨by omega, h3⟩) (fun k hk => Classical.byContradiction fun h3 => hjl k hk ⟨by omega, h3⟩) N
  rw [if_pos hi] at h2
  have h3 : (p : Int) ∣ mR F G M N (i + j) := by
    have h4 := gcN_dvd (mR F G M N) (N + M - 1) (i + j) (by omega)
    rw [hd] at h4
    exact Int.dvd_trans (Int.natCast_dvd_natCast.2 hpd) h4
  have h5 : (p : Int) ∣ F i * G j := by
    have := Int.dvd_sub h3 h2
    rwa [show ∀ a b : Int, a - (a - b) = b from fun a b => by omega] at this
  rcases least_prime hp1 hpd hl h5 with h6 | h6
  · exact hpi h6
  · exact hpj h6
end Go.Proofs.YteoemijgdcpopaaDoor
