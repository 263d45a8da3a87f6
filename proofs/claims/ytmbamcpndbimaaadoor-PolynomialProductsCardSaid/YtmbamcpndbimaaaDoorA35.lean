/- Primitive polynomials and the greatest common divisor: plain laws. Siegel's lemma by the pigeonhole principle: a small solution of integer equations. -/
import Derived.Test.YtmbamcpndbimaaaDoorA34
namespace Go.Proofs.YtmbamcpndbimaaaDoor
/-- A primitive polynomial: the coefficients have no common divisor, the leading one is positive. -/
structure Prim (N : Nat) (F : Nat → Int) : Prop where
  pos : 0 < N
  lead : 0 < F (N - 1)
  one : gcN F N = 1
theorem gcN_congr {f g : Nat → Int} : ∀ {n : Nat}, (∀ k, k < n → f k = g k) → gcN f n = gcN g n
  | 0, _ => rfl
  | n + 1, h => by rw [gcN, gcN, h n (by omega), gcN_congr fun k hk => h k (by omega)]
theorem gcN_scale (c : Int) (f : Nat → Int) : ∀ n, gcN (fun j => c * f j) n = c.natAbs * gcN f n
  | 0 => rfl
  | n + 1 => by rw [gcN, gcN, gcN_scale c f n, Int.natAbs_mul, Nat.gcd_mul_left]
theorem Prim.congr {N : Nat} {F G : Nat → Int} (h : Prim N F) (he : ∀ k, k < N → F k = G k) : Prim N G :=
  ⟨h.pos, by rw [← he _ (by have := h.pos; omega)]; exact h.lead, by rw [← gcN_congr he]; exact h.one⟩
theorem prG_ne {f : Nat → Int} {n : Nat} (h0 : 0 < n) (h : f (n - 1) ≠ 0) : prG f n ≠ 0 := by
  have h1 := gcN_ne (show n - 1 < n by omega) h
  unfold prG
  split <;> omega
theorem prG_dvd (f : Nat → Int) {n k : Nat} (hk : k < n) : prG f n ∣ f k := by
  unfold prG
  split
  · exact Int.neg_dvd.2 (gcN_dvd f n _ hk)
  · exact gcN_dvd f n _ hk
theorem prC_mul (f : Nat → Int) {n k : Nat} (hk : k < n) : prG f n * prC f n k = f k := Int.mul_ediv_cancel' (prG_dvd f hk)
theorem prG_abs (f : Nat → Int) (n : Nat) : (prG f n).natAbs = gcN f n := by unfold prG; split <;> omega
theorem prC_prim {f : Nat → Int} {n : Nat} (h0 : 0 < n) (h : f (n - 1) ≠ 0) : Prim n (prC f n) := by
  have h1 := gcN_ne (show n - 1 < n by omega) h
  refine ⟨h0, ?_, ?_⟩
  · have h2 := prC_mul f (show n - 1 < n by omega)
    unfold prG at h2
    split at h2
    · rename_i h3
      refine Classical.byContradiction fun h4 => ?_
      have h5 : 0 ≤ -(gcN f n : Int) * prC f n (n - 1) := Int.mul_nonneg_of_nonpos_of_nonpos (by omega) (by omega)
      omega
    · rename_i h3
      refine Classical.byContradiction fun h4 => ?_
      have h5 : (gcN f n : Int) * prC f n (n - 1) ≤ 0 := Int.mul_nonpos_of_nonneg_of_nonpos (by omega) (by omega)
      omega
  · have h2 : gcN f n = gcN (fun j => prG f n * prC f n j) n := gcN_congr fun k hk => (prC_mul f hk).symm
    rw [gcN_scale, prG_abs] at h2
    have h3 : gcN f n * gcN (prC f n) n = gcN f n * 1 := by omega
    exact Nat.eq_of_mul_eq_mul_left (by omega) h3
theorem ypol_prC {f : Nat → Int} {n : Nat} (h : 0 < n → f (n - 1) ≠ 0) : ∃ l, l ≠ 0 ∧ ∀ x, ypol f n x = l * ypol (prC f n) n x := by
  rcases Nat.eq_zero_or_pos n with h0 | h0
  · exact ⟨1, by decide, fun x => by rw [h0, ypol_nil, ypol_nil]; rfl⟩
  · refine ⟨prG f n, prG_ne h0 (h h0), fun x => ?_⟩
    rw [← ypol_smul]
    exact ypol_congr x fun k hk => (prC_mul f hk).symm
/-- Primitive polynomials that differ by factors are the same. -/
theorem Prim.assoc {N M : Nat} {F G : Nat → Int} {e e' : Int → Int} (h : Prim N F) (k : Prim M G) (hF : IsP N F e) (hG : IsP M G e') {a b : Int} (ha : a ≠ 0) (hb : b ≠ 0) (he : ∀ x, a * e x = b * e' x) : ∀ x, e x = e' x := by
  obtain ⟨h1, h2⟩ := (hF.smul ha).unique ((hG.smul hb).congr fun x => (he x).symm)
  subst h1
  have h3 : ∀ j, a * F j = b * G j := fun j => congrFun h2 j
  have h4 : gcN (fun j => a * F j) N = gcN (fun j => b * G j) N := gcN_congr fun j _ => h3 j
  rw [gcN_scale, gcN_scale, h.one, k.one, Nat.mul_one, Nat.mul_one] at h4
  have h5 := h3 (N - 1)
  have h6 := h.lead
  have h7 := k.lead
  have h8 : a = b := by
    rcases (show a = b ∨ a = -b by omega) with h8 | h8
    · exact h8
    · rw [h8, Int.neg_mul] at h5
      have : b * (F (N - 1) + G (N - 1)) = 0 := by rw [Int.mul_add]; omega
      rcases Int.mul_eq_zero.1 this with h9 | h9
      · exact absurd h9 hb
      · omega
  intro x
  have := he x
  rw [h8] at this
  exact Int.eq_of_mul_eq_mul_left hb this
theorem CD.congr {a b g a' b' g' : Int → Int} (h : CD a b g) (ha : ∀ x, a x = a' x) (hb : ∀ x, b x = b' x) (hg : ∀ x, g x = g' x) : CD a' b' g' := by
  rw [show a' = a from funext fun x => (ha x).symm, show b' = b from funext fun x => (hb x).symm, show g' = g from funext fun x => (hg x).symm]
  exact h
/-- Greatest common divisors that are primitive are the same. -/
theorem CD.unique {a b g h : Int → Int} (hg : CD a b g) (hh : CD a b h) {N M : Nat} {F G : Nat → Int} (kF : IsP N F g) (kG : IsP M G h) (pF : Prim N F) (pG : Prim M G) : ∀ x, g x = h x := by
  obtain ⟨k1, s1, hk1, hs1, e1⟩ := hg.dvd hh
  obtain ⟨k2, s2, hk2, hs2, e2⟩ := hh.dvd hg
  obtain ⟨K1, S1, i1⟩ := hs1
  obtain ⟨K2, S2, i2⟩ := hs2
  have l1 := i1.len_mul kG (kF.smul hk1) e1
  have l2 := i2.len_mul kF (kG.smul hk2) e2
  have p1 := pF.pos
  have p2 := pG.pos
  have q1 : 0 < K1 := by
    rcases Nat.eq_zero_or_pos K1 with h0 | h0
    · have := l1.1 (.inl h0); omega
    · exact h0
  have q2 : 0 < K2 := by
    rcases Nat.eq_zero_or_pos K2 with h0 | h0
    · have := l2.1 (.inl h0); omega
    · exact h0
  have r1 := l1.2 q1 p2
  have r2 := l2.2 q2 p1
  have hc : ∀ x, s1 x = S1 0 := fun x => by
    rw [← i1.ev x, show K1 = 1 from by omega]
    simp [ypol, dotN]
  have hc0 : S1 0 ≠ 0 := by have := i1.top (by omega); rwa [show K1 - 1 = 0 from by omega] at this
  exact pF.assoc pG kF kG hk1 hc0 fun x => by rw [e1, hc]
end Go.Proofs.YtmbamcpndbimaaaDoor
namespace Go.Proofs.YtmbamcpndbimaaaDoor
/-- The pigeonhole principle. -/
theorem pigeon : ∀ (b a : Nat) (f : Nat → Nat), (∀ i, i < a → f i < b) → b < a → ∃ i j, i < j ∧ j < a ∧ f i = f j
  | 0, a, f, h, hb => absurd (h 0 hb) (by omega)
  | b + 1, a, f, h, hb => by
    obtain ⟨c, rfl⟩ : ∃ c, a = c + 1 := ⟨a - 1, by omega⟩
    by_cases h0 : ∃ i, i < c ∧ f i = f c
    · obtain ⟨i, hi, he⟩ := h0
      exact ⟨i, c, hi, by omega, he⟩
    · have hne : ∀ i, i < c → f i ≠ f c := fun i hi he => h0 ⟨i, hi, he⟩
      obtain ⟨i, j, hij, hj, he⟩ := pigeon b c (fun i => if f i = b then f c else f i) (fun i hi => by
        have h1 := h i (by omega)
        have h2 := h c (by omega)
        have h3 := hne i hi
        show (if f i = b then f c else f i) < b
        split <;> omega) (by omega)
      refine ⟨i, j, hij, by omega, ?_⟩
      have h1 := hne i (by omega)
      have h2 := hne j hj
      have he' : (if f i = b then f c else f i) = if f j = b then f c else f j := he
      split at he' <;> split at he' <;> omega
/-- The number with these digits, the first one the least. -/
def nmB (B : Nat) : Nat → (Nat → Nat) → Nat
  | 0, _ => 0
  | n + 1, y => y 0 + B * nmB B n fun i => y (i + 1)
theorem nmB_lt {B : Nat} : ∀ (n : Nat) (y : Nat → Nat), (∀ i, i < n → y i < B) → nmB B n y < B ^ n
  | 0, _, _ => Nat.one_pos
  | n + 1, y, h => by
    have h1 := nmB_lt n (fun i => y (i + 1)) fun i hi => h (i + 1) (by omega)
    have h0 := h 0 (by omega)
    rw [nmB, Nat.pow_succ, Nat.mul_comm (B ^ n)]
    have h2 : B * (nmB B n (fun i => y (i + 1)) + 1) ≤ B * B ^ n := Nat.mul_le_mul_left _ h1
    rw [Nat.mul_add] at h2
    omega
theorem nmB_inj {B : Nat} : ∀ (n : Nat) (y z : Nat → Nat), (∀ i, i < n → y i < B) → (∀ i, i < n → z i < B) → nmB B n y = nmB B n z → ∀ i, i < n → y i = z i
  | 0, _, _, _, _, _, i, hi => by omega
  | n + 1, y, z, hy, hz, h, i, hi => by
    rw [nmB, nmB] at h
    have h1 := hy 0 (by omega)
    have h2 := hz 0 (by omega)
    have h3 := congrArg (· % B) h
    have h4 := congrArg (· / B) h
    have hB : 0 < B := by omega
    rw [Nat.add_mul_mod_self_left, Nat.add_mul_mod_self_left, Nat.mod_eq_of_lt h1, Nat.mod_eq_of_lt h2] at h3
    rw [Nat.add_mul_div_left _ _ hB, Nat.add_mul_div_left _ _ hB, Nat.div_eq_of_lt h1, Nat.div_eq_of_lt h2, Nat.zero_add, Nat.zero_add] at h4
    cases i with
    | zero => exact h3
    | succ i => exact nmB_inj n _ _ (fun i hi => hy (i + 1) (by omega)) (fun i hi => hz (i + 1) (by omega)) h4 i (by omega)
/-- Digit i of t. -/
def dgB (B t i : Nat) : Nat := t / B ^ i % B
theorem dgB_lt {B : Nat} (h : 0 < B) (t i : Nat) : dgB B t i < B := Nat.mod_lt _ h
theorem dgB_nm {B : Nat} (hB : 0 < B) : ∀ (n t : Nat), t < B ^ n → nmB B n (dgB B t) = t
  | 0, t, h => by
    rw [Nat.pow_zero] at h
    rw [nmB]; omega
  | n + 1, t, h => by
    have h1 : t / B < B ^ n := by
      rw [Nat.div_lt_iff_lt_mul hB, ← Nat.pow_succ]; exact h
    have h2 := dgB_nm hB n (t / B) h1
    rw [nmB, show (fun i => dgB B t (i + 1)) = dgB B (t / B) from funext fun i => by
      unfold dgB
      rw [Nat.pow_succ, Nat.mul_comm, ← Nat.div_div_eq_div_mul], h2]
    unfold dgB
    rw [Nat.pow_zero, Nat.div_one]
    exact Nat.mod_add_div t B
theorem dotN_abs {f : Nat → Int} {X : Nat} : ∀ n, (∀ j, j < n → (f j).natAbs ≤ X) → (dotN f n).natAbs ≤ n * X
  | 0, _ => by simp [dotN]
  | n + 1, h => by
    have h1 := dotN_abs n fun j hj => h j (by omega)
    have h2 := h n (by omega)
    rw [dotN, Nat.add_mul, Nat.one_mul]
    omega
theorem dotN_sub (f g : Nat → Int) : ∀ n, dotN (fun j => f j - g j) n = dotN f n - dotN g n
  | 0 => rfl
  | n + 1 => by rw [dotN, dotN, dotN, dotN_sub f g n]; omega
/-- Siegel's lemma, one unknown more than equations. -/
theorem siegel (M A : Nat) (hA : 0 < A) (C : Nat → Nat → Int) (hC : ∀ i j, i < M → j < M + 1 → (C i j).natAbs ≤ A) :
    ∃ x : Nat → Int, (∃ j, j < M + 1 ∧ x j ≠ 0) ∧ (∀ j, (x j).natAbs ≤ (2 * ((M + 1) * A)) ^ M) ∧ (∀ j, M < j → x j = 0) ∧ ∀ i, i < M → dotN (fun j => C i j * x j) (M + 1) = 0 := by
  obtain ⟨X, hX⟩ : ∃ X, (2 * ((M + 1) * A)) ^ M = X := ⟨_, rfl⟩
  have hq : 0 < (M + 1) * A := Nat.mul_pos (by omega) hA
  obtain ⟨Q, hQ⟩ : ∃ Q, (M + 1) * A = Q := ⟨_, rfl⟩
  rw [hQ] at hX hq
  obtain ⟨P, hP⟩ : ∃ P, Q * X = P := ⟨_, rfl⟩
  obtain ⟨B, hB⟩ : ∃ B, 2 * P + 1 = B := ⟨_, rfl⟩
  have hval : ∀ t i, i < M → (dotN (fun j => C i j * ((dgB (X + 1) t j : Nat) : Int)) (M + 1)).natAbs ≤ P := fun t i hi => by
    have h := dotN_abs (f := fun j => C i j * ((dgB (X + 1) t j : Nat) : Int)) (X := A * X) (M + 1) fun j hj => by
      rw [Int.natAbs_mul, Int.natAbs_natCast]
      have := dgB_lt (show 0 < X + 1 by omega) t j
      exact Nat.mul_le_mul (hC i j hi hj) (by omega)
    rw [← hP, ← hQ, Nat.mul_assoc]
    exact h
  have hdg : ∀ t i, i < M → (dotN (fun j => C i j * ((dgB (X + 1) t j : Nat) : Int)) (M + 1) + (P : Nat)).toNat < B := fun t i hi => by
    have := hval t i hi
    omega
  have hcnt : B ^ M < (X + 1) ^ (M + 1) := by
    have h1 : B ≤ 2 * Q * (X + 1) := by rw [Nat.mul_add, Nat.mul_assoc, hP]; omega
    have h2 := Nat.pow_le_pow_left h1 M
    rw [Nat.mul_pow, hX] at h2
    rw [Nat.pow_succ, Nat.mul_comm]
    have h3 : 0 < (X + 1) ^ M := Nat.pow_pos (by omega)
    have h4 : X * (X + 1) ^ M < (X + 1) * (X + 1) ^ M := by rw [Nat.add_mul]; omega
    omega
  obtain ⟨s, t, hst, ht, he⟩ := pigeon (B ^ M) ((X + 1) ^ (M + 1)) (fun t => nmB B M fun i => (dotN (fun j => C i j * ((dgB (X + 1) t j : Nat) : Int)) (M + 1) + (P : Nat)).toNat)
    (fun t _ => nmB_lt M _ (hdg t)) hcnt
  have heq := nmB_inj M _ _ (hdg s) (hdg t) he
  refine ⟨fun j => if j < M + 1 then ((dgB (X + 1) s j : Nat) : Int) - (dgB (X + 1) t j : Nat) else 0, ?_, fun j => ?_, fun j hj => if_neg (by omega), fun i hi => ?_⟩
  · apply Classical.byContradiction
    intro hno
    have hall : ∀ j, j < M + 1 → dgB (X + 1) s j = dgB (X + 1) t j := fun j hj => by
      apply Classical.byContradiction
      intro h
      refine hno ⟨j, hj, ?_⟩
      dsimp only
      rw [if_pos hj]
      omega
    have h1 := dgB_nm (show 0 < X + 1 by omega) (M + 1) s (by omega)
    have h2 := dgB_nm (show 0 < X + 1 by omega) (M + 1) t ht
    have h3 : ∀ n (y z : Nat → Nat), (∀ j, j < n → y j = z j) → nmB (X + 1) n y = nmB (X + 1) n z := by
      intro n
      induction n with
      | zero => intro y z _; rfl
      | succ n ih => intro y z h; rw [nmB, nmB, h 0 (by omega), ih _ _ fun j hj => h (j + 1) (by omega)]
    have h4 := h3 (M + 1) _ _ hall
    omega
  · dsimp only
    split
    · have h1 := dgB_lt (show 0 < X + 1 by omega) s j
      have h2 := dgB_lt (show 0 < X + 1 by omega) t j
      rw [hQ, hX]
      omega
    · exact Nat.zero_le _
  · rw [dotN_congr (g := fun j => C i j * ((dgB (X + 1) s j : Nat) : Int) - C i j * ((dgB (X + 1) t j : Nat) : Int)) fun j hj => by
    dsimp only
    rw [if_pos hj, Int.mul_sub], dotN_sub]
    have h1 := heq i hi
    have h2 := hval s i hi
    have h3 := hval t i hi
    omega
end Go.Proofs.YtmbamcpndbimaaaDoor
