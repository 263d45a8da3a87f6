/- Primitive polynomials and the greatest common divisor: plain laws. -/
import Derived.Test.YtmbamcpndbimaaaGreatDoorJ21
namespace Go.Proofs.YtmbamcpndbimaaaGreatDoor
structure Prim (N : Nat) (F : Nat → Int) : Prop where
 pos : 0 < N
 lead : 0 < F (N - 1)
 one : gcN F N = 1
theorem gcN_congr {f g : Nat → Int} : ∀ {n : Nat}, (∀ k, k < n → f k = g k) → gcN f n = gcN g n
 | 0, _ => rfl
 | n + 1, h => by rw [gcN, gcN, h n (by omega), gcN_congr fun k hk => h k (by omega)]
theorem gcN_scale (c : Int) (f : Nat → Int) : ∀ n, gcN (fun j => c * f j) n = c.natAbs * gcN f n
 | 0 => rfl
 | n + 1 => by rw [gcN, gcN, gcN_scale c f n, Int.natAbs_mul, Nat.gcd_mul_left]
theorem prG_ne {f : Nat → Int} {n : Nat} (h0 : 0 < n) (h : f (n - 1) ≠ 0) : prG f n ≠ 0 := by
 have h1 := gcN_ne (show n - 1 < n by omega) h
 unfold prG
 split <;> omega
theorem prG_dvd (f : Nat → Int) {n k : Nat} (hk : k < n) : prG f n ∣ f k := by
 unfold prG
 split
 ·exact Int.neg_dvd.2 (gcN_dvd f n _ hk)
 ·exact gcN_dvd f n _ hk
theorem prC_mul (f : Nat → Int) {n k : Nat} (hk : k < n) : prG f n * prC f n k = f k := Int.mul_ediv_cancel' (prG_dvd f hk)
theorem prG_abs (f : Nat → Int) (n : Nat) : (prG f n).natAbs = gcN f n := by unfold prG; split <;> omega
theorem prC_prim {f : Nat → Int} {n : Nat} (h0 : 0 < n) (h : f (n - 1) ≠ 0) : Prim n (prC f n) := by
 have h1 := gcN_ne (show n - 1 < n by omega) h
 refine ⟨h0, ?_, ?_⟩
 ·have h2 := prC_mul f (show n - 1 < n by omega)
  unfold prG at h2
  split at h2
  ·rename_i h3
   refine Classical.byContradiction fun h4 => ?_
   have h5 : 0 ≤ -(gcN f n : Int) * prC f n (n - 1) := Int.mul_nonneg_of_nonpos_of_nonpos (by omega) (by omega)
   omega
  ·rename_i h3
   refine Classical.byContradiction fun h4 => ?_
   have h5 : (gcN f n : Int) * prC f n (n - 1) ≤ 0 := Int.mul_nonpos_of_nonneg_of_nonpos (by omega) (by omega)
   omega
 ·have h2 : gcN f n = gcN (fun j => prG f n * prC f n j) n := gcN_congr fun k hk => (prC_mul f hk).symm
  rw [gcN_scale, prG_abs] at h2
  have h3 : gcN f n * gcN (prC f n) n = gcN f n * 1 := by omega
  exact Nat.eq_of_mul_eq_mul_left (by omega) h3
theorem ypol_prC {f : Nat → Int} {n : Nat} (h : 0 < n → f (n - 1) ≠ 0) : ∃ l, l ≠ 0 ∧ ∀ x, ypol f n x = l * ypol (prC f n) n x := by
 rcases Nat.eq_zero_or_pos n with h0 | h0
 ·exact ⟨1, by decide, fun x => by rw [h0, ypol_nil, ypol_nil]; rfl⟩
 ·refine ⟨prG f n, prG_ne h0 (h h0), fun x => ?_⟩
  rw [← ypol_smul]
  exact ypol_congr x fun k hk => (prC_mul f hk).symm
theorem pigeon : ∀ (b a : Nat) (f : Nat → Nat), (∀ i, i < a → f i < b) → b < a → ∃ i j, i < j ∧ j < a ∧ f i = f j
 | 0, a, f, h, hb => absurd (h 0 hb) (by omega)
 | b + 1, a, f, h, hb => by
  obtain ⟨c, rfl⟩ : ∃ c, a = c + 1 := ⟨a - 1, by omega⟩
  by_cases h0 : ∃ i, i < c ∧ f i = f c
  ·obtain ⟨i, hi, he⟩ := h0
   exact ⟨i, c, hi, by omega, he⟩
  ·have hne : ∀ i, i < c → f i ≠ f c := fun i hi he => h0 ⟨i, hi, he⟩
   obtain ⟨i, j, hij, hj, he⟩ := pigeon b c (fun i => if f i = b then f c else f i) (fun i hi => by
    have h1 := h i (by omega)
    have h2 := h c (by omega)
    have h3 := hne i hi
    show (if f i = b then f c else f i) < b
    split <;> omega) (by omega)
   refine ⟨i, j, hij, by omega, ?_⟩
   have h1 := hne i (by omega)
   have h2 := hne j hj
   have he' : (if f i = b then f c else f i) = if f j = b then f c else f j := he
   split at he' <;> split at he' <;> omega
def nmB (B : Nat) : Nat → (Nat → Nat) → Nat
 | 0, _ => 0
 | n + 1, y => y 0 + B * nmB B n fun i => y (i + 1)
theorem nmB_lt {B : Nat} : ∀ (n : Nat) (y : Nat → Nat), (∀ i, i < n → y i < B) → nmB B n y < B ^ n
 | 0, _, _ => Nat.one_pos
 | n + 1, y, h => by
  have h1 := nmB_lt n (fun i => y (i + 1)) fun i hi => h (i + 1) (by omega)
  have h0 := h 0 (by omega)
  rw [nmB, Nat.pow_succ, Nat.mul_comm (B ^ n)]
  have h2 : B * (nmB B n (fun i => y (i + 1)) + 1) ≤ B * B ^ n := Nat.mul_le_mul_left _ h1
  rw [Nat.mul_add] at h2
  omega
theorem nmB_inj {B : Nat} : ∀ (n : Nat) (y z : Nat → Nat), (∀ i, i < n → y i < B) → (∀ i, i < n → z i < B) → nmB B n y = nmB B n z → ∀ i, i < n → y i = z i
 | 0, _, _, _, _, _, i, hi => by omega
 | n + 1, y, z, hy, hz, h, i, hi => by
  rw [nmB, nmB] at h
  have h1 := hy 0 (by omega)
  have h2 := hz 0 (by omega)
  have h3 := congrArg (· % B) h
  have h4 := congrArg (· / B) h
  have hB : 0 < B := by omega
  rw [Nat.add_mul_mod_self_left, Nat.add_mul_mod_self_left, Nat.mod_eq_of_lt h1, Nat.mod_eq_of_lt h2] at h3
  rw [Nat.add_mul_div_left _ _ hB, Nat.add_mul_div_left _ _ hB, Nat.div_eq_of_lt h1, Nat.div_eq_of_lt h2, Nat.zero_add, Nat.zero_add] at h4
  cases i with
  | zero => exact h3
  | succ i => exact nmB_inj n _ _ (fun i hi => hy (i + 1) (by omega)) (fun i hi => hz (i + 1) (by omega)) h4 i (by omega)
def dgB (B t i : Nat) : Nat := t / B ^ i % B
theorem dgB_lt {B : Nat} (h : 0 < B) (t i : Nat) : dgB B t i < B := Nat.mod_lt _ h
theorem dgB_nm {B : Nat} (hB : 0 < B) : ∀ (n t : Nat), t < B ^ n → nmB B n (dgB B t) = t
 | 0, t, h => by
  rw [Nat.pow_zero] at h
  rw [nmB]; omega
 | n + 1, t, h => by
  have h1 : t / B < B ^ n := by
   rw [Nat.div_lt_iff_lt_mul hB, ← Nat.pow_succ]; exact h
  have h2 := dgB_nm hB n (t / B) h1
  rw [nmB, show (fun i => dgB B t (i + 1)) = dgB B (t / B) from funext fun i => by
   unfold dgB
   rw [Nat.pow_succ, Nat.mul_comm, ← Nat.div_div_eq_div_mul], h2]
  unfold dgB
  rw [Nat.pow_zero, Nat.div_one]
  exact Nat.mod_add_div t B
theorem dotN_abs {f : Nat → Int} {X : Nat} : ∀ n, (∀ j, j < n → (f j).natAbs ≤ X) → (dotN f n).natAbs ≤ n * X
 | 0, _ => by simp [dotN]
 | n + 1, h => by
  have h1 := dotN_abs n fun j hj => h j (by omega)
  have h2 := h n (by omega)
  rw [dotN, Nat.add_mul, Nat.one_mul]
  omega
theorem dotN_sub (f g : Nat → Int) : ∀ n, dotN (fun j => f j - g j) n = dotN f n - dotN g n
 | 0 => rfl
 | n + 1 => by rw [dotN, dotN, dotN, dotN_sub f g n]; omega
theorem siegel (M A : Nat) (hA : 0 < A) (C : Nat → Nat → Int) (hC : ∀ i j, i < M → j < M + 1 → (C i j).natAbs ≤ A) :
  ∃ x : Nat → Int, (∃ j, j < M + 1 ∧ x j ≠ 0) ∧ (∀ j, (x j).natAbs ≤ (2 * ((M + 1) * A)) ^ M) ∧ (∀ j, M < j → x j = 0) ∧ ∀ i, i < M → dotN (fun j => C i j * x j) (M + 1) = 0 := by
 obtain ⟨X, hX⟩ : ∃ X, (2 * ((M + 1) * A)) ^ M = X := ⟨_, rfl⟩
 have hq : 0 < (M + 1) * A := Nat.mul_pos (by omega) hA
 obtain ⟨Q, hQ⟩ : ∃ Q, (M + 1) * A = Q := ⟨_, rfl⟩
 rw [hQ] at hX hq
 obtain ⟨P, hP⟩ : ∃ P, Q * X = P := ⟨_, rfl⟩
 obtain ⟨B, hB⟩ : ∃ B, 2 * P + 1 = B := ⟨_, rfl⟩
 have hval : ∀ t i, i < M → (dotN (fun j => C i j * ((dgB (X + 1) t j : Nat) : Int)) (M + 1)).natAbs ≤ P := fun t i hi => by
  have h := dotN_abs (f := fun j => C i j * ((dgB (X + 1) t j : Nat) : Int)) (X := A * X) (M + 1) fun j hj => by
   rw [Int.natAbs_mul, Int.natAbs_natCast]
   have := dgB_lt (show 0 < X + 1 by omega) t j
   exact Nat.mul_le_mul (hC i j hi hj) (by omega)
  rw [← hP, ← hQ, Nat.mul_assoc]
  exact h
 have hdg : ∀ t i, i < M → (dotN (fun j => C i j * ((dgB (X + 1) t j : Nat) : Int)) (M + 1) + (P : Nat)).toNat < B := fun t i hi => by
  have := hval t i hi
  omega
 have hcnt : B ^ M < (X + 1) ^ (M + 1) := by
  have h1 : B ≤ 2 * Q * (X + 1) := by rw [Nat.mul_add, Nat.mul_assoc, hP]; omega
  have h2 := Nat.pow_le_pow_left h1 M
  rw [Nat.mul_pow, hX] at h2
  rw [Nat.pow_succ, Nat.mul_comm]
  have h3 : 0 < (X + 1) ^ M := Nat.pow_pos (by omega)
  have h4 : X * (X + 1) ^ M < (X + 1) * (X + 1) ^ M := by rw [Nat.add_mul]; omega
  omega
 obtain ⟨s, t, hst, ht, he⟩ := pigeon (B ^ M) ((X + 1) ^ (M + 1)) (fun t => nmB B M fun i => (dotN (fun j => C i j * ((dgB (X + 1) t j : Nat) : Int)) (M + 1) + (P : Nat)).toNat)
  (fun t _ => nmB_lt M _ (hdg t)) hcnt
 have heq := nmB_inj M _ _ (hdg s) (hdg t) he
 refine ⟨fun j => if j < M + 1 then ((dgB (X + 1) s j : Nat) : Int) - (dgB (X + 1) t j : Nat) else 0, ?_, fun j => ?_, fun j hj => if_neg (by omega), fun i hi => ?_⟩
 ·apply Classical.byContradiction
  intro hno
  have hall : ∀ j, j < M + 1 → dgB (X + 1) s j = dgB (X + 1) t j := fun j hj => by
   apply Classical.byContradiction
   intro h
   refine hno ⟨j, hj, ?_⟩
   dsimp only
   rw [if_pos hj]
   omega
  have h1 := dgB_nm (show 0 < X + 1 by omega) (M + 1) s (by omega)
  have h2 := dgB_nm (show 0 < X + 1 by omega) (M + 1) t ht
  have h3 : ∀ n (y z : Nat → Nat), (∀ j, j < n → y j = z j) → nmB (X + 1) n y = nmB (X + 1) n z := by
   intro n
   induction n with
   | zero => intro y z _; rfl
   | succ n ih => intro y z h; rw [nmB, nmB, h 0 (by omega), ih _ _ fun j hj => h (j + 1) (by omega)]
  have h4 := h3 (M + 1) _ _ hall
  omega
 ·dsimp only
  split
  ·have h1 := dgB_lt (show 0 < X + 1 by omega) s j
   have h2 := dgB_lt (show 0 < X + 1 by omega) t j
   rw [hQ, hX]
   omega
  ·exact Nat.zero_le _
 ·rw [dotN_congr (g := fun j => C i j * ((dgB (X + 1) s j : Nat) : Int) - C i j * ((dgB (X + 1) t j : Nat) : Int)) fun j hj => by
  dsimp only
  rw [if_pos hj, Int.mul_sub], dotN_sub]
  have h1 := heq i hi
  have h2 := hval s i hi
  have h3 := hval t i hi
  omega
def Sz (s : Nat) (e : Int → Int) : Prop := ∃ N F, IsP N F e ∧ N ≤ s
theorem Sz.of (f : Nat → Int) (s : Nat) : Sz s (fun x => ypol f s x) := ⟨_, _, IsP.of f s, dgN_le f s⟩
theorem Sz.ex {s : Nat} {e : Int → Int} (h : Sz s e) : ∃ F, ∀ x, ypol F s x = e x := by
 obtain ⟨N, F, h, hN⟩ := h
 exact ⟨F, fun x => h.far hN x⟩
theorem Sz.congr {s : Nat} {e e' : Int → Int} (h : Sz s e) (he : ∀ x, e x = e' x) : Sz s e' := by
 obtain ⟨N, F, h, hN⟩ := h; exact ⟨N, F, h.congr he, hN⟩
theorem Sz.up {s t : Nat} {e : Int → Int} (h : Sz s e) (hs : s ≤ t) : Sz t e := by
 obtain ⟨N, F, h, hN⟩ := h; exact ⟨N, F, h, by omega⟩
theorem Sz.add {s : Nat} {e e' : Int → Int} (h : Sz s e) (k : Sz s e') : Sz s (fun x => e x + e' x) := by
 obtain ⟨F, h⟩ := h.ex
 obtain ⟨G, k⟩ := k.ex
 exact (Sz.of (fun j => F j + G j) s).congr fun x => by rw [ypol_add, h, k]
theorem Sz.smul {s : Nat} {e : Int → Int} (c : Int) (h : Sz s e) : Sz s (fun x => c * e x) := by
 obtain ⟨F, h⟩ := h.ex
 exact (Sz.of (fun j => c * F j) s).congr fun x => by rw [ypol_smul, h]
theorem Sz.mul {s t : Nat} {e e' : Int → Int} (h : Sz s e) (k : Sz t e') : Sz (s + t - 1) (fun x => e x * e' x) := by
 obtain ⟨N, F, h, hN⟩ := h
 obtain ⟨M, G, k, hM⟩ := k
 rcases Nat.eq_zero_or_pos N with h0 | h0
 ·exact ⟨_, _, h.mul0 k (.inl h0), by omega⟩
 ·rcases Nat.eq_zero_or_pos M with h1 | h1
  ·exact ⟨_, _, h.mul0 k (.inr h1), by omega⟩
  ·exact ⟨_, _, h.mul k h0 h1, by omega⟩
theorem Sz.quot {t M : Nat} {G : Nat → Int} {u q : Int → Int} (hq : IsP M G q) (hM : 0 < M) (hu : PF u) (h : Sz t (fun x => u x * q x)) : Sz (t + 1 - M) u := by
 obtain ⟨N, F, hu⟩ := hu
 obtain ⟨K, H, hK, hKt⟩ := h
 refine ⟨N, F, hu, ?_⟩
 rcases Nat.eq_zero_or_pos N with h0 | h0
 ·omega
 ·have := (hu.deg hq hK).2 h0 hM
  omega
theorem Sz.zero {e : Int → Int} (h : Sz 0 e) (x : Int) : e x = 0 := by
 obtain ⟨N, F, h, hN⟩ := h
 exact h.nil (by omega) x
theorem Sz.one {e : Int → Int} (h : Sz 1 e) : ∃ c, ∀ x, e x = c := by
 obtain ⟨F, h⟩ := h.ex
 exact ⟨F 0, fun x => by rw [← h]; simp [ypol, dotN]⟩
def Cmb (a b : Int → Int) (n : Nat) (P Q : Int → Int) (M : Nat) : Prop :=
 ∀ s, 0 < s → s ≤ M → ∀ u v w : Int → Int, PF u → PF v → (∀ x, w x = u x * a x + v x * b x) → Sz (n + 1 - s) u → Sz (s - 1) w →
  ∃ k u' v', k ≠ 0 ∧ PF u' ∧ PF v' ∧ (∀ x, k * w x = u' x * P x + v' x * Q x) ∧ Sz (M + 1 - s) u' ∧ ((∀ x, u' x = 0) → (∀ x, v' x = 0) → (∀ x, u x = 0) ∧ ∀ x, v x = 0)
theorem Cmb.start (a b : Int → Int) (n : Nat) : Cmb a b n a b n := fun _ _ _ u v _ hu hv he hs _ =>
 ⟨1, u, v, by decide, hu, hv, fun x => by rw [he, Int.one_mul], hs, fun h1 h2 => ⟨h1, h2⟩⟩
theorem cmb_turn {c l k w u v P Q R q : Int} (h1 : k * w = u * P + v * Q) (h2 : c * P = q * Q + l * R) : c * k * w = (u * q + c * v) * Q + l * u * R := by grind
theorem Cmb.step {a b P Q R q : Int → Int} {n M M' : Nat} {c l : Int} {G H : Nat → Int} (h : Cmb a b n P Q M) (hQ : IsP M G Q) (hR : IsP M' H R) (hlt : M' < M) (hq : PF q) (hc : c ≠ 0) (hl : l ≠ 0) (he : ∀ x, c * P x = q x * Q x + l * R x) : Cmb a b n Q R M' := by
 intro s hs hs2 u v w hu hv hw hsu hsw
 obtain ⟨k, u', v', hk, hu', hv', e1, s1, z1⟩ := h s hs (by omega) u v w hu hv hw hsu hsw
 have e2 := fun x => cmb_turn (e1 x) (he x)
 have hpu : PF (fun x => u' x * q x + c * v' x) := (hu'.mul hq).add (hv'.smul c)
 have s2 : Sz (M + M' - s) (fun x => (u' x * q x + c * v' x) * Q x) := by
  have h1 : Sz (M + M' - s) (fun x => c * k * w x) := (hsw.up (by omega)).smul _
  have h2 : Sz (M + M' - s) (fun x => -l * (u' x * R x)) := (((s1.mul ⟨M', H, hR, Nat.le_refl _⟩).up (by omega))).smul _
  exact (h1.add h2).congr fun x => by rw [e2 x]; grind
 have s3 := s2.quot hQ (by omega) hpu
 refine ⟨c * k, _, fun x => l * u' x, mul_ne hc hk, hpu, hu'.smul l, e2, s3.up (by omega), fun h1 h2 => ?_⟩
 have h3 : ∀ x, u' x = 0 := fun x => by
  rcases Int.mul_eq_zero.1 (h2 x) with h | h
  ·exact absurd h hl
  ·exact h
 refine z1 h3 fun x => ?_
 have h4 := h1 x
 rw [h3 x, Int.zero_mul, Int.zero_add] at h4
 rcases Int.mul_eq_zero.1 h4 with h | h
 ·exact absurd h hc
 ·exact h
theorem Cmb.next {a b P Q R q : Int → Int} {n M M' : Nat} {c l : Int} {G H : Nat → Int} (h : Cmb a b n P Q M) (hQ : IsP M G Q) (hR : IsP M' H R) (hlt : M' < M) (hq : PF q) (hc : c ≠ 0) (hl : l ≠ 0) (he : ∀ x, c * P x = q x * Q x + l * R x)
  {u v w : Int → Int} (hu : PF u) (hv : PF v) (hw : ∀ x, w x = u x * a x + v x * b x) (hsu : Sz (n + 1 - M) u) (hsw : Sz (M - 1) w) (hne : ¬ ((∀ x, u x = 0) ∧ ∀ x, v x = 0)) :
  ∃ k1 k2 : Int, k1 ≠ 0 ∧ k2 ≠ 0 ∧ ∀ x, k1 * w x = k2 * R x := by
 obtain ⟨k, u', v', hk, hu', hv', e1, s1, z1⟩ := h M (by omega) (Nat.le_refl _) u v w hu hv hw hsu hsw
 obtain ⟨c0, hc0⟩ := (s1.up (show M + 1 - M ≤ 1 by omega)).one
 have e2 := fun x => cmb_turn (e1 x) (he x)
 have hpu : PF (fun x => u' x * q x + c * v' x) := (hu'.mul hq).add (hv'.smul c)
 have s2 : Sz (M - 1) (fun x => (u' x * q x + c * v' x) * Q x) := by
  have h1 : Sz (M - 1) (fun x => c * k * w x) := hsw.smul _
  have h2 : Sz (M - 1) (fun x => -l * c0 * R x) := (Sz.up ⟨M', H, hR, Nat.le_refl _⟩ (by omega)).smul _
  exact (h1.add h2).congr fun x => by rw [e2 x, hc0]; grind
 have s3 := ((s2.quot hQ (by omega) hpu).up (show M - 1 + 1 - M ≤ 0 by omega)).zero
 have hcn : c0 ≠ 0 := fun h0 => by
  refine hne (z1 (fun x => by rw [hc0, h0]) fun x => ?_)
  have h4 := s3 x
  rw [hc0, h0, Int.zero_mul, Int.zero_add] at h4
  rcases Int.mul_eq_zero.1 h4 with h | h
  ·exact absurd h hc
  ·exact h
 exact ⟨c * k, l * c0, mul_ne hc hk, mul_ne hl hcn, fun x => by rw [e2 x, s3 x, hc0]; grind⟩
def sylC (F G : Nat → Int) (n m al i j : Nat) : Int := if j < al then (if j ≤ i ∧ i < j + n then 1 * F (i - j) else 0) else (if j - al ≤ i ∧ i < j - al + m then 1 * G (i - (j - al)) else 0)
theorem sylC_bn {F G : Nat → Int} {n m al A : Nat} (hF : ∀ j, j < n → (F j).natAbs ≤ A) (hG : ∀ j, j < m → (G j).natAbs ≤ A) (i j : Nat) : (sylC F G n m al i j).natAbs ≤ A := by
 unfold sylC
 split
 ·split
  ·rw [Int.one_mul]; exact hF _ (by omega)
  ·exact Nat.zero_le _
 ·split
  ·rw [Int.one_mul]; exact hG _ (by omega)
  ·exact Nat.zero_le _
theorem syl_ev (F G x : Nat → Int) (n m al be ga : Nat) (h1 : al + n ≤ ga + 1) (h2 : be + m ≤ ga + 1) (X : Int) :
  ypol (fun i => dotN (fun j => sylC F G n m al i j * x j) (al + be)) ga X = ypol x al X * ypol F n X + ypol (fun j => x (al + j)) be X * ypol G m X := by
 have e1 : ypol (fun i => dotN (fun j => sylC F G n m al i j * x j) (al + be)) ga X = dotN (fun j => x j * ypol (fun i => sylC F G n m al i j) ga X) (al + be) := by
  unfold ypol
  rw [dotN_congr (g := fun i => dotN (fun j => x j * (sylC F G n m al i j * X ^ i)) (al + be)) fun i _ => by
   rw [← dotN_mul_right]
   exact dotN_congr fun j _ => by grind, dotN_swap]
  exact dotN_congr fun j _ => dotN_mul _ _ _
 rw [e1, dotN_split]
 congr 1
 ·show _ = dotN (fun j => x j * X ^ j) al * _
  rw [← dotN_mul_right]
  refine dotN_congr fun j hj => ?_
  have h3 := ypol_shift 1 F j X n ga (by omega)
  rw [ypol_congr (d := fun t => if j ≤ t ∧ t < j + n then 1 * F (t - j) else 0) X fun i _ => by unfold sylC; rw [if_pos hj], h3]
  grind
 ·show _ = dotN (fun j => x (al + j) * X ^ j) be * _
  rw [← dotN_mul_right]
  refine dotN_congr fun j hj => ?_
  have h3 := ypol_shift 1 G j X m ga (by omega)
  rw [ypol_congr (d := fun t => if j ≤ t ∧ t < j + m then 1 * G (t - j) else 0) X fun i _ => by unfold sylC; rw [if_neg (by omega), Nat.add_sub_cancel_left], h3]
  grind
def syB (n m M A : Nat) : Nat := (2 * ((n + m + 2 - 2 * M) * A)) ^ (n + m + 2 - 2 * M)
theorem small_comb {F G : Nat → Int} {n m M A : Nat} (hA : 0 < A) (hF : ∀ j, j < n → (F j).natAbs ≤ A) (hG : ∀ j, j < m → (G j).natAbs ≤ A) (hM : 0 < M) (hn : M ≤ n) (hm : M ≤ m) :
  ∃ (u v : Int → Int) (W : Nat → Int), PF u ∧ PF v ∧ (∀ x, ypol W (M - 1) x = u x * ypol F n x + v x * ypol G m x) ∧ Sz (m + 1 - M) u ∧ (¬ ((∀ x, u x = 0) ∧ ∀ x, v x = 0)) ∧ ∀ i, (W i).natAbs ≤ syB n m M A := by
 obtain ⟨al, hal⟩ : ∃ al, m + 1 - M = al := ⟨_, rfl⟩
 obtain ⟨be, hbe⟩ : ∃ be, n + 1 - M = be := ⟨_, rfl⟩
 obtain ⟨q, hq⟩ : ∃ q, al + be = q + 1 := ⟨al + be - 1, by omega⟩
 obtain ⟨x, ⟨j, hj, hxj⟩, hxb, _, hx0⟩ := siegel q A hA (fun i j => sylC F G n m al (M - 1 + i) j) (fun i j _ _ => sylC_bn hF hG _ _)
 have hev := syl_ev F G x n m al be (n + m - M) (by omega) (by omega)
 rw [← hq] at hx0
 rw [hal]
 refine ⟨fun X => ypol x al X, fun X => ypol (fun j => x (al + j)) be X, fun i => if i < M - 1 then dotN (fun j => sylC F G n m al i j * x j) (al + be) else 0, PF.of _ _, PF.of _ _, fun X => ?_, Sz.of _ _, fun h => ?_, fun i => ?_⟩
 ·rw [← hev, ← ypol_far (n := M - 1) (m := n + m - M) (fun k hk => if_neg (by omega)) (by omega)]
  refine ypol_congr X fun i hi => ?_
  split
  ·rfl
  ·have := hx0 (i - (M - 1)) (by omega)
   rw [show M - 1 + (i - (M - 1)) = i from by omega] at this
   exact this.symm
 ·by_cases h1 : j < al
  ·exact hxj (ypol_zero (fun X _ => h.1 X) j h1)
  ·have := ypol_zero (fun X _ => h.2 X) (j - al) (by omega)
   rw [show al + (j - al) = j from by omega] at this
   exact hxj this
 ·dsimp only
  split
  ·have h1 := dotN_abs (f := fun j => sylC F G n m al i j * x j) (X := A * (2 * ((q + 1) * A)) ^ q) (al + be) fun j _ => by
    rw [Int.natAbs_mul]
    exact Nat.mul_le_mul (sylC_bn hF hG _ _) (hxb j)
   refine Nat.le_trans h1 ?_
   unfold syB
   rw [show n + m + 2 - 2 * M = q + 1 from by omega, hq, Nat.pow_succ, ← Nat.mul_assoc, Nat.mul_comm ((q + 1) * A)]
   exact Nat.mul_le_mul_left _ (by omega)
  ·exact Nat.zero_le _
theorem prim_small {N M : Nat} {F G : Nat → Int} {w r : Int → Int} (hF : IsP N F w) (hG : IsP M G r) (pG : Prim M G) {a b : Int} (ha : a ≠ 0) (hb : b ≠ 0) (he : ∀ x, a * w x = b * r x) (j : Nat) : (G j).natAbs ≤ (F j).natAbs := by
 obtain ⟨h1, h2⟩ := (hF.smul ha).unique ((hG.smul hb).congr fun x => (he x).symm)
 subst h1
 have h3 : ∀ j, a * F j = b * G j := fun j => congrFun h2 j
 have h4 : gcN (fun j => a * F j) N = gcN (fun j => b * G j) N := gcN_congr fun j _ => h3 j
 rw [gcN_scale, gcN_scale, pG.one, Nat.mul_one] at h4
 have h5 := congrArg Int.natAbs (h3 j)
 rw [Int.natAbs_mul, Int.natAbs_mul, ← h4, Nat.mul_assoc] at h5
 have h6 : (F j).natAbs = gcN F N * (G j).natAbs := Nat.eq_of_mul_eq_mul_left (by omega) h5
 have h7 : gcN F N ≠ 0 := fun h => by rw [h, Nat.mul_zero] at h4; omega
 rw [h6]
 exact Nat.le_mul_of_pos_left _ (by omega)
theorem rest_small {F0 G0 : Nat → Int} {P Q R q : Int → Int} {n m A M M' : Nat} {c l : Int} {G H : Nat → Int} (hA : 0 < A) (hF : ∀ j, j < n → (F0 j).natAbs ≤ A) (hG : ∀ j, j < m → (G0 j).natAbs ≤ A)
  (h : Cmb (fun x => ypol F0 n x) (fun x => ypol G0 m x) m P Q M) (hQ : IsP M G Q) (hR : IsP M' H R) (pR : Prim M' H) (hlt : M' < M) (hMn : M ≤ n) (hMm : M ≤ m) (hq : PF q) (hc : c ≠ 0) (hl : l ≠ 0) (he : ∀ x, c * P x = q x * Q x + l * R x) (j : Nat) : (H j).natAbs ≤ syB n m M A := by
 obtain ⟨u, v, W, hu, hv, hw, hsu, hne, hWb⟩ := small_comb hA hF hG (show 0 < M by omega) hMn hMm
 obtain ⟨k1, k2, hk1, hk2, e1⟩ := h.next hQ hR hlt hq hc hl he hu hv hw hsu (Sz.of W (M - 1)) hne
 have h2 := prim_small (IsP.of W (M - 1)) hR pR hk1 hk2 e1 j
 refine Nat.le_trans h2 ?_
 unfold ctN
 split
 ·exact hWb j
 ·exact Nat.zero_le _
theorem syB_bn {n m M e : Nat} (hn : n ≤ 100) (hm : m ≤ 100) (hM : 0 < M) : syB n m M (2 ^ e) ≤ 2 ^ ((e + 9) * 200) := by
 unfold syB
 obtain ⟨N, hN⟩ : ∃ N, n + m + 2 - 2 * M = N := ⟨_, rfl⟩
 rw [hN]
 have h1 : 2 * (N * 2 ^ e) ≤ 2 ^ (e + 9) := by
  have h2 : N * 2 ^ e ≤ 256 * 2 ^ e := Nat.mul_le_mul_right _ (by omega)
  rw [Nat.pow_add]
  have : (2 : Nat) ^ 9 = 512 := by decide
  omega
 refine Nat.le_trans (Nat.pow_le_pow_left h1 N) ?_
 rw [← Nat.pow_mul]
 exact Nat.pow_le_pow_right (by decide) (Nat.mul_le_mul_left _ (by omega))
end Go.Proofs.YtmbamcpndbimaaaGreatDoor
