/- The sizes in a remainder sequence of polynomials: each primitive rest divides a small combination. A small combination, and the size of each primitive rest. polynomial.gcd at any size: the rests stay small. -/
import Derived.Test.YtmbamcpndbimaaaDoorA35
import Derived.Test.YtmbamcpndbimaaaDoorA19
namespace Go.Proofs.YtmbamcpndbimaaaDoor
/-- A polynomial function with at most s coefficients. -/
def Sz (s : Nat) (e : Int → Int) : Prop := ∃ N F, IsP N F e ∧ N ≤ s
theorem Sz.pf {s : Nat} {e : Int → Int} (h : Sz s e) : PF e := by
  obtain ⟨N, F, h, _⟩ := h; exact ⟨N, F, h⟩
theorem Sz.of (f : Nat → Int) (s : Nat) : Sz s (fun x => ypol f s x) := ⟨_, _, IsP.of f s, dgN_le f s⟩
theorem Sz.ex {s : Nat} {e : Int → Int} (h : Sz s e) : ∃ F, ∀ x, ypol F s x = e x := by
  obtain ⟨N, F, h, hN⟩ := h
  exact ⟨F, fun x => h.far hN x⟩
theorem Sz.congr {s : Nat} {e e' : Int → Int} (h : Sz s e) (he : ∀ x, e x = e' x) : Sz s e' := by
  obtain ⟨N, F, h, hN⟩ := h; exact ⟨N, F, h.congr he, hN⟩
theorem Sz.up {s t : Nat} {e : Int → Int} (h : Sz s e) (hs : s ≤ t) : Sz t e := by
  obtain ⟨N, F, h, hN⟩ := h; exact ⟨N, F, h, by omega⟩
theorem Sz.add {s : Nat} {e e' : Int → Int} (h : Sz s e) (k : Sz s e') : Sz s (fun x => e x + e' x) := by
  obtain ⟨F, h⟩ := h.ex
  obtain ⟨G, k⟩ := k.ex
  exact (Sz.of (fun j => F j + G j) s).congr fun x => by rw [ypol_add, h, k]
theorem Sz.smul {s : Nat} {e : Int → Int} (c : Int) (h : Sz s e) : Sz s (fun x => c * e x) := by
  obtain ⟨F, h⟩ := h.ex
  exact (Sz.of (fun j => c * F j) s).congr fun x => by rw [ypol_smul, h]
theorem Sz.mul {s t : Nat} {e e' : Int → Int} (h : Sz s e) (k : Sz t e') : Sz (s + t - 1) (fun x => e x * e' x) := by
  obtain ⟨N, F, h, hN⟩ := h
  obtain ⟨M, G, k, hM⟩ := k
  rcases Nat.eq_zero_or_pos N with h0 | h0
  · exact ⟨_, _, h.mul0 k (.inl h0), by omega⟩
  · rcases Nat.eq_zero_or_pos M with h1 | h1
    · exact ⟨_, _, h.mul0 k (.inr h1), by omega⟩
    · exact ⟨_, _, h.mul k h0 h1, by omega⟩
theorem Sz.quot {t M : Nat} {G : Nat → Int} {u q : Int → Int} (hq : IsP M G q) (hM : 0 < M) (hu : PF u) (h : Sz t (fun x => u x * q x)) : Sz (t + 1 - M) u := by
  obtain ⟨N, F, hu⟩ := hu
  obtain ⟨K, H, hK, hKt⟩ := h
  refine ⟨N, F, hu, ?_⟩
  rcases Nat.eq_zero_or_pos N with h0 | h0
  · omega
  · have := (hu.deg hq hK).2 h0 hM
    omega
theorem Sz.zero {e : Int → Int} (h : Sz 0 e) (x : Int) : e x = 0 := by
  obtain ⟨N, F, h, hN⟩ := h
  exact h.nil (by omega) x
theorem Sz.one {e : Int → Int} (h : Sz 1 e) : ∃ c, ∀ x, e x = c := by
  obtain ⟨F, h⟩ := h.ex
  exact ⟨F 0, fun x => by rw [← h]; simp [ypol, dotN]⟩
/-- How combinations of a and b stand to the two polynomials at hand (the second one has M coefficients). -/
def Cmb (a b : Int → Int) (n : Nat) (P Q : Int → Int) (M : Nat) : Prop :=
  ∀ s, 0 < s → s ≤ M → ∀ u v w : Int → Int, PF u → PF v → (∀ x, w x = u x * a x + v x * b x) → Sz (n + 1 - s) u → Sz (s - 1) w →
    ∃ k u' v', k ≠ 0 ∧ PF u' ∧ PF v' ∧ (∀ x, k * w x = u' x * P x + v' x * Q x) ∧ Sz (M + 1 - s) u' ∧ ((∀ x, u' x = 0) → (∀ x, v' x = 0) → (∀ x, u x = 0) ∧ ∀ x, v x = 0)
theorem Cmb.start (a b : Int → Int) (n : Nat) : Cmb a b n a b n := fun _ _ _ u v _ hu hv he hs _ =>
  ⟨1, u, v, by decide, hu, hv, fun x => by rw [he, Int.one_mul], hs, fun h1 h2 => ⟨h1, h2⟩⟩
theorem cmb_turn {c l k w u v P Q R q : Int} (h1 : k * w = u * P + v * Q) (h2 : c * P = q * Q + l * R) : c * k * w = (u * q + c * v) * Q + l * u * R := by grind
theorem Cmb.step {a b P Q R q : Int → Int} {n M M' : Nat} {c l : Int} {G H : Nat → Int} (h : Cmb a b n P Q M) (hQ : IsP M G Q) (hR : IsP M' H R) (hlt : M' < M) (hq : PF q) (hc : c ≠ 0) (hl : l ≠ 0) (he : ∀ x, c * P x = q x * Q x + l * R x) : Cmb a b n Q R M' := by
  intro s hs hs2 u v w hu hv hw hsu hsw
  obtain ⟨k, u', v', hk, hu', hv', e1, s1, z1⟩ := h s hs (by omega) u v w hu hv hw hsu hsw
  have e2 := fun x => cmb_turn (e1 x) (he x)
  have hpu : PF (fun x => u' x * q x + c * v' x) := (hu'.mul hq).add (hv'.smul c)
  have s2 : Sz (M + M' - s) (fun x => (u' x * q x + c * v' x) * Q x) := by
    have h1 : Sz (M + M' - s) (fun x => c * k * w x) := (hsw.up (by omega)).smul _
    have h2 : Sz (M + M' - s) (fun x => -l * (u' x * R x)) := (((s1.mul ⟨M', H, hR, Nat.le_refl _⟩).up (by omega))).smul _
    exact (h1.add h2).congr fun x => by rw [e2 x]; grind
  have s3 := s2.quot hQ (by omega) hpu
  refine ⟨c * k, _, fun x => l * u' x, mul_ne hc hk, hpu, hu'.smul l, e2, s3.up (by omega), fun h1 h2 => ?_⟩
  have h3 : ∀ x, u' x = 0 := fun x => by
    rcases Int.mul_eq_zero.1 (h2 x) with h | h
    · exact absurd h hl
    · exact h
  refine z1 h3 fun x => ?_
  have h4 := h1 x
  rw [h3 x, Int.zero_mul, Int.zero_add] at h4
  rcases Int.mul_eq_zero.1 h4 with h | h
  · exact absurd h hc
  · exact h
/-- A combination that is small in degree is, up to numbers, the next rest. -/
theorem Cmb.next {a b P Q R q : Int → Int} {n M M' : Nat} {c l : Int} {G H : Nat → Int} (h : Cmb a b n P Q M) (hQ : IsP M G Q) (hR : IsP M' H R) (hlt : M' < M) (hq : PF q) (hc : c ≠ 0) (hl : l ≠ 0) (he : ∀ x, c * P x = q x * Q x + l * R x)
    {u v w : Int → Int} (hu : PF u) (hv : PF v) (hw : ∀ x, w x = u x * a x + v x * b x) (hsu : Sz (n + 1 - M) u) (hsw : Sz (M - 1) w) (hne : ¬ ((∀ x, u x = 0) ∧ ∀ x, v x = 0)) :
    ∃ k1 k2 : Int, k1 ≠ 0 ∧ k2 ≠ 0 ∧ ∀ x, k1 * w x = k2 * R x := by
  obtain ⟨k, u', v', hk, hu', hv', e1, s1, z1⟩ := h M (by omega) (Nat.le_refl _) u v w hu hv hw hsu hsw
  obtain ⟨c0, hc0⟩ := (s1.up (show M + 1 - M ≤ 1 by omega)).one
  have e2 := fun x => cmb_turn (e1 x) (he x)
  have hpu : PF (fun x => u' x * q x + c * v' x) := (hu'.mul hq).add (hv'.smul c)
  have s2 : Sz (M - 1) (fun x => (u' x * q x + c * v' x) * Q x) := by
    have h1 : Sz (M - 1) (fun x => c * k * w x) := hsw.smul _
    have h2 : Sz (M - 1) (fun x => -l * c0 * R x) := (Sz.up ⟨M', H, hR, Nat.le_refl _⟩ (by omega)).smul _
    exact (h1.add h2).congr fun x => by rw [e2 x, hc0]; grind
  have s3 := ((s2.quot hQ (by omega) hpu).up (show M - 1 + 1 - M ≤ 0 by omega)).zero
  have hcn : c0 ≠ 0 := fun h0 => by
    refine hne (z1 (fun x => by rw [hc0, h0]) fun x => ?_)
    have h4 := s3 x
    rw [hc0, h0, Int.zero_mul, Int.zero_add] at h4
    rcases Int.mul_eq_zero.1 h4 with h | h
    · exact absurd h hc
    · exact h
  exact ⟨c * k, l * c0, mul_ne hc hk, mul_ne hl hcn, fun x => by rw [e2 x, s3 x, hc0]; grind⟩
end Go.Proofs.YtmbamcpndbimaaaDoor
namespace Go.Proofs.YtmbamcpndbimaaaDoor
/-- The coefficients of the products of two polynomials by powers of x. -/
def sylC (F G : Nat → Int) (n m al i j : Nat) : Int := if j < al then (if j ≤ i ∧ i < j + n then 1 * F (i - j) else 0) else (if j - al ≤ i ∧ i < j - al + m then 1 * G (i - (j - al)) else 0)
theorem sylC_bn {F G : Nat → Int} {n m al A : Nat} (hF : ∀ j, j < n → (F j).natAbs ≤ A) (hG : ∀ j, j < m → (G j).natAbs ≤ A) (i j : Nat) : (sylC F G n m al i j).natAbs ≤ A := by
  unfold sylC
  split
  · split
    · rw [Int.one_mul]; exact hF _ (by omega)
    · exact Nat.zero_le _
  · split
    · rw [Int.one_mul]; exact hG _ (by omega)
    · exact Nat.zero_le _
theorem syl_ev (F G x : Nat → Int) (n m al be ga : Nat) (h1 : al + n ≤ ga + 1) (h2 : be + m ≤ ga + 1) (X : Int) :
    ypol (fun i => dotN (fun j => sylC F G n m al i j * x j) (al + be)) ga X = ypol x al X * ypol F n X + ypol (fun j => x (al + j)) be X * ypol G m X := by
  have e1 : ypol (fun i => dotN (fun j => sylC F G n m al i j * x j) (al + be)) ga X = dotN (fun j => x j * ypol (fun i => sylC F G n m al i j) ga X) (al + be) := by
    unfold ypol
    rw [dotN_congr (g := fun i => dotN (fun j => x j * (sylC F G n m al i j * X ^ i)) (al + be)) fun i _ => by
      rw [← dotN_mul_right]
      exact dotN_congr fun j _ => by grind, dotN_swap]
    exact dotN_congr fun j _ => dotN_mul _ _ _
  rw [e1, dotN_split]
  congr 1
  · show _ = dotN (fun j => x j * X ^ j) al * _
    rw [← dotN_mul_right]
    refine dotN_congr fun j hj => ?_
    have h3 := ypol_shift 1 F j X n ga (by omega)
    rw [ypol_congr (d := fun t => if j ≤ t ∧ t < j + n then 1 * F (t - j) else 0) X fun i _ => by unfold sylC; rw [if_pos hj], h3]
    grind
  · show _ = dotN (fun j => x (al + j) * X ^ j) be * _
    rw [← dotN_mul_right]
    refine dotN_congr fun j hj => ?_
    have h3 := ypol_shift 1 G j X m ga (by omega)
    rw [ypol_congr (d := fun t => if j ≤ t ∧ t < j + m then 1 * G (t - j) else 0) X fun i _ => by unfold sylC; rw [if_neg (by omega), Nat.add_sub_cancel_left], h3]
    grind
/-- The bound. -/
def syB (n m M A : Nat) : Nat := (2 * ((n + m + 2 - 2 * M) * A)) ^ (n + m + 2 - 2 * M)
theorem small_comb {F G : Nat → Int} {n m M A : Nat} (hA : 0 < A) (hF : ∀ j, j < n → (F j).natAbs ≤ A) (hG : ∀ j, j < m → (G j).natAbs ≤ A) (hM : 0 < M) (hn : M ≤ n) (hm : M ≤ m) :
    ∃ (u v : Int → Int) (W : Nat → Int), PF u ∧ PF v ∧ (∀ x, ypol W (M - 1) x = u x * ypol F n x + v x * ypol G m x) ∧ Sz (m + 1 - M) u ∧ (¬ ((∀ x, u x = 0) ∧ ∀ x, v x = 0)) ∧ ∀ i, (W i).natAbs ≤ syB n m M A := by
  obtain ⟨al, hal⟩ : ∃ al, m + 1 - M = al := ⟨_, rfl⟩
  obtain ⟨be, hbe⟩ : ∃ be, n + 1 - M = be := ⟨_, rfl⟩
  obtain ⟨q, hq⟩ : ∃ q, al + be = q + 1 := ⟨al + be - 1, by omega⟩
  obtain ⟨x, ⟨j, hj, hxj⟩, hxb, _, hx0⟩ := siegel q A hA (fun i j => sylC F G n m al (M - 1 + i) j) (fun i j _ _ => sylC_bn hF hG _ _)
  have hev := syl_ev F G x n m al be (n + m - M) (by omega) (by omega)
  rw [← hq] at hx0
  rw [hal]
  refine ⟨fun X => ypol x al X, fun X => ypol (fun j => x (al + j)) be X, fun i => if i < M - 1 then dotN (fun j => sylC F G n m al i j * x j) (al + be) else 0, PF.of _ _, PF.of _ _, fun X => ?_, Sz.of _ _, fun h => ?_, fun i => ?_⟩
  · rw [← hev, ← ypol_far (n := M - 1) (m := n + m - M) (fun k hk => if_neg (by omega)) (by omega)]
    refine ypol_congr X fun i hi => ?_
    split
    · rfl
    · have := hx0 (i - (M - 1)) (by omega)
      rw [show M - 1 + (i - (M - 1)) = i from by omega] at this
      exact this.symm
  · by_cases h1 : j < al
    · exact hxj (ypol_zero (fun X _ => h.1 X) j h1)
    · have := ypol_zero (fun X _ => h.2 X) (j - al) (by omega)
      rw [show al + (j - al) = j from by omega] at this
      exact hxj this
  · dsimp only
    split
    · have h1 := dotN_abs (f := fun j => sylC F G n m al i j * x j) (X := A * (2 * ((q + 1) * A)) ^ q) (al + be) fun j _ => by
        rw [Int.natAbs_mul]
        exact Nat.mul_le_mul (sylC_bn hF hG _ _) (hxb j)
      refine Nat.le_trans h1 ?_
      unfold syB
      rw [show n + m + 2 - 2 * M = q + 1 from by omega, hq, Nat.pow_succ, ← Nat.mul_assoc, Nat.mul_comm ((q + 1) * A)]
      exact Nat.mul_le_mul_left _ (by omega)
    · exact Nat.zero_le _
theorem prim_small {N M : Nat} {F G : Nat → Int} {w r : Int → Int} (hF : IsP N F w) (hG : IsP M G r) (pG : Prim M G) {a b : Int} (ha : a ≠ 0) (hb : b ≠ 0) (he : ∀ x, a * w x = b * r x) (j : Nat) : (G j).natAbs ≤ (F j).natAbs := by
  obtain ⟨h1, h2⟩ := (hF.smul ha).unique ((hG.smul hb).congr fun x => (he x).symm)
  subst h1
  have h3 : ∀ j, a * F j = b * G j := fun j => congrFun h2 j
  have h4 : gcN (fun j => a * F j) N = gcN (fun j => b * G j) N := gcN_congr fun j _ => h3 j
  rw [gcN_scale, gcN_scale, pG.one, Nat.mul_one] at h4
  have h5 := congrArg Int.natAbs (h3 j)
  rw [Int.natAbs_mul, Int.natAbs_mul, ← h4, Nat.mul_assoc] at h5
  have h6 : (F j).natAbs = gcN F N * (G j).natAbs := Nat.eq_of_mul_eq_mul_left (by omega) h5
  have h7 : gcN F N ≠ 0 := fun h => by rw [h, Nat.mul_zero] at h4; omega
  rw [h6]
  exact Nat.le_mul_of_pos_left _ (by omega)
/-- Each primitive rest is small. -/
theorem rest_small {F0 G0 : Nat → Int} {P Q R q : Int → Int} {n m A M M' : Nat} {c l : Int} {G H : Nat → Int} (hA : 0 < A) (hF : ∀ j, j < n → (F0 j).natAbs ≤ A) (hG : ∀ j, j < m → (G0 j).natAbs ≤ A)
    (h : Cmb (fun x => ypol F0 n x) (fun x => ypol G0 m x) m P Q M) (hQ : IsP M G Q) (hR : IsP M' H R) (pR : Prim M' H) (hlt : M' < M) (hMn : M ≤ n) (hMm : M ≤ m) (hq : PF q) (hc : c ≠ 0) (hl : l ≠ 0) (he : ∀ x, c * P x = q x * Q x + l * R x) (j : Nat) : (H j).natAbs ≤ syB n m M A := by
  obtain ⟨u, v, W, hu, hv, hw, hsu, hne, hWb⟩ := small_comb hA hF hG (show 0 < M by omega) hMn hMm
  obtain ⟨k1, k2, hk1, hk2, e1⟩ := h.next hQ hR hlt hq hc hl he hu hv hw hsu (Sz.of W (M - 1)) hne
  have h2 := prim_small (IsP.of W (M - 1)) hR pR hk1 hk2 e1 j
  refine Nat.le_trans h2 ?_
  unfold ctN
  split
  · exact hWb j
  · exact Nat.zero_le _
theorem syB_bn {n m M e : Nat} (hn : n ≤ 100) (hm : m ≤ 100) (hM : 0 < M) : syB n m M (2 ^ e) ≤ 2 ^ ((e + 9) * 200) := by
  unfold syB
  obtain ⟨N, hN⟩ : ∃ N, n + m + 2 - 2 * M = N := ⟨_, rfl⟩
  rw [hN]
  have h1 : 2 * (N * 2 ^ e) ≤ 2 ^ (e + 9) := by
    have h2 : N * 2 ^ e ≤ 256 * 2 ^ e := Nat.mul_le_mul_right _ (by omega)
    rw [Nat.pow_add]
    have : (2 : Nat) ^ 9 = 512 := by decide
    omega
  refine Nat.le_trans (Nat.pow_le_pow_left h1 N) ?_
  rw [← Nat.pow_mul]
  exact Nat.pow_le_pow_right (by decide) (Nat.mul_le_mul_left _ (by omega))
end Go.Proofs.YtmbamcpndbimaaaDoor
namespace Go.Proofs.YtmbamcpndbimaaaDoor
open Go.RowKit Go.Shelf
/-- All primitive rests have at most E bits. -/
def GAll (E : Nat) : Nat → Nat → (Nat → Int) → Nat → (Nat → Int) → Prop
  | 0, _, _, _, _ => True
  | k + 1, n, f, m, g => if m = 0 then True else if n < m then GAll E k m g n f else (∀ i, Bn (prC (dvR f g n m) (dvLR f g n m) i) E) ∧ GAll E k m g (dvLR f g n m) (prC (dvR f g n m) (dvLR f g n m))
theorem gall_div {e n m : Nat} (hK : e + 1001 * (e + 1) ≤ 100000000) (hn : n ≤ 1000) : e + (n - m + 1) * (e + 1) ≤ 100000000 := by
  have : (n - m + 1) * (e + 1) ≤ 1001 * (e + 1) := Nat.mul_le_mul_right _ (by omega)
  omega
theorem dvS_far {f g : Nat → Int} {n m : Nat} (hnm : m ≤ n) (hf : ∀ i, n ≤ i → f i = 0) : ∀ j i, n ≤ i → (dvS f g n m j).2 i = 0
  | 0, i, hi => hf i hi
  | j + 1, i, hi => by
    show (dvS f g n m j).2 i * g (m - 1) - (if n - m - j ≤ i ∧ i < n - m - j + m then _ else 0) = 0
    rw [dvS_far hnm hf j i hi, if_neg (by omega), Int.zero_mul]; rfl
theorem dvR_far {f g : Nat → Int} {n m : Nat} (hnm : ¬ n < m) (hf : ∀ i, n ≤ i → f i = 0) (i : Nat) (hi : dvLR f g n m ≤ i) : dvR f g n m i = 0 := by
  unfold dvLR at hi
  unfold dvR
  rw [if_neg hnm] at hi ⊢
  by_cases h : i < n
  · exact dgN_over _ n i hi h
  · exact dvS_far (by omega) hf _ i (by omega)
theorem prC_zero {f : Nat → Int} {n i : Nat} (h : f i = 0) : prC f n i = 0 := by
  unfold prC
  rw [h, Int.zero_ediv]
theorem gall_of {F0 G0 : Nat → Int} {n0 m0 e : Nat} (hF : ∀ j, j < n0 → Bn (F0 j) e) (hG : ∀ j, j < m0 → Bn (G0 j) e) (hn0 : n0 ≤ 100) (hm0 : m0 ≤ 100) :
    ∀ (k n m : Nat) (f g : Nat → Int), m ≤ k → m ≤ n → m ≤ n0 → m ≤ m0 → (∀ i, n ≤ i → f i = 0) → (∀ i, m ≤ i → g i = 0) → (0 < m → g (m - 1) ≠ 0) →
      Cmb (fun x => ypol F0 n0 x) (fun x => ypol G0 m0 x) m0 (fun x => ypol f n x) (fun x => ypol g m x) m → GAll ((e + 9) * 200) k n f m g
  | 0, _, _, _, _, _, _, _, _, _, _, _, _ => trivial
  | k + 1, n, m, f, g, hk, hmn, h1, h2, hf, hg, hcg, hC => by
    rw [GAll]
    by_cases h0 : m = 0
    · rw [if_pos h0]; trivial
    rw [if_neg h0, if_neg (by omega)]
    have hnm : ¬ n < m := by omega
    have hlt := dvLR_lt (f := f) (g := g) (show 0 < m by omega) hnm
    have hrt := dvR_top (f := f) (g := g) hnm
    have hrf := dvR_far (f := f) (g := g) hnm hf
    obtain ⟨l, hl, he⟩ := ypol_prC hrt
    have hev := fun x => dv_ev (f := f) (g := g) (n := n) (m := m) (by omega) x
    have hc : g (m - 1) ≠ 0 := hcg (by omega)
    have hpt := prC_top hrt
    have hpr := fun h => prC_prim (f := dvR f g n m) (n := dvLR f g n m) h (hrt h)
    have hpf : ∀ i, dvLR f g n m ≤ i → prC (dvR f g n m) (dvLR f g n m) i = 0 := fun i hi => prC_zero (hrf i hi)
    generalize dvLR f g n m = L at *
    generalize dvR f g n m = r at *
    have hQ : IsP m g (fun x => ypol g m x) := ⟨fun h => hcg h, hg, fun _ => rfl⟩
    have hR : IsP L (prC r L) (fun x => ypol (prC r L) L x) := ⟨hpt, hpf, fun _ => rfl⟩
    have heq : ∀ x, g (m - 1) ^ (n + 1 - m) * ypol f n x = ypol (dvQ f g n m) (dvLQ f g n m) x * ypol g m x + l * ypol (prC r L) L x := fun x => by rw [← he x]; exact hev x
    have hcp : g (m - 1) ^ (n + 1 - m) ≠ 0 := Int.pow_ne_zero hc
    refine ⟨fun i => ?_, gall_of hF hG hn0 hm0 k m L g _ (by omega) (by omega) (by omega) (by omega) hg hpf hpt (hC.step hQ hR hlt (PF.of _ _) hcp hl heq)⟩
    by_cases hi : i < L
    · have h3 := rest_small (A := 2 ^ e) (Nat.pow_pos (by decide)) hF hG hC hQ hR (hpr (by omega)) hlt h1 h2 (PF.of _ _) hcp hl heq i
      exact Nat.le_trans h3 (syB_bn hn0 hm0 (by omega))
    · rw [hpf i (by omega)]; exact Bn.zero _
/-- All rests of two polynomials with at most 100 coefficients of e bits are small. -/
theorem gall_start {f g : Nat → Int} {n m e : Nat} (hn : n ≤ 100) (hm : m ≤ 100) (hf : ∀ i, Bn (f i) e) (hg : ∀ i, Bn (g i) e) (hf0 : ∀ i, n ≤ i → f i = 0) (hg0 : ∀ i, m ≤ i → g i = 0) (hcf : 0 < n → f (n - 1) ≠ 0) (hcg : 0 < m → g (m - 1) ≠ 0) : GAll ((e + 9) * 200) m n (prC f n) m (prC g m) := by
  have hpf : ∀ i, n ≤ i → prC f n i = 0 := fun i hi => prC_zero (hf0 i hi)
  have hpg : ∀ i, m ≤ i → prC g m i = 0 := fun i hi => prC_zero (hg0 i hi)
  by_cases hnm : n < m
  · obtain ⟨k, rfl⟩ : ∃ k, m = k + 1 := ⟨m - 1, by omega⟩
    rw [GAll, if_neg (by omega), if_pos hnm]
    exact gall_of (F0 := prC g (k + 1)) (G0 := prC f n) (n0 := k + 1) (m0 := n) (fun j _ => prC_bn hg _ j) (fun j _ => prC_bn hf _ j) hm hn k (k + 1) n _ _ (by omega) (by omega) (by omega) (Nat.le_refl _) hpg hpf (prC_top hcf) (Cmb.start _ _ _)
  · exact gall_of (F0 := prC f n) (G0 := prC g m) (n0 := n) (m0 := m) (fun j _ => prC_bn hf _ j) (fun j _ => prC_bn hg _ j) hn hm m n m _ _ (Nat.le_refl _) (by omega) (by omega) (Nat.le_refl _) hpf hpg (prC_top hcg) (Cmb.start _ _ _)
set_option maxRecDepth 100000 in
set_option maxHeartbeats 8000000 in
theorem pgcdE_any (n m : Nat) (f g : Nat → Int) (p q : Option Addr) (c d : Nat) {e : Nat} (hn : n ≤ 1000) (hm : m ≤ 1000) (hK : e + 1001 * (e + 1) ≤ 100000000) (hB : GAll e m n (prC f n) m (prC g m)) (hf : ∀ k, Bn (f k) e) (hg : ∀ k, Bn (g k) e) (hcf : 0 < n → f (n - 1) ≠ 0) (hcg : 0 < m → g (m - 1) ≠ 0) (w : World) (hX : RowF w p n f) (hY : RowF w q m g) :
    Calls Tryd.prog 27 #[.slice p n c, .slice q m d] w (RetPol (gcS m n (prC f n) m (prC g m)).1 (gcS m n (prC f n) m (prC g m)).2 w) := by
  have hP1 := prim_any n f p c hn (by omega) hf hcf w hX
  have hP2 := fun W (hW : Below w.heap.size w W) => prim_any m g q d hm (by omega) hg hcg W (RowF.below hY (Nat.le_refl _) hW)
  have hf1 := fun k => prC_bn hf n k
  have hg1 := fun k => prC_bn hg m k
  have hcf1 := prC_top hcf
  have hcg1 := prC_top hcg
  obtain ⟨f1, hfe⟩ : ∃ x, prC f n = x := ⟨_, rfl⟩
  obtain ⟨g1, hge⟩ : ∃ x, prC g m = x := ⟨_, rfl⟩
  rw [hfe] at hP1 hf1 hcf1 ⊢
  rw [hge] at hP2 hg1 hcg1 ⊢
  rw [hfe, hge] at hB
  obtain ⟨N, hN⟩ : ∃ x, (gcS m n f1 m g1).1 = x := ⟨_, rfl⟩
  obtain ⟨F, hF⟩ : ∃ x, (gcS m n f1 m g1).2 = x := ⟨_, rfl⟩
  have HR := Lib.hid (show gcS m n f1 m g1 = (N, F) from by rw [← hN, ← hF])
  rw [hN, hF]
  have H1 := Lib.hid hP1
  have H2 := Lib.hid hP2
  have Hf1 := Lib.hid hf1
  have Hg1 := Lib.hid hg1
  have Hcf := Lib.hid hcf1
  have Hcg := Lib.hid hcg1
  have HBb := Lib.hid hB
  clear hP1 hP2 hf hg hcf hcg hX hY hfe hge hN hF hf1 hg1 hcf1 hcg1 hB
  go_enter Tryd.func27, Tryd.ntmps27
  go_wp2_with fail
  refine H1.out.mono ?_
  rintro e1 w1 ⟨q1, c1, rfl, hr1, hb1⟩
  dsimp only
  have H3 := Lib.hid (H2.out w1 hb1)
  have Hr1 := Lib.hid hr1
  have Hb1 := Lib.hid hb1
  clear hr1 hb1 H1 H2
  go_wp2_with fail
  refine H3.out.mono ?_
  rintro e2 w2 ⟨q2, c2, rfl, hr2, hb2⟩
  dsimp only
  have Ha := Lib.hid (RowF.below Hr1.out (Nat.le_refl _) hb2)
  have Hb := Lib.hid hr2
  have HW := Lib.hid (Hb1.out.trans (hb2.mono Hb1.out.size))
  clear hr2 hb2 H3 Hr1 Hb1
  go_wp2_with fail
  go_loopw [0, 1] (fun av bv wr => ∃ (k n m : Nat) (f g : Nat → Int) (p q : Option Addr) (c d : Nat), m ≤ k ∧ n ≤ 1000 ∧ m ≤ 1000 ∧ av = .slice p n c ∧ bv = .slice q m d ∧ Hid (RowF wr p n f) ∧ Hid (RowF wr q m g) ∧ Hid (GAll e k n f m g) ∧ Hid (∀ k, Bn (f k) e) ∧ Hid (∀ k, Bn (g k) e) ∧ Hid (0 < n → f (n - 1) ≠ 0) ∧ Hid (0 < m → g (m - 1) ≠ 0) ∧ Hid (gcS k n f m g = (N, F)) ∧ Hid (Below w.heap.size w wr)) (fun _ bv _ => (match bv with | .slice _ m _ => m | _ => 0))
  case atStart => exact ⟨m, n, m, f1, g1, q1, q2, c1, c2, Nat.le_refl _, hn, hm, rfl, rfl, Ha, Hb, HBb, Hf1, Hg1, Hcf, Hcg, HR, HW⟩
  case round =>
    clear Ha Hb HBb Hf1 Hg1 Hcf Hcg HR HW hn hm
    obtain ⟨k, n, m, f, g, p, q, c, d, hk, hn, hm, rfl, rfl, Ha, Hb, HBb, Hf, Hg, Hcf, Hcg, HR, HW⟩ := hrel
    by_cases hm0 : 0 < m
    · obtain ⟨k, rfl⟩ : ∃ j, k = j + 1 := ⟨k - 1, by omega⟩
      have m0 : (m : Int) > 0 := by omega
      by_cases hnm : n < m
      · have n0 : (n : Int) < (m : Int) := by omega
        have HR2 : Hid (gcS k m g n f = (N, F)) := Lib.hid (by
          have h := HR.out
          rw [gcS, if_neg (by omega), if_pos hnm] at h
          exact h)
        have HB2 : Hid (GAll e k m g n f) := Lib.hid (by
          have h := HBb.out
          rw [GAll, if_neg (by omega), if_pos hnm] at h
          exact h)
        clear HR HBb
        go_wp2_with fail
        go_roundw
        case rel => exact ⟨k, m, n, g, f, q, p, d, c, by omega, hm, hn, rfl, rfl, Hb, Ha, HB2, Hg, Hf, Hcg, Hcf, HR2, HW⟩
        case measure => simp; omega
      · have n0 : ¬ (n : Int) < (m : Int) := by omega
        have hlt := dvLR_lt (f := f) (g := g) hm0 hnm
        have hHR := HR.out
        rw [gcS, if_neg (by omega), if_neg hnm] at hHR
        have hdv := pdiv_any n m f g p q c d hn hm hm0 (gall_div hK hn) Hf.out Hg.out wr Ha.out Hb.out
        have hrb := fun k => dvR_bn (n := n) (m := m) Hf.out Hg.out k
        have hrt := dvR_top (f := f) (g := g) hnm
        have hBb := HBb.out
        rw [GAll, if_neg (by omega), if_neg hnm] at hBb
        obtain ⟨hPB, hB2⟩ := hBb
        obtain ⟨l, hl⟩ : ∃ l, dvLR f g n m = l := ⟨_, rfl⟩
        obtain ⟨r, hr⟩ : ∃ l, dvR f g n m = l := ⟨_, rfl⟩
        obtain ⟨lq, hlq⟩ : ∃ l, dvLQ f g n m = l := ⟨_, rfl⟩
        obtain ⟨rq, hrq⟩ : ∃ l, dvQ f g n m = l := ⟨_, rfl⟩
        obtain ⟨e2, he2⟩ : ∃ x, e + (n - m + 1) * (e + 1) = x := ⟨_, rfl⟩
        have hge : ∀ k, Bn (g k) e := Hg.out
        have he3 : e2 ≤ 100000000 := by rw [← he2]; exact gall_div hK hn
        rw [hl, hr, hlq, hrq] at hdv
        rw [hl] at hlt
        rw [hl, hr] at hPB hB2
        rw [he2] at hrb
        rw [hr] at hrb
        rw [hl, hr] at hrt hHR
        have hpr := fun q d W (hW : RowF W q l r) => prim_any l r q d (by omega) (show e2 ≤ 100000000 by omega) hrb hrt W hW
        have HDv := Lib.hid hdv
        have HPr := Lib.hid hpr
        have HR2 := Lib.hid hHR
        have HB2 := Lib.hid hB2
        have Hge := Lib.hid hge
        have Hpb := Lib.hid hPB
        have Hpt := Lib.hid (prC_top hrt)
        clear hHR hdv hrb hrt hPB hB2 hl hr hlq hrq he2 hge hpr HR HBb Hf Hcf
        unfold RetDv at HDv
        unfold RetPol at HPr
        go_wp2_with fail
        refine HDv.out.mono ?_
        rintro e3 w3 ⟨q3, c3, p3, d3, rfl, _, hr3, hb3⟩
        dsimp only
        have HP3 := Lib.hid (HPr.out p3 d3 w3 hr3)
        have Hb3 := Lib.hid (RowF.below Hb.out (Nat.le_refl _) hb3)
        have HW3 := Lib.hid (HW.out.trans (hb3.mono HW.out.size))
        clear hr3 hb3 HDv HPr Ha Hb HW
        go_wp2_with fail
        refine HP3.out.mono ?_
        rintro e4 w4 ⟨p4, c4, rfl, hr4, hb4⟩
        dsimp only
        have Hr4 := Lib.hid hr4
        have Hb4 := Lib.hid (RowF.below Hb3.out (Nat.le_refl _) hb4)
        have HW4 := Lib.hid (HW3.out.trans (hb4.mono HW3.out.size))
        clear hr4 hb4 HP3 Hb3 HW3
        go_wp2_with fail
        go_roundw
        case rel => exact ⟨k, m, l, g, prC r l, q, p4, d, c4, by omega, hm, by omega, rfl, rfl, Hb4, Hr4, HB2, Hge, Hpb, Hcg, Hpt, HR2, HW4⟩
        case measure => simp; omega
    · obtain rfl : 0 = m := by omega
      have hHR := HR.out
      rw [gcS_end] at hHR
      cases hHR
      go_wp2_with fail
      go_ret
      exact ⟨p, c, rfl, Ha.out, HW.out⟩
end Go.Proofs.YtmbamcpndbimaaaDoor
