/- Approximate eigenvectors and refusals: the plain law. -/
import Derived.Test.YtlaoijfphkhchaaB14
namespace Go.Proofs.Ytlaoijfphkhchaa
theorem dotN_le {f g : Nat → Int} {n : Nat} (h : ∀ j, j < n → f j ≤ g j) : dotN f n ≤ dotN g n := by
  induction n with
  | zero => exact Int.le_refl _
  | succ n ih =>
    have h1 := ih fun j hj => h j (by omega)
    have h2 := h n (by omega)
    rw [dotN, dotN]; omega
/-- The sum of v over the ends of the edges that leave s. -/
def smE (fr te : Nat → Nat) (v : Nat → Int) (n s : Nat) : Int := dotN (fun e => if fr e = s then v (te e) else 0) n
theorem smE_succ (fr te : Nat → Nat) (v : Nat → Int) (n s : Nat) : smE fr te v (n + 1) s = smE fr te v n s + if fr n = s then v (te n) else 0 := rfl
theorem smE_congr {fr te : Nat → Nat} {v x : Nat → Int} {n N : Nat} (ht : ∀ e, e < n → te e < N) (h : ∀ s, s < N → v s = x s) (s : Nat) : smE fr te v n s = smE fr te x n s :=
  dotN_congr fun e he => by rw [h _ (ht e he)]
theorem smE_mono {fr te : Nat → Nat} {v x : Nat → Int} {n N : Nat} (ht : ∀ e, e < n → te e < N) (h : ∀ s, s < N → v s ≤ x s) (s : Nat) : smE fr te v n s ≤ smE fr te x n s :=
  dotN_le fun e he => by
    have := h _ (ht e he)
    split <;> omega
theorem smE_zero (fr te : Nat → Nat) (n s : Nat) : smE fr te (fun _ => 0) n s = 0 := by
  unfold smE
  rw [dotN_congr (g := fun _ => 0) fun e _ => by split <;> rfl, dotN_zero]
theorem smE_nonneg {fr te : Nat → Nat} {v : Nat → Int} {n N : Nat} (ht : ∀ e, e < n → te e < N) (h : ∀ s, s < N → 0 ≤ v s) (s : Nat) : 0 ≤ smE fr te v n s := by
  have := smE_mono (fr := fr) (v := fun _ => 0) ht h s
  rwa [smE_zero] at this
theorem smE_le {fr te : Nat → Nat} {v : Nat → Int} {n N : Nat} {B : Int} (hB : 0 ≤ B) (ht : ∀ e, e < n → te e < N) (h : ∀ s, s < N → v s ≤ B) (s : Nat) : smE fr te v n s ≤ (n : Int) * B := by
  have h1 := smE_mono (fr := fr) (x := fun _ => B) ht h s
  have h2 : smE fr te (fun _ => B) n s ≤ dotN (fun _ => B) n := dotN_le fun e _ => by dsimp only; split <;> omega
  have h3 : dotN (fun _ => B) n = (n : Int) * B := dotN_one B n
  rw [h3] at h2
  exact Int.le_trans h1 h2
/-- The vector has the property: its sums are at least m times its components. -/
def Hld (fr te : Nat → Nat) (n N m : Nat) (v : Nat → Int) : Prop := ∀ s, s < N → 0 ≤ v s ∧ (m : Int) * v s ≤ smE fr te v n s
/-- u is the greatest vector below v that has the property. -/
def GrO (fr te : Nat → Nat) (n N m : Nat) (v u : Nat → Int) : Prop := (∀ s, s < N → u s ≤ v s) ∧ Hld fr te n N m u ∧ ∀ x, Hld fr te n N m x → (∀ s, s < N → x s ≤ v s) → ∀ s, s < N → x s ≤ u s
/-- One round. -/
def stE (fr te : Nat → Nat) (n m : Nat) (v : Nat → Int) (s : Nat) : Int := if smE fr te v n s / (m : Int) < v s then smE fr te v n s / (m : Int) else v s
section
variable {fr te : Nat → Nat} {n N m : Nat}
theorem Hld.congr {v x : Nat → Int} (ht : ∀ e, e < n → te e < N) (e : ∀ s, s < N → v s = x s) (h : Hld fr te n N m v) : Hld fr te n N m x := fun s hs => by
  have := h s hs
  rw [e s hs, smE_congr ht e] at this
  exact this
theorem GrO.unique {v u x : Nat → Int} (h : GrO fr te n N m v u) (k : GrO fr te n N m v x) : ∀ s, s < N → u s = x s := fun s hs =>
  Int.le_antisymm (k.2.2 u h.2.1 h.1 s hs) (h.2.2 x k.2.1 k.1 s hs)
theorem GrO.congr {v w u x : Nat → Int} (ht : ∀ e, e < n → te e < N) (hv : ∀ s, s < N → v s = w s) (hu : ∀ s, s < N → u s = x s) (h : GrO fr te n N m v u) : GrO fr te n N m w x := by
  refine ⟨fun s hs => by rw [← hv s hs, ← hu s hs]; exact h.1 s hs, h.2.1.congr ht hu, fun y hy hl s hs => ?_⟩
  rw [← hu s hs]
  exact h.2.2 y hy (fun t h2 => by rw [hv t h2]; exact hl t h2) s hs
theorem GrO.self {v : Nat → Int} (h : Hld fr te n N m v) : GrO fr te n N m v v := ⟨fun _ _ => Int.le_refl _, h, fun _ _ hl => hl⟩
theorem GrO.nonneg {v u : Nat → Int} (h : GrO fr te n N m v u) : ∀ s, s < N → 0 ≤ u s := fun s hs => (h.2.1 s hs).1
theorem stE_le (v : Nat → Int) (s : Nat) : stE fr te n m v s ≤ v s := by unfold stE; split <;> omega
theorem stE_nonneg {v : Nat → Int} (ht : ∀ e, e < n → te e < N) (h : ∀ s, s < N → 0 ≤ v s) {s : Nat} (hs : s < N) : 0 ≤ stE fr te n m v s := by
  unfold stE
  split
  · exact Int.ediv_nonneg (smE_nonneg ht h s) (by omega)
  · exact h s hs
/-- What a round keeps: nothing with the property is lost. -/
theorem stE_keep {v x : Nat → Int} (hm : 0 < m) (ht : ∀ e, e < n → te e < N) (hx : Hld fr te n N m x) (h : ∀ s, s < N → x s ≤ v s) : ∀ s, s < N → x s ≤ stE fr te n m v s := fun s hs => by
  unfold stE
  split
  · refine Int.le_ediv_of_mul_le (by omega) ?_
    rw [Int.mul_comm]
    exact Int.le_trans (hx s hs).2 (smE_mono ht h s)
  · exact h s hs
theorem stE_fix {v : Nat → Int} (hm : 0 < m) (h0 : ∀ s, s < N → 0 ≤ v s) (h : ∀ s, s < N → stE fr te n m v s = v s) : Hld fr te n N m v := fun s hs => by
  refine ⟨h0 s hs, ?_⟩
  have h1 := h s hs
  unfold stE at h1
  have h2 : v s ≤ smE fr te v n s / (m : Int) := by
    split at h1 <;> omega
  have h3 := Int.mul_le_of_le_ediv (by omega) h2
  rwa [Int.mul_comm] at h3
/-- A sum of components, by which the rounds end. -/
def szE (v : Nat → Int) (N : Nat) : Nat := (dotN v N).toNat
theorem stE_less {v : Nat → Int} (ht : ∀ e, e < n → te e < N) (h0 : ∀ s, s < N → 0 ≤ v s) (h : ¬ ∀ s, s < N → stE fr te n m v s = v s) : szE (stE fr te n m v) N < szE v N := by
  have key : ∀ k, k ≤ N → 0 ≤ dotN (stE fr te n m v) k ∧ dotN (stE fr te n m v) k ≤ dotN v k ∧ ((∃ s, s < k ∧ stE fr te n m v s ≠ v s) → dotN (stE fr te n m v) k < dotN v k) := by
    intro k
    induction k with
    | zero => intro _; exact ⟨Int.le_refl _, Int.le_refl _, fun ⟨s, hs, _⟩ => absurd hs (Nat.not_lt_zero _)⟩
    | succ k ih =>
      intro hk
      obtain ⟨a, b, c⟩ := ih (by omega)
      have h1 := stE_le (fr := fr) (te := te) (n := n) (m := m) v k
      have h2 := stE_nonneg (fr := fr) (m := m) ht h0 (s := k) (by omega)
      simp only [dotN]
      refine ⟨by omega, by omega, ?_⟩
      rintro ⟨s, hs, hne⟩
      by_cases e : s = k
      · subst e; omega
      · have := c ⟨s, by omega, hne⟩
        omega
  obtain ⟨a, b, c⟩ := key N (Nat.le_refl _)
  have : ∃ s, s < N ∧ stE fr te n m v s ≠ v s := by
    refine Classical.byContradiction fun hn => h fun s hs => Classical.byContradiction fun hne => hn ⟨s, hs, hne⟩
  have := c this
  unfold szE
  omega
/-- The greatest vector exists (used for examples). -/
theorem GrO.of_end {v u : Nat → Int} (h1 : ∀ s, s < N → u s ≤ v s) (h2 : Hld fr te n N m u) (h3 : ∀ x, Hld fr te n N m x → (∀ s, s < N → x s ≤ v s) → ∀ s, s < N → x s ≤ u s) : GrO fr te n N m v u := ⟨h1, h2, h3⟩
/-- A refusal. -/
def Rfs (fr te : Nat → Nat) (n N m : Nat) (u : Nat → Int) : Prop := ∀ s, s < N → 0 < u s ∧ smE fr te u n s < (m : Int) * u s
/-- A place where v is greatest in comparison with u. -/
theorem ratio_max {u v : Nat → Int} : ∀ N, 0 < N → (∀ s, s < N → 0 < u s) → ∃ s, s < N ∧ ∀ t, t < N → v t * u s ≤ v s * u t
  | 0, h, _ => absurd h (Nat.lt_irrefl _)
  | 1, _, _ => ⟨0, by omega, fun t ht => by rw [show t = 0 from by omega]; exact Int.le_refl _⟩
  | N + 2, _, hu => by
    obtain ⟨s, hs, h⟩ := ratio_max (N + 1) (by omega) fun s hs => hu s (by omega)
    have us := hu s (by omega)
    have un := hu (N + 1) (by omega)
    by_cases hc : v (N + 1) * u s ≤ v s * u (N + 1)
    · refine ⟨s, by omega, fun t ht => ?_⟩
      by_cases e : t = N + 1
      · rw [e]; exact hc
      · exact h t (by omega)
    · refine ⟨N + 1, by omega, fun t ht => ?_⟩
      by_cases e : t = N + 1
      · rw [e]; exact Int.le_refl _
      · have h1 := h t (by omega)
        have h2 : v s * u (N + 1) ≤ v (N + 1) * u s := by omega
        have ut := hu t (by omega)
        have h3 := Int.mul_le_mul_of_nonneg_right h1 (Int.le_of_lt un)
        have h4 := Int.mul_le_mul_of_nonneg_right h2 (Int.le_of_lt ut)
        have h5 : v t * u (N + 1) * u s ≤ v (N + 1) * u t * u s := by
          have e1 : v t * u (N + 1) * u s = v t * u s * u (N + 1) := by grind
          have e2 : v (N + 1) * u t * u s = v (N + 1) * u s * u t := by grind
          have e3 : v s * u t * u (N + 1) = v s * u (N + 1) * u t := by grind
          omega
        exact Int.le_of_mul_le_mul_right h5 us
theorem refuse_zero {u v : Nat → Int} (ht : ∀ e, e < n → te e < N) (hu : Rfs fr te n N m u) (hv : Hld fr te n N m v) : ∀ s, s < N → v s = 0 := by
  intro s0 hs0
  obtain ⟨s, hs, h⟩ := ratio_max (u := u) (v := v) N (by omega) fun s hs => (hu s hs).1
  obtain ⟨us, ul⟩ := hu s hs
  obtain ⟨v0, vl⟩ := hv s hs
  have h1 : smE fr te v n s * u s ≤ v s * smE fr te u n s := by
    unfold smE
    rw [← dotN_mul_right, ← dotN_mul]
    refine dotN_le fun e he => ?_
    split
    · exact h _ (ht e he)
    · simp
  have h2 := Int.mul_le_mul_of_nonneg_right vl (Int.le_of_lt us)
  have h3 : v s = 0 := by
    refine Classical.byContradiction fun hne => ?_
    have h4 : v s * smE fr te u n s < v s * ((m : Int) * u s) := Int.mul_lt_mul_of_pos_left ul (by omega)
    have e : v s * ((m : Int) * u s) = (m : Int) * v s * u s := by grind
    omega
  have h5 := h s0 hs0
  rw [h3, Int.zero_mul] at h5
  have h6 := (hv s0 hs0).1
  refine Classical.byContradiction fun hne => ?_
  have := Int.mul_pos (show 0 < v s0 by omega) us
  omega
end
/-- A matrix with no positive number beside the diagonal, and a positive vector that it makes positive. -/
def ZMt (n : Nat) (M : Nat → Nat → Int) (u : Nat → Int) : Prop := ∀ i, i < n → (∀ k, k < n → k ≠ i → M i k ≤ 0) ∧ 0 < u i ∧ 0 < dotN (fun k => M i k * u k) n
theorem ZMt.mono {n : Nat} {M : Nat → Nat → Int} {u : Nat → Int} (h : ZMt n M u) {x : Nat → Int} (hx : ∀ i, i < n → 0 ≤ dotN (fun k => M i k * x k) n) : ∀ i, i < n → 0 ≤ x i := by
  intro i0 hi0
  obtain ⟨s, hs, hr⟩ := ratio_max (u := u) (v := fun k => -x k) n (by omega) fun s hs => (h s hs).2.1
  obtain ⟨h1, us, h3⟩ := h s hs
  have hxs : 0 ≤ x s := by
    refine Classical.byContradiction fun hne => ?_
    have h4 : dotN (fun k => M s k * x k) n * u s ≤ x s * dotN (fun k => M s k * u k) n := by
      rw [← dotN_mul_right, ← dotN_mul]
      refine dotN_le fun k hk => ?_
      by_cases e : k = s
      · subst e
        exact Int.le_of_eq (by grind)
      · have h5 := h1 k hk e
        have h6 := hr k hk
        have h7 : x s * u k ≤ x k * u s := by
          have e1 : -x k * u s = -(x k * u s) := Int.neg_mul ..
          have e2 : -x s * u k = -(x s * u k) := Int.neg_mul ..
          omega
        have h8 : M s k * (x k * u s) ≤ M s k * (x s * u k) := Int.mul_le_mul_of_nonpos_left h5 h7
        have e3 : M s k * x k * u s = M s k * (x k * u s) := Int.mul_assoc ..
        have e4 : x s * (M s k * u k) = M s k * (x s * u k) := by grind
        omega
    have h5 := Int.mul_nonneg (hx s hs) (Int.le_of_lt us)
    have h6 : x s * dotN (fun k => M s k * u k) n < 0 := Int.mul_neg_of_neg_of_pos (by omega) h3
    omega
  have h9 := hr i0 hi0
  have e1 : -x i0 * u s = -(x i0 * u s) := Int.neg_mul ..
  have e2 : -x s * u i0 = -(x s * u i0) := Int.neg_mul ..
  have h10 := Int.mul_nonneg hxs (Int.le_of_lt (h i0 hi0).2.1)
  refine Classical.byContradiction fun hne => ?_
  have := Int.mul_neg_of_neg_of_pos (show x i0 < 0 by omega) us
  omega
theorem ZMt.det {n : Nat} : ∀ {M : Nat → Nat → Int} {u : Nat → Int}, ZMt n M u → 0 < detL n M := by
  induction n with
  | zero => intro _ _ _; exact Int.one_pos
  | succ n ih =>
    intro M u h
    refine Classical.byContradiction fun hne => ?_
    have hx := h.mono (x := fun k => -adjL (n + 1) M k 0) fun i hi => by
      have h1 : dotN (fun k => M i k * adjL (n + 1) M k 0) (n + 1) = if i = 0 then detL (n + 1) M else 0 := mulF_adj (n + 1) M i 0 hi (by omega)
      rw [dotN_congr (g := fun k => -(M i k * adjL (n + 1) M k 0)) fun k _ => Int.mul_neg .., dotN_neg, h1]
      split <;> omega
    have h0 := hx 0 (by omega)
    have h2 : 0 < adjL (n + 1) M 0 0 := by
      show 0 < sgF 0 (detL n (woF M 0 0))
      have : ZMt n (woF M 0 0) (fun k => u (k + 1)) := by
        intro i hi
        obtain ⟨a, b, c⟩ := h (i + 1) (by omega)
        refine ⟨fun k hk hne => ?_, b, ?_⟩
        · have := (h (i + 1) (by omega)).1 (k + 1) (by omega) (by omega)
          exact this
        · rw [dotN_first] at c
          have h3 := a 0 (by omega) (by omega)
          have h4 := (h 0 (by omega)).2.1
          have h5 := Int.mul_le_mul_of_nonneg_right h3 (Int.le_of_lt h4)
          have e : dotN (fun k => woF M 0 0 i k * u (k + 1)) n = dotN (fun j => M (i + 1) (j + 1) * u (j + 1)) n := dotN_congr fun j _ => rfl
          rw [e]
          omega
      exact ih this
    omega
theorem ZMt.adj {n : Nat} {M : Nat → Nat → Int} {u : Nat → Int} (h : ZMt n M u) {x : Nat → Int} (hx : ∀ i, i < n → x i = dotN (fun j => adjL n M i j) n) (i : Nat) (hi : i < n) : 0 < x i ∧ 0 < dotN (fun k => M i k * x k) n := by
  have hd := h.det
  have hm : ∀ i, i < n → dotN (fun k => M i k * x k) n = detL n M := fun i hi => by
    rw [dotN_congr (g := fun k => dotN (fun j => M i k * adjL n M k j) n) fun k hk => by rw [hx k hk, dotN_mul], dotN_swap,
      dotN_congr (g := fun j => if i = j then detL n M else 0) fun j hj => show dotN (fun k => M i k * adjL n M k j) n = _ from mulF_adj n M i j hi hj, dotN_pick _ n i hi]
  have h0 := h.mono (x := x) fun i hi => by rw [hm i hi]; omega
  refine ⟨?_, by rw [hm i hi]; exact hd⟩
  refine Classical.byContradiction fun hne => ?_
  have hz : x i = 0 := by have := h0 i hi; omega
  have h1 : dotN (fun k => M i k * x k) n ≤ dotN (fun _ => 0) n := dotN_le fun k hk => by
    by_cases e : k = i
    · rw [e, hz, Int.mul_zero]; exact Int.le_refl _
    · have a := (h i hi).1 k hk e
      have b := h0 k hk
      have := Int.mul_le_mul_of_nonneg_right a b
      omega
  rw [hm i hi, dotN_zero] at h1
  omega
/-- The matrix of which the refusal is made. -/
def mIA (m : Nat) (A : Nat → Nat → Int) (i k : Nat) : Int := (if i = k then (m : Int) else 0) - A i k
theorem mIA_dot (m N : Nat) (A : Nat → Nat → Int) (x : Nat → Int) (i : Nat) (hi : i < N) : dotN (fun k => mIA m A i k * x k) N = (m : Int) * x i - dotN (fun k => A i k * x k) N := by
  have e : dotN (fun k => mIA m A i k * x k) N = dotN (fun k => (if i = k then (m : Int) * x k else 0) + -(A i k * x k)) N := dotN_congr fun k _ => by
    unfold mIA
    rw [Int.sub_mul]
    split <;> omega
  rw [e, dotN_add, dotN_pick _ N i hi, dotN_neg]
  omega
theorem refuse_adj {fr te : Nat → Nat} {n N m : Nat} {A : Nat → Nat → Int} (hA : ∀ s t, 0 ≤ A s t) (hs : ∀ (v : Nat → Int) (s : Nat), s < N → smE fr te v n s = dotN (fun t => A s t * v t) N) {u : Nat → Int} (hu : Rfs fr te n N m u)
    {x : Nat → Int} (hx : ∀ i, i < N → x i = dotN (fun j => adjL N (mIA m A) i j) N) : Rfs fr te n N m x := by
  have hz : ZMt N (mIA m A) u := fun i hi => by
    refine ⟨fun k hk hne => ?_, (hu i hi).1, ?_⟩
    · unfold mIA
      rw [if_neg (Ne.symm hne)]
      have := hA i k
      omega
    · rw [mIA_dot m N A u i hi, ← hs u i hi]
      have := (hu i hi).2
      omega
  intro i hi
  obtain ⟨h1, h2⟩ := hz.adj hx i hi
  rw [mIA_dot m N A x i hi, ← hs x i hi] at h2
  exact ⟨h1, by omega⟩
end Go.Proofs.Ytlaoijfphkhchaa
