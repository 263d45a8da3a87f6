/- The numbers of matrix.characteristic are of moderate size. The powers of a matrix are of moderate size. -/
import Derived.Test.YteoemijgdcpopaaDoorC13
import Derived.Test.YteoemijgdcpopaaDoorC14
namespace Go.Proofs.YteoemijgdcpopaaDoor
/-- A number of at most e bits. -/
def Bn (x : Int) (e : Nat) : Prop := x.natAbs ≤ 2 ^ e
theorem Bn.size {x : Int} {e : Nat} (h : Bn x e) (k : Nat) (he : e < 8 * k) : (canon x).mag.size ≤ k := by
  refine canon_size x ?_
  rw [show (256 : Nat) = 2 ^ 8 from rfl, ← Nat.pow_mul]
  exact Nat.lt_of_le_of_lt h (Nat.pow_lt_pow_right (by decide) he)
theorem Bn.up {x : Int} {e f : Nat} (h : Bn x e) (he : e ≤ f) : Bn x f := Nat.le_trans h (Nat.pow_le_pow_right (by decide) he)
theorem Bn.mul {x y : Int} {e f : Nat} (h : Bn x e) (g : Bn y f) : Bn (x * y) (e + f) := by
  unfold Bn at *
  rw [Int.natAbs_mul, Nat.pow_add]
  exact Nat.mul_le_mul h g
theorem Bn.add {x y : Int} {e : Nat} (h : Bn x e) (g : Bn y e) : Bn (x + y) (e + 1) := by
  unfold Bn at *
  rw [Nat.pow_succ]
  omega
theorem Bn.neg {x : Int} {e : Nat} (h : Bn x e) : Bn (-x) e := by
  unfold Bn at *
  omega
theorem Bn.zero (e : Nat) : Bn 0 e := Nat.zero_le _
theorem Bn.one (e : Nat) : Bn 1 e := Nat.pos_of_ne_zero (by simp)
theorem Bn.div {x k : Int} {e : Nat} (h : Bn x e) (hk : 0 < k) : Bn (x / k) e := by
  unfold Bn at *
  refine Nat.le_trans ?_ h
  have h1 := Int.mul_ediv_add_emod x k
  have h2 := Int.emod_nonneg x (show k ≠ 0 by omega)
  have h3 := Int.emod_lt_of_pos x hk
  generalize x / k = q at *
  generalize x % k = r at *
  by_cases hq : 0 ≤ q
  · have : q ≤ k * q := by
      have := Int.mul_le_mul_of_nonneg_right (show 1 ≤ k by omega) hq
      omega
    omega
  · have : k * q ≤ k * (-1) := Int.mul_le_mul_of_nonneg_left (by omega) (by omega)
    have h5 : k * (q + 1) ≤ 1 * (q + 1) := Int.mul_le_mul_of_nonpos_right (by omega) (by omega)
    rw [Int.mul_add] at h5
    omega
theorem Bn.dot {f : Nat → Int} {e m : Nat} (n : Nat) (hn : n ≤ 2 ^ m) (h : ∀ j, j < n → Bn (f j) e) : Bn (dotN f n) (e + m) := by
  have : ∀ j, j ≤ n → (dotN f j).natAbs ≤ j * 2 ^ e := by
    intro j
    induction j with
    | zero => intro _; simp [dotN]
    | succ j ih =>
      intro hj
      have h1 := ih (by omega)
      have h2 := h j (by omega)
      unfold Bn at h2
      rw [dotN, Nat.add_mul, Nat.one_mul]
      omega
  unfold Bn
  rw [Nat.pow_add, Nat.mul_comm]
  exact Nat.le_trans (this n (Nat.le_refl _)) (Nat.mul_le_mul_right _ hn)
/-- A matrix of numbers of at most e bits. -/
def BnM (r c : Nat) (F : Nat → Nat → Int) (e : Nat) : Prop := ∀ i k, i < r → k < c → Bn (F i k) e
theorem BnM.up {r c : Nat} {F : Nat → Nat → Int} {e f : Nat} (h : BnM r c F e) (he : e ≤ f) : BnM r c F f := fun i k hi hk => (h i k hi hk).up he
theorem BnM.small {r c : Nat} {F : Nat → Nat → Int} {e : Nat} (h : BnM r c F e) (he : e < 8 * 100000000) : Small r c F := fun i k hi hk => (h i k hi hk).size _ he
theorem BnM.mul {r n c : Nat} {F G : Nat → Nat → Int} {e f m : Nat} (h : BnM r n F e) (g : BnM n c G f) (hn : n ≤ 2 ^ m) : BnM r c (mulF n F G) (e + f + m) := fun i k hi hk => Bn.dot n hn fun j hj => (h i j hi hj).mul (g j k hj hk)
theorem BnM.add {r c : Nat} {F G : Nat → Nat → Int} {e : Nat} (h : BnM r c F e) (g : BnM r c G e) : BnM r c (fun i k => F i k + G i k) (e + 1) := fun i k hi hk => (h i k hi hk).add (g i k hi hk)
theorem BnM.smallP {r n c : Nat} {F G : Nat → Nat → Int} {e f m : Nat} (h : BnM r n F e) (g : BnM n c G f) (hn : n ≤ 2 ^ m) (he : e + f + m < 8 * 100000000) : SmallP r n c F G := fun i k hi hk =>
  ⟨fun j hj => (Bn.dot j (Nat.le_trans hj hn) fun l hl => (h i l hi (by omega)).mul (g l k (by omega) hk)).size _ he, fun j hj => ((h i j hi hj).mul (g j k hj hk)).size _ (by omega)⟩
theorem chrC_bn {n : Nat} {A : Nat → Nat → Int} {e f m : Nat} (h : BnM n n A e) (hn : n ≤ 2 ^ m) (j : Nat) (g : BnM n n (chrM n A j) f) : Bn (chrC n A j) (e + f + m + m) :=
  ((Bn.dot n hn fun i hi => h.mul g hn i i hi hi).neg).div (by omega)
theorem chrM_bn {n : Nat} {A : Nat → Nat → Int} {e m : Nat} (h : BnM n n A e) (hn : n ≤ 2 ^ m) (j : Nat) : BnM n n (chrM n A j) (j * (e + m + m + 1)) := by
  induction j with
  | zero =>
    intro i k _ _
    show Bn (if i = k then 1 else 0) _
    split
    · exact Bn.one _
    · exact Bn.zero _
  | succ j ih =>
    intro i k hi hk
    show Bn (mulF n A (chrM n A j) i k + if i = k then chrC n A j else 0) _
    have h1 := chrC_bn h hn j ih
    have h2 := h.mul ih hn i k hi hk
    refine ((h2.up (f := e + j * (e + m + m + 1) + m + m) (by omega)).add (y := if i = k then chrC n A j else 0) ?_).up ?_
    · split
      · exact h1
      · exact Bn.zero _
    · rw [Nat.add_mul]; omega
theorem chrOk_of {n : Nat} {A : Nat → Nat → Int} {e m : Nat} (h : BnM n n A e) (hn : n ≤ 2 ^ m) (hs : n * (e + m + m + 1) < 8 * 100000000) : ChrOk n A := by
  have hj : ∀ j, j < n → e + j * (e + m + m + 1) + m + m < 8 * 100000000 := fun j hj => by
    have h1 : (j + 1) * (e + m + m + 1) ≤ n * (e + m + m + 1) := Nat.mul_le_mul_right _ hj
    rw [Nat.add_mul, Nat.one_mul] at h1
    omega
  refine ⟨fun i k hi hk => ?_, fun j hl => (chrM_bn h hn j).small ?_, fun j hl => h.smallP (chrM_bn h hn j) hn ?_, fun j hl => (h.mul (chrM_bn h hn j) hn).small ?_, fun j hl i hi => ?_, fun j hl => ?_⟩
  · have := hj 0 (by omega)
    exact (h i k hi hk).size _ (by omega)
  · have := hj j hl; omega
  · have := hj j hl; omega
  · have := hj j hl; omega
  · exact (Bn.dot i (Nat.le_trans hi hn) fun l hl2 => h.mul (chrM_bn h hn j) hn l l (by omega) (by omega)).size _ (hj j hl)
  · exact (chrC_bn h hn j (chrM_bn h hn j)).size _ (hj j hl)
end Go.Proofs.YteoemijgdcpopaaDoor

namespace Go.Proofs.YteoemijgdcpopaaDoor
theorem powF_bn {n : Nat} {A : Nat → Nat → Int} {e m : Nat} (h : BnM n n A e) (hn : n ≤ 2 ^ m) (u : Nat) : BnM n n (powF n A u) (u * (e + m)) := by
  induction u with
  | zero =>
    intro i k _ _
    show Bn (if i = k then 1 else 0) _
    split
    · exact Bn.one _
    · exact Bn.zero _
  | succ u ih =>
    intro i k hi hk
    exact (ih.mul h hn i k hi hk).up (by rw [Nat.add_mul]; omega)
theorem powOk_of {n : Nat} {A : Nat → Nat → Int} {e m N : Nat} (h : BnM n n A e) (hn : n ≤ 2 ^ m) (hs : N * (e + m) + m < 8 * 100000000) : PowOk n A N := by
  refine ⟨fun u hu => (powF_bn h hn u).small ?_, fun u v huv => (powF_bn h hn u).smallP (powF_bn h hn v) hn ?_⟩
  · have := Nat.mul_le_mul_right (e + m) hu
    omega
  · have := Nat.mul_le_mul_right (e + m) huv
    rw [Nat.add_mul] at this
    omega
end Go.Proofs.YteoemijgdcpopaaDoor
