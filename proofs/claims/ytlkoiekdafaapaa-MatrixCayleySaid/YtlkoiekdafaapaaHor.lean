/- Horner's scheme with the coefficients of the characteristic polynomial. -/
import Derived.Test.YtlkoiekdafaapaaDet
import Derived.Test.YtlkoiekdafaapaaAlg
namespace Go.Proofs.Ytlkoiekdafaapaa
/-- The sums of Horner's scheme: the matrix on the right. -/
def horN (n : Nat) (A : Nat → Nat → Int) : Nat → Nat → Nat → Int
  | 0 => oneF
  | j + 1 => fun i k => mulF n (horN n A j) A i k + if i = k then chrP n A n (n - 1 - j) else 0
theorem chrP_at {n : Nat} (A : Nat → Nat → Int) {j : Nat} (hj : j < n) : chrP n A n (n - 1 - j) = chrC n A j := by
  unfold chrP
  rw [if_neg (by omega), if_pos (by omega), show n - 1 - (n - 1 - j) = j from by omega]
theorem chr_comm (n : Nat) (A : Nat → Nat → Int) (j : Nat) : ∀ i k, i < n → k < n → mulF n A (chrM n A j) i k = mulF n (chrM n A j) A i k := by
  induction j with
  | zero =>
    intro i k hi hk
    exact (mulF_one_right n A i k hk).trans (mulF_one_left n A i k hi).symm
  | succ j ih =>
    intro i k hi hk
    have e : ∀ i k, chrM n A (j + 1) i k = mulF n A (chrM n A j) i k + chrC n A j * oneF i k := by
      intro i k
      show mulF n A (chrM n A j) i k + (if i = k then chrC n A j else 0) = _
      unfold oneF
      split
      · rw [Int.mul_one]
      · rw [Int.mul_zero]
    have e1 : mulF n A (chrM n A (j + 1)) i k = mulF n A (mulF n A (chrM n A j)) i k + chrC n A j * A i k := by
      show dotN (fun l => A i l * chrM n A (j + 1) l k) n = _
      rw [dotN_congr (g := fun l => A i l * mulF n A (chrM n A j) l k + chrC n A j * (A i l * oneF l k)) fun l _ => by rw [e l k, Int.mul_add, Int.mul_left_comm]]
      rw [dotN_add, dotN_mul]
      have h := mulF_one_right n A i k hk
      unfold mulF at h
      rw [h]
      rfl
    have e2 : mulF n (chrM n A (j + 1)) A i k = mulF n (mulF n A (chrM n A j)) A i k + chrC n A j * A i k := by
      show dotN (fun l => chrM n A (j + 1) i l * A l k) n = _
      rw [dotN_congr (g := fun l => mulF n A (chrM n A j) i l * A l k + chrC n A j * (oneF i l * A l k)) fun l _ => by rw [e i l, Int.add_mul, Int.mul_assoc]]
      rw [dotN_add, dotN_mul]
      have h := mulF_one_left n A i k hi
      unfold mulF at h
      rw [h]
      rfl
    rw [e1, e2, mulF_assoc]
    congr 1
    exact mulF_congr (fun _ _ => rfl) fun l hl => ih l k hl hk
theorem hor_chr (n : Nat) (A : Nat → Nat → Int) (j : Nat) (hj : j ≤ n) : ∀ i k, i < n → k < n → horN n A j i k = chrM n A j i k := by
  induction j with
  | zero => intro i k _ _; rfl
  | succ j ih =>
    intro i k hi hk
    show mulF n (horN n A j) A i k + (if i = k then chrP n A n (n - 1 - j) else 0) = mulF n A (chrM n A j) i k + if i = k then chrC n A j else 0
    rw [chrP_at A (by omega), chr_comm n A j i k hi hk, mulF_congr (fun l hl => ih (by omega) i l hi hl) fun _ _ => rfl]
theorem hor_last (n : Nat) (h1 : 0 < n) (h4 : n ≤ 4) (A : Nat → Nat → Int) (i k : Nat) (hi : i < n) (hk : k < n) : horN n A n i k = 0 := by
  rw [hor_chr n A n (Nat.le_refl _) i k hi hk]
  exact chr_last n h1 h4 A i k hi hk
theorem chrP_top (n : Nat) (A : Nat → Nat → Int) : chrP n A n n = 1 := if_pos rfl
theorem chrP_trace {n : Nat} (h1 : 0 < n) (A : Nat → Nat → Int) : chrP n A n (n - 1) = -dotN (fun i => A i i) n := by
  have h := chrP_at (n := n) A (j := 0) h1
  rw [Nat.sub_zero] at h
  rw [h]
  show (-(dotN (fun i => mulF n A (chrM n A 0) i i) n)) / ((0 + 1 : Nat) : Int) = _
  have e : dotN (fun i => mulF n A (chrM n A 0) i i) n = dotN (fun i => A i i) n := dotN_congr fun i hi => mulF_one_right n A i i hi
  rw [e]
  exact Int.ediv_one _
end Go.Proofs.Ytlkoiekdafaapaa
