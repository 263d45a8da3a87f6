/- Plain laws of digits: sums, differences, products, short division. -/
import Derived.Test.YtlkajmdcffemeaaInt2
namespace Go.Proofs.Ytlkajmdcffemeaa

theorem digList_succ (F : Nat → Nat) (k : Nat) : digList F (k + 1) = digList F k ++ [F k] := by simp [digList, List.range_succ]
theorem val_append (xs ys : List Nat) : val (xs ++ ys) = val xs + 4294967296 ^ xs.length * val ys := by
  have h := val_split (xs ++ ys) xs.length
  simpa using h
theorem val_one (x : Nat) : val [x] = x := by simp [val]
theorem val_digList_succ (F : Nat → Nat) (k : Nat) : val (digList F (k + 1)) = val (digList F k) + 4294967296 ^ k * F k := by
  rw [digList_succ, val_append, val_one, digList_len]
theorem val_digList_lt {F : Nat → Nat} (h : ∀ j, F j < 4294967296) (k : Nat) : val (digList F k) < 4294967296 ^ k := by
  have := val_lt (digList_dg (F := F) (n := k) fun j _ => h j)
  rwa [digList_len] at this
theorem val_take_over (xs : List Nat) (k : Nat) : val (xs.take (k + 1)) = val (xs.take k) + 4294967296 ^ k * xs.getD k 0 := by
  by_cases hk : k < xs.length
  · exact val_take_succ hk
  · rw [List.take_of_length_le (by omega), List.take_of_length_le (by omega), List.getD_eq_getElem?_getD, List.getElem?_eq_none (by omega)]; simp
theorem getD_over (xs : List Nat) {k : Nat} (hk : xs.length ≤ k) : xs.getD k 0 = 0 := by
  rw [List.getD_eq_getElem?_getD, List.getElem?_eq_none hk]; rfl
theorem digList_congr {F G : Nat → Nat} {n : Nat} (h : ∀ j, j < n → F j = G j) : digList F n = digList G n := by
  unfold digList
  exact List.map_congr_left fun j hj => h j (List.mem_range.1 hj)

/-- Carries and digits of a sum. -/
def cr (xs ys : List Nat) : Nat → Nat
  | 0 => 0
  | j + 1 => (cr xs ys j + xs.getD j 0 + ys.getD j 0) / 4294967296
def sumD (xs ys : List Nat) (j : Nat) : Nat := (cr xs ys j + xs.getD j 0 + ys.getD j 0) % 4294967296
theorem cr_le {xs ys : List Nat} (hx : Dg xs) (hy : Dg ys) : ∀ j, cr xs ys j ≤ 1
  | 0 => by simp [cr]
  | j + 1 => by
    have := cr_le hx hy j
    have := hx.getD j
    have := hy.getD j
    simp only [cr]; omega
theorem sum_val (xs ys : List Nat) : ∀ k, val (digList (sumD xs ys) k) + 4294967296 ^ k * cr xs ys k = val (xs.take k) + val (ys.take k)
  | 0 => by simp [cr, digList, val]
  | k + 1 => by
    have h := sum_val xs ys k
    rw [val_digList_succ, val_take_over, val_take_over, Nat.pow_succ]
    have e : sumD xs ys k + 4294967296 * cr xs ys (k + 1) = cr xs ys k + xs.getD k 0 + ys.getD k 0 := by
      simp only [sumD, cr]; omega
    have h2 : 4294967296 ^ k * sumD xs ys k + 4294967296 ^ k * 4294967296 * cr xs ys (k + 1) = 4294967296 ^ k * cr xs ys k + 4294967296 ^ k * xs.getD k 0 + 4294967296 ^ k * ys.getD k 0 := by
      rw [Nat.mul_assoc, ← Nat.mul_add, e, Nat.mul_add, Nat.mul_add]
    omega
theorem sum_all {xs ys : List Nat} (hx : Dg xs) (hy : Dg ys) (hl : ys.length ≤ xs.length) : val (digList (sumD xs ys) (xs.length + 1)) = val xs + val ys := by
  have h := sum_val xs ys xs.length
  rw [List.take_of_length_le (Nat.le_refl _), List.take_of_length_le hl] at h
  rw [val_digList_succ, ← h]
  have : sumD xs ys xs.length = cr xs ys xs.length := by
    have := cr_le hx hy xs.length
    simp only [sumD]; rw [getD_over xs (Nat.le_refl _), getD_over ys hl]; omega
  rw [this]

/-- Borrows and digits of a difference. -/
def bw (xs ys : List Nat) : Nat → Nat
  | 0 => 0
  | j + 1 => if xs.getD j 0 < bw xs ys j + ys.getD j 0 then 1 else 0
theorem bw_le (xs ys : List Nat) : ∀ j, bw xs ys j ≤ 1
  | 0 => by simp [bw]
  | j + 1 => by simp only [bw]; split <;> omega
def difD (xs ys : List Nat) (j : Nat) : Nat := xs.getD j 0 + 4294967296 * bw xs ys (j + 1) - (bw xs ys j + ys.getD j 0)
theorem difD_lt {xs ys : List Nat} (hx : Dg xs) (_ : Dg ys) (j : Nat) : difD xs ys j < 4294967296 := by
  have := hx.getD j
  have := bw_le xs ys j
  simp only [difD, bw]; split <;> omega
theorem difD_eq {xs ys : List Nat} (hy : Dg ys) (j : Nat) : difD xs ys j + (bw xs ys j + ys.getD j 0) = xs.getD j 0 + 4294967296 * bw xs ys (j + 1) := by
  have := hy.getD j
  have := bw_le xs ys j
  simp only [difD, bw]; split <;> omega
theorem dif_val {xs ys : List Nat} (hy : Dg ys) : ∀ k, val (digList (difD xs ys) k) + val (ys.take k) = val (xs.take k) + 4294967296 ^ k * bw xs ys k
  | 0 => by simp [bw, digList, val]
  | k + 1 => by
    have h := dif_val (xs := xs) hy k
    rw [val_digList_succ, val_take_over, val_take_over, Nat.pow_succ]
    have e := difD_eq (xs := xs) hy k
    have h2 : 4294967296 ^ k * difD xs ys k + 4294967296 ^ k * bw xs ys k + 4294967296 ^ k * ys.getD k 0 = 4294967296 ^ k * xs.getD k 0 + 4294967296 ^ k * 4294967296 * bw xs ys (k + 1) := by
      rw [Nat.mul_assoc, ← Nat.mul_add, ← Nat.mul_add, ← Nat.mul_add, ← e]; congr 1; omega
    omega
theorem dif_all {xs ys : List Nat} (hx : Dg xs) (hy : Dg ys) (hl : ys.length ≤ xs.length) (h : val ys ≤ val xs) : val (digList (difD xs ys) xs.length) = val xs - val ys := by
  have h1 := dif_val (xs := xs) hy xs.length
  rw [List.take_of_length_le (Nat.le_refl _), List.take_of_length_le hl] at h1
  have h2 := val_digList_lt (F := difD xs ys) (difD_lt hx hy) xs.length
  have h3 := bw_le xs ys xs.length
  obtain h4 | h4 : bw xs ys xs.length = 0 ∨ bw xs ys xs.length = 1 := by omega
  · rw [h4] at h1; omega
  · rw [h4] at h1; omega

/-- One step of a row of a product. -/
theorem mul_step {F G : Nat → Nat} {V i k a b c c' : Nat} (h : val (digList F (i + k)) + 4294967296 ^ (i + k) * c = val (digList G (i + k)) + 4294967296 ^ i * (a * V))
    (hs : F (i + k) + 4294967296 * c' = a * b + G (i + k) + c) :
    val (digList F (i + k + 1)) + 4294967296 ^ (i + k + 1) * c' = val (digList G (i + k + 1)) + 4294967296 ^ i * (a * (V + 4294967296 ^ k * b)) := by
  rw [val_digList_succ, val_digList_succ, Nat.pow_succ]
  have h2 : 4294967296 ^ (i + k) * F (i + k) + 4294967296 ^ (i + k) * 4294967296 * c' = 4294967296 ^ (i + k) * (a * b) + 4294967296 ^ (i + k) * G (i + k) + 4294967296 ^ (i + k) * c := by
    rw [Nat.mul_assoc, ← Nat.mul_add, hs, Nat.mul_add, Nat.mul_add]
  have h3 : 4294967296 ^ i * (a * (V + 4294967296 ^ k * b)) = 4294967296 ^ i * (a * V) + 4294967296 ^ (i + k) * (a * b) := by
    rw [Nat.mul_add, Nat.mul_add, Nat.pow_add]
    congr 1
    rw [Nat.mul_left_comm a, Nat.mul_assoc]
  omega
theorem mul_row {F G : Nat → Nat} {X V i m a c : Nat} (h : val (digList F (i + m)) + 4294967296 ^ (i + m) * c = val (digList G (i + m)) + 4294967296 ^ i * (a * V))
    (hG : val (digList G (i + m)) = X * V) (hF : F (i + m) = c) : val (digList F (i + 1 + m)) = (X + 4294967296 ^ i * a) * V := by
  rw [show i + 1 + m = i + m + 1 from by omega, val_digList_succ, hF, h, hG, Nat.add_mul, Nat.mul_assoc]
/-- One step of short division. -/
theorem short_step {r x y n q Q V : Nat} (hV : V = Q * y + r) (hn : n = r * 4294967296 + x) (hq : q = n / y) : x + 4294967296 * V = (q + 4294967296 * Q) * y + n % y := by
  subst hV hq
  have := Nat.div_add_mod n y
  rw [Nat.add_mul, Nat.mul_add, Nat.mul_assoc, Nat.mul_comm (n / y) y]
  omega
theorem val_drop_digList {F : Nat → Nat} {n k : Nat} (hk : k < n) : val ((digList F n).drop k) = F k + 4294967296 * val ((digList F n).drop (k + 1)) := by
  rw [val_drop (by rw [digList_len]; exact hk), digList_getD F hk]
end Go.Proofs.Ytlkajmdcffemeaa
