/- The sums of principal minors are the coefficients, up to 4 rows. -/
import Derived.Test.YtlkoiekdafaapaaDet
namespace Go.Proofs.Ytlkoiekdafaapaa
/-- The sum of the principal minors of n more rows, from a row on, together with those that are taken. -/
def minS (N : Nat) (F : Nat → Nat → Int) : Nat → Nat → List Nat → Int
  | 0, _, t => detL t.length (fun i k => F (t.getD i 0) (t.getD k 0))
  | n + 1, from0, t => dotN (fun d => minS N F n (from0 + d + 1) (t ++ [from0 + d])) (N - from0)
set_option maxRecDepth 100000 in
set_option maxHeartbeats 4000000 in
theorem minS_top (N : Nat) (h1 : 0 < N) (h4 : N ≤ 4) (A : Nat → Nat → Int) (m : Nat) (hm : m ≤ N) : chrP N A N m = sgF (N - m) (minS N A (N - m) 0 []) := by
  have : N = 1 ∨ N = 2 ∨ N = 3 ∨ N = 4 := by omega
  unfold chrP
  rcases this with rfl | rfl | rfl | rfl
  · by_cases e : m = 1
    · subst e; rfl
    · have : m = 0 := by omega
      subst this
      rw [if_neg (by decide), if_pos (by decide), (chr1_all A).2 _ (by omega)]
      simp [minS, dotN, sgF, detL, c1]
  · by_cases e : m = 2
    · subst e; rfl
    · have : m = 0 ∨ m = 1 := by omega
      rcases this with rfl | rfl <;> rw [if_neg (by decide), if_pos (by decide), (chr2_all A).2 _ (by omega)] <;> simp [minS, dotN, sgF, detL, c2, woF]
  · by_cases e : m = 3
    · subst e; rfl
    · have : m = 0 ∨ m = 1 ∨ m = 2 := by omega
      rcases this with rfl | rfl | rfl <;> rw [if_neg (by decide), if_pos (by decide), (chr3_all A).2 _ (by omega)] <;> simp [minS, dotN, sgF, detL, c3, woF, e2F] <;> grind
  · by_cases e : m = 4
    · subst e; rfl
    · have : m = 0 ∨ m = 1 ∨ m = 2 ∨ m = 3 := by omega
      rcases this with rfl | rfl | rfl | rfl <;> rw [if_neg (by decide), if_pos (by decide), (chr4_all A).2 _ (by omega)] <;> simp [minS, dotN, sgF, detL, c4, woF, e2F, d3F] <;> grind
end Go.Proofs.Ytlkoiekdafaapaa
