/- polynomial.primitive: the walk. -/
import Derived.Test.YtcafeffgaokiaaaJ24
import Derived.Test.YtcafeffgaokiaaaJ28
import Derived.Test.YtcafeffgaokiaaaJ20
namespace Go.Proofs.Ytcafeffgaokiaaa
open Go.RowKit Go.Shelf

theorem BoxAt.set2 {w : World} {g : Nat} {a b : Value} (h : BoxAt w g a b) (x y : Value) : BoxAt ((w.setCell ⟨g, 0, none⟩ x).setCell ⟨g, 1, none⟩ y) g x y := by
  obtain ⟨h1, h2, h3, h4, h5⟩ := h
  refine ⟨?_, ?_, ?_, ?_, by simpa using h5⟩
  · rw [World.cell?_setCell_other _ _ _ _ (by intro h; injection h with _ h; omega)]; exact World.cell?_setCell_same _ _ _ h1
  · exact World.cell?_setCell_same (u := b) _ _ _ (by rw [World.cell?_setCell_other _ _ _ _ (by intro h; injection h with _ h; omega)]; exact h2)
  · rw [World.frozen?_setCell, World.frozen?_setCell]; exact h3
  · rw [World.frozen?_setCell, World.frozen?_setCell]; exact h4
/-- A quotient without a rest. -/
theorem quo_exact (a k : Int) (hk : k ≠ 0) (h : k ∣ a) : quoZ (canon a) (canon k) = canon (a / k) := by
  obtain ⟨q, rfl⟩ := h
  rw [Int.mul_ediv_cancel_left _ hk]
  unfold quoZ
  rw [absZ_canon, absZ_canon, Int.natAbs_mul, Nat.mul_div_cancel_left _ (by omega), Nat.mul_mod_right, if_pos rfl]
  have e1 : (canon (k * q)).neg = decide (k * q < 0) := rfl
  have e2 : (canon k).neg = decide (k < 0) := rfl
  rw [e1, e2]
  by_cases hq : q < 0
  · have hne : ¬ (decide (k * q < 0) = decide (k < 0)) := by
      rcases Int.lt_or_gt_of_ne hk with h | h
      · have h1 : 0 < k * q := Int.mul_pos_of_neg_of_neg h hq
        rw [decide_eq_false (by omega), decide_eq_true h]; decide
      · have h1 : k * q < 0 := Int.mul_neg_of_pos_of_neg h hq
        rw [decide_eq_true h1, decide_eq_false (by omega)]; decide
    rw [if_neg hne, mkZ_val]
    congr 1
    simp
    omega
  · by_cases h0 : q = 0
    · subst h0
      have hz : ∀ b, mkZ b (Int.natAbs 0) = canon 0 := fun b => by rw [mkZ_val]; cases b <;> rfl
      split
      · exact hz _
      · exact hz _
    · have heq : decide (k * q < 0) = decide (k < 0) := by
        rcases Int.lt_or_gt_of_ne hk with h | h
        · have h1 : k * q < 0 := Int.mul_neg_of_neg_of_pos h (by omega)
          rw [decide_eq_true h1, decide_eq_true h]
        · have h1 : 0 < k * q := Int.mul_pos h (by omega)
          rw [decide_eq_false (by omega), decide_eq_false (by omega)]
      rw [if_pos heq, mkZ_val]
      congr 1
      simp
      omega
end Go.Proofs.Ytcafeffgaokiaaa
