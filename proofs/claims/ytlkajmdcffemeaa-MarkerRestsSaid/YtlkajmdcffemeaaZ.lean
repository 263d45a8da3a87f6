/- Plain laws: what the functions of package integer compute, as integers. -/
import Derived.Test.YtlkajmdcffemeaaInt10
namespace Go.Proofs.Ytlkajmdcffemeaa

theorem mkZ_val (b : Bool) (v : Nat) : mkZ b v = canon (if b then -(v : Int) else v) := by
  cases b
  · exact mkZ_pos v
  · exact mkZ_neg v
theorem addZ_val (x y : ZI) : addZ x y = canon (valZ x + valZ y) := by
  unfold addZ valZ
  rcases x with ⟨a, s⟩
  rcases y with ⟨b, t⟩
  generalize absZ ⟨a, s⟩ = m
  generalize absZ ⟨b, t⟩ = n
  cases a <;> cases b <;> simp only [mkZ_val, if_true, Bool.false_eq_true, if_false, reduceCtorEq]
  · congr 1
  · split
    · congr 1; omega
    · congr 1; omega
  · split
    · congr 1; omega
    · congr 1; omega
  · congr 1; omega
theorem negZ_val (z : ZI) : mkZ (!z.neg) (absZ z) = canon (-valZ z) := by
  rw [mkZ_val]; unfold valZ
  rcases z with ⟨a, s⟩
  cases a <;> simp
theorem mulZ_val (x y : ZI) : mkZ (!(x.neg == y.neg)) (absZ x * absZ y) = canon (valZ x * valZ y) := by
  rw [mkZ_val]; unfold valZ
  rcases x with ⟨a, s⟩
  rcases y with ⟨b, t⟩
  cases a <;> cases b <;> simp [Int.neg_mul, Int.mul_neg]
theorem sameZ_val (z : ZI) : mkZ z.neg (absZ z) = canon (valZ z) := by
  rw [mkZ_val]; unfold valZ
  rcases z with ⟨a, s⟩
  cases a <;> simp
theorem canon_size (n : Int) {k : Nat} (h : n.natAbs < 256 ^ k) : (canon n).mag.size ≤ k := by
  have := beb_len k h
  show (beb n.natAbs).toArray.size ≤ k
  simpa using this

instance : DecidableEq ZI := fun a b => decidable_of_iff (a.neg = b.neg ∧ a.mag = b.mag) (by
  rcases a with ⟨a, s⟩
  rcases b with ⟨b, t⟩
  simp)
/-- The canonical integers. -/
def Can (z : ZI) : Prop := z = canon (valZ z)
theorem can_canon (n : Int) : Can (canon n) := by unfold Can; rw [valZ_canon]
end Go.Proofs.Ytlkajmdcffemeaa
