/- The powers of a matrix are of moderate size. -/
import Derived.Test.YtlkoiekdafaapaaBnd
import Derived.Test.YtlkoiekdafaapaaWpw
namespace Go.Proofs.Ytlkoiekdafaapaa
theorem powF_bn {n : Nat} {A : Nat → Nat → Int} {e m : Nat} (h : BnM n n A e) (hn : n ≤ 2 ^ m) (u : Nat) : BnM n n (powF n A u) (u * (e + m)) := by
  induction u with
  | zero =>
    intro i k _ _
    show Bn (if i = k then 1 else 0) _
    split
    · exact Bn.one _
    · exact Bn.zero _
  | succ u ih =>
    intro i k hi hk
    exact (ih.mul h hn i k hi hk).up (by rw [Nat.add_mul]; omega)
theorem powOk_of {n : Nat} {A : Nat → Nat → Int} {e m N : Nat} (h : BnM n n A e) (hn : n ≤ 2 ^ m) (hs : N * (e + m) + m < 8 * 100000000) : PowOk n A N := by
  refine ⟨fun u hu => (powF_bn h hn u).small ?_, fun u v huv => (powF_bn h hn u).smallP (powF_bn h hn v) hn ?_⟩
  · have := Nat.mul_le_mul_right (e + m) hu
    omega
  · have := Nat.mul_le_mul_right (e + m) huv
    rw [Nat.add_mul] at this
    omega
end Go.Proofs.Ytlkoiekdafaapaa
