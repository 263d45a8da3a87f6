/- grooveref01: Mul at canonical numbers. -/
import Derived.Test.YtmbamcpndbimaaaGreatDoorJ25
namespace Go.Proofs.YtmbamcpndbimaaaGreatDoor
open Go.RowKit Go.Shelf
theorem small_mul {x y : Int} (h : (canon x).mag.size + (canon y).mag.size ≤ 7) : (x * y).natAbs < 72057594037927936 := by
 have h1 := bval_lt (canon x).mag.data.toList
 have h2 := bval_lt (canon y).mag.data.toList
 rw [canon_bval, Array.length_toList] at h1 h2
 rw [Int.natAbs_mul]
 have h3 : x.natAbs * y.natAbs < 256 ^ (canon x).mag.data.size * 256 ^ (canon y).mag.data.size := Nat.mul_lt_mul'' h1 h2
 rw [← Nat.pow_add] at h3
 exact Nat.lt_of_lt_of_le h3 (Nat.pow_le_pow_right (n := 256) (by decide) h)
theorem empty_mag (x : Int) : x = 0 ∨ (canon x).mag.toList.isEmpty = false := by
 by_cases h : x = 0
 ·exact .inl h
 ·right
  rw [ByteArray.toList_eq, List.isEmpty_eq_false_iff]
  intro h2
  have h3 := canon_bval x
  rw [h2] at h3
  have : x.natAbs = 0 := h3.symm
  omega
theorem sign_mul {x y : Int} (hx : x ≠ 0) (hy : y ≠ 0) : (decide (x < 0) != decide (y < 0)) = decide (x * y < 0) := by
 by_cases h1 : x < 0
 ·by_cases h2 : y < 0
  ·have := Int.mul_pos_of_neg_of_neg h1 h2
   rw [decide_eq_true h1, decide_eq_true h2, decide_eq_false (by omega)]; rfl
  ·have := Int.mul_neg_of_neg_of_pos h1 (show 0 < y by omega)
   rw [decide_eq_true h1, decide_eq_false h2, decide_eq_true this]; rfl
 ·by_cases h2 : y < 0
  ·have := Int.mul_neg_of_pos_of_neg (show 0 < x by omega) h2
   rw [decide_eq_false h1, decide_eq_true h2, decide_eq_true this]; rfl
  ·have := Int.mul_pos (show 0 < x by omega) (show 0 < y by omega)
   rw [decide_eq_false h1, decide_eq_false h2, decide_eq_false (by omega)]; rfl
end Go.Proofs.YtmbamcpndbimaaaGreatDoor
