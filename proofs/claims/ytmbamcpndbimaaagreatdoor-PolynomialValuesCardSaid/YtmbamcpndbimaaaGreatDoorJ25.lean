/- grooveref01: value, Add, Mul at canonical numbers. -/
import Derived.Test.YtmbamcpndbimaaaGreatDoorJ24
import Derived.Test.YtmbamcpndbimaaaGreatDoorJ23
import Derived.Test.YtmbamcpndbimaaaGreatDoorJ8
namespace Go.Proofs.YtmbamcpndbimaaaGreatDoor
open Go.RowKit Go.Shelf
theorem canon_bval (x : Int) : bval (canon x).mag.data.toList = x.natAbs := by
 show bval (beb x.natAbs) = _
 exact bval_beb _
theorem canon_neg (x : Int) : (canon x).neg = decide (x < 0) := rfl
theorem small_lt {x : Int} (h : (canon x).mag.size ≤ 7) : x.natAbs < 72057594037927936 := by
 have h1 := bval_lt (canon x).mag.data.toList
 rw [canon_bval, Array.length_toList] at h1
 exact Nat.lt_of_lt_of_le h1 (Nat.pow_le_pow_right (n := 256) (by decide) h)
set_option maxRecDepth 100000 in
set_option maxHeartbeats 4000000 in
theorem refValue_any (x : Int) (hs : (canon x).mag.size ≤ 7) (w : World) :
  Calls Tryz.prog 82 #[.agg #[.bool (canon x).neg, .string (canon x).mag]] w fun e w' => e = .returned (.int .i64 x) ∧ Below w.heap.size w w' := by
 have HS := lhd (fun W => refSmall_any (canon x).mag hs W)
 rw [canon_bval] at HS
 have hl := small_lt hs
 have hn := canon_neg x
 by_cases h0 : x < 0
 ·rw [decide_eq_true h0] at hn
  have HX : Hid (-((x.natAbs : Nat) : Int) = x) := lhd (by omega)
  generalize canon x = Z at *
  obtain ⟨N, M⟩ := Z
  dsimp only at *
  subst hn
  generalize x.natAbs = m at *
  go_enter Tryz.func82, Tryz.ntmps82
  go_wp2_with fail
  refine (HS.out _).mono ?_
  rintro e w2 ⟨rfl, rfl⟩
  dsimp only
  go_wp2
  go_ret
  exact ⟨by rw [← HX.out]; rfl, (Below.refl _ _).alloc (Nat.le_refl _) _⟩
 ·rw [decide_eq_false h0] at hn
  have HX : Hid (((x.natAbs : Nat) : Int) = x) := lhd (by omega)
  generalize canon x = Z at *
  obtain ⟨N, M⟩ := Z
  dsimp only at *
  subst hn
  generalize x.natAbs = m at *
  go_enter Tryz.func82, Tryz.ntmps82
  go_wp2_with fail
  refine (HS.out _).mono ?_
  rintro e w2 ⟨rfl, rfl⟩
  dsimp only
  go_wp2
  go_ret
  exact ⟨by rw [← HX.out]; rfl, (Below.refl _ _).alloc (Nat.le_refl _) _⟩
end Go.Proofs.YtmbamcpndbimaaaGreatDoor
