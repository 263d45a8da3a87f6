/- The walks of grooveref26.Great, of the example and of awake. -/
import Derived.Test.YtndfppafddfnaaaChR
namespace Go.Proofs.Ytndfppafddfnaaa
open Go.RowKit

/-- The entries of the example. -/
def exEnts : List Ent := [⟨⟨#[48, 48]⟩, 0⟩, ⟨⟨#[48, 49]⟩, 1⟩, ⟨⟨#[49, 48]⟩, 1⟩, ⟨⟨#[49, 49]⟩, 0⟩]
theorem exFit : WinsFit exEnts := by
  intro x hx
  simp [exEnts] at hx
  rcases hx with rfl | rfl | rfl | rfl <;> decide

set_option maxHeartbeats 1000000 in
theorem example_any (w : World) :
    Calls Try.prog 39 #[] w fun e w' => ∃ q, e = .returned (.agg #[.int .i64 2, .int .i64 1, .int .i64 2, .int .i64 0, .int .i64 1, .slice q exEnts.length 4]) ∧ EntsAt w' q exEnts ∧ Below w.heap.size w w' := by
  go_enter Try.func39, Try.ntmps39
  go_wp2
  refine bodyPost_ret (v := .agg #[.int .i64 2, .int .i64 1, .int .i64 2, .int .i64 0, .int .i64 1, .slice (some ⟨w.heap.size + 1, 0, none⟩) 4 4]) (by simp [results, Try.results39, go_sem]) rfl ⟨some ⟨w.heap.size + 1, 0, none⟩, rfl, ?_, ?_⟩
  · refine .inr ⟨w.heap.size + 1, 0, rfl, by simp, fun i hi j hj => ?_⟩
    have hi' : i < 4 := hi
    rw [World.cell?_alloc_at _ _ _ _ (by simp)]
    match i, j, hi', hj with
    | 0, 0, _, _ => rfl
    | 0, 1, _, _ => rfl
    | 1, 0, _, _ => rfl
    | 1, 1, _, _ => rfl
    | 2, 0, _, _ => rfl
    | 2, 1, _, _ => rfl
    | 3, 0, _, _ => rfl
    | 3, 1, _, _ => rfl
  · exact ((Below.refl _ _).alloc (Nat.le_refl _) _).alloc (by simp) _

theorem max4 {P : Program} (ts : Array TypeId) (t : TypeId) (w : World) : (Builtin.max_ ts t #[.int .i64 0, .int .i64 0, .int .i64 0, .int .i64 0]).run P w = .ok (.int .i64 0) w := by
  rfl
theorem ex1 : chErr 2 1 2 0 1 exEnts ⟨#[48, 48, 49, 48]⟩ 1 1 = 0 := by decide +kernel
theorem ex2 : chOut 2 1 2 0 1 exEnts ⟨#[48, 48, 49, 48]⟩ 1 1 = [0, 1] := by decide +kernel
theorem ex3 : chErr 2 1 2 0 1 exEnts ⟨#[48, 48, 49, 48]⟩ 3 1 = 0 := by decide +kernel
theorem ex4 : chOut 2 1 2 0 1 exEnts ⟨#[48, 48, 49, 48]⟩ 3 1 = [2] := by decide +kernel
theorem ex5 : boundErr 2 1 2 0 1 exEnts = 0 := by decide +kernel
theorem ex6 : boundVal 2 1 2 0 1 exEnts = 2 := by decide +kernel
theorem ex7 : burstErr 2 1 2 0 1 exEnts 3 = 0 := by decide +kernel
theorem ex8 : burstVal 2 1 2 0 1 exEnts 3 = 4 := by decide +kernel

set_option maxRecDepth 100000 in
set_option maxHeartbeats 4000000 in
theorem awake_any (w : World) : Calls Try.prog 12 #[] w fun e w' => e = .returned (.bool true) ∧ Below w.heap.size w w' := by
  have hmax := @max4 Try.prog
  go_enter Try.func12, Try.ntmps12
  go_wp2_with fail
  refine (example_any _).mono ?_; rintro e w1 ⟨q1, rfl, hE1, hb1⟩
  have HE1 := Lib.hid hE1
  have Hb1 := Lib.hid hb1
  clear hE1 hb1
  go_wp2_with fail
  refine (changed_any 2 1 2 0 1 exEnts q1 4 _ 1 1 _ HE1.out exFit (by decide)).mono ?_; rintro e w2 ⟨v1, rfl, hown, hb⟩
  rw [ex1]
  rw [ex2] at hown
  obtain ⟨p1, d1, rfl, _, hI1, _⟩ := OwnInts.form hown
  have Hb2 := Lib.hid hb
  have HI1 := Lib.hid hI1
  clear hown hb hI1
  go_wp2_with fail
  refine (example_any _).mono ?_; rintro e w3 ⟨q2, rfl, hE2, hb3⟩
  have HE2 := Lib.hid hE2
  have Hb3 := Lib.hid hb3
  clear hE2 hb3
  go_wp2_with fail
  refine (changed_any 2 1 2 0 1 exEnts q2 4 _ 3 1 _ HE2.out exFit (by decide)).mono ?_; rintro e w4 ⟨v2, rfl, hown, hb⟩
  rw [ex3]
  rw [ex4] at hown
  obtain ⟨p2, d2, rfl, _, hI2, _⟩ := OwnInts.form hown
  have Hb4 := Lib.hid hb
  have HI2 := Lib.hid hI2
  clear hown hb hI2
  go_wp2_with fail
  refine (example_any _).mono ?_; rintro e w5 ⟨q3, rfl, hE3, hb5⟩
  have HE3 := Lib.hid hE3
  have Hb5 := Lib.hid hb5
  clear hE3 hb5
  go_wp2_with fail
  refine (bound_any 2 1 2 0 1 exEnts q3 4 _ HE3.out exFit).mono ?_; rintro e w6 ⟨rfl, hb⟩
  rw [ex5, ex6]
  have Hb6 := Lib.hid hb
  clear hb
  go_wp2_with fail
  refine (example_any _).mono ?_; rintro e w7 ⟨q4, rfl, hE4, hb7⟩
  have HE4 := Lib.hid hE4
  have Hb7 := Lib.hid hb7
  clear hE4 hb7
  go_wp2_with fail
  refine (burst_any 2 1 2 0 1 exEnts q4 4 3 _ HE4.out exFit).mono ?_; rintro e w8 ⟨rfl, hb⟩
  rw [ex7, ex8]
  have Hb8 := Lib.hid hb
  clear hb
  have b2 : Below w2.heap.size w2 w8 := (((((Hb3.out.trans (Hb4.out.mono Hb3.out.size)).trans (Hb5.out.mono (Nat.le_trans Hb3.out.size Hb4.out.size))).trans (Hb6.out.mono (Nat.le_trans Hb3.out.size (Nat.le_trans Hb4.out.size Hb5.out.size)))).trans (Hb7.out.mono (Nat.le_trans Hb3.out.size (Nat.le_trans Hb4.out.size (Nat.le_trans Hb5.out.size Hb6.out.size))))).trans (Hb8.out.mono (Nat.le_trans Hb3.out.size (Nat.le_trans Hb4.out.size (Nat.le_trans Hb5.out.size (Nat.le_trans Hb6.out.size Hb7.out.size))))))
  have b4 : Below w4.heap.size w4 w8 := (((Hb5.out.trans (Hb6.out.mono Hb5.out.size)).trans (Hb7.out.mono (Nat.le_trans Hb5.out.size Hb6.out.size))).trans (Hb8.out.mono (Nat.le_trans Hb5.out.size (Nat.le_trans Hb6.out.size Hb7.out.size))))
  have b0 : Below w.heap.size w w8 := (Hb1.out.trans (Hb2.out.mono Hb1.out.size)).trans (b2.mono (Nat.le_trans Hb1.out.size Hb2.out.size))
  have hJ1 : IntsAt w8 p1 [0, 1] := HI1.out.below (Nat.le_refl _) b2
  have hJ2 : IntsAt w8 p2 [2] := HI2.out.below (Nat.le_refl _) b4
  have HJ1 := Lib.hid hJ1
  have HJ2 := Lib.hid hJ2
  have B0 := Lib.hid b0
  clear hJ1 hJ2 b0 b2 b4 HE1 HE2 HE3 HE4
  go_wp2_with fail
  refine (equal_any [0, 1] [0, 1] p1 (some ⟨w8.heap.size, 0, none⟩) d1 2 _ (HJ1.out.below (Nat.le_refl _) ((Below.refl _ _).alloc (Nat.le_refl _) _)) (.inr ⟨_, 0, rfl, by simp, fun i hi j hj => ?_⟩) (by decide)).mono ?_
  · match i, j, (show i < 2 from hi), hj with
    | 0, 0, _, _ => simp
    | 1, 0, _, _ => simp
  rintro e w9 ⟨rfl, hd⟩
  have hone : (([0, 1] : List Int) == [0, 1]) = true := by decide
  rw [hone]
  have Hd9 := Lib.hid hd
  clear hone hd
  go_wp2_with fail
  refine (equal_any [2] [2] p2 (some ⟨w9.heap.size, 0, none⟩) d2 1 _ ((HJ2.out.below (Nat.le_refl _) (((Below.refl _ _).alloc (Nat.le_refl _) _).trans (Hd9.out.below _))).below (Nat.le_refl _) ((Below.refl _ _).alloc (Nat.le_refl _) _)) (.inr ⟨_, 0, rfl, by simp, fun i hi j hj => ?_⟩) (by decide)).mono ?_
  · match i, j, (show i < 1 from hi), hj with
    | 0, 0, _, _ => simp
  rintro e w10 ⟨rfl, hd⟩
  have hone : (([2] : List Int) == [2]) = true := by decide
  rw [hone]
  have Hd10 := Lib.hid hd
  clear hone hd
  go_wp2
  go_ret
  have z9 : w8.heap.size ≤ w9.heap.size := by have := (Hd9.out.below 0).size; simp at this; omega
  exact ⟨rfl, (((B0.out.alloc B0.out.size _).trans (Hd9.out.below _)).alloc (Nat.le_trans B0.out.size z9) _).trans (Hd10.out.below _)⟩
end Go.Proofs.Ytndfppafddfnaaa
