/- slices.Equal of two lists of numbers that read alike. -/
import Derived.Test.YteoemijgdcpopaaDoorB11
namespace Go.Proofs.YteoemijgdcpopaaDoor
open Go.RowKit Go.Shelf
set_option maxRecDepth 100000 in
set_option maxHeartbeats 2000000 in
theorem sameZs_any (n : Nat) (f : Nat → Int) (pa pb : Option Addr) (ca cb : Nat) (w : World) (hA : RowF w pa n f) (hB : RowF w pb n f) (hn : n < 1000000000000) :
    Calls Tryd.prog 22 #[.slice pa n ca, .slice pb n cb] w fun e w' => e = .returned (.bool true) ∧ Below w.heap.size w w' := by
  have HA := Lib.hid hA
  have HB := Lib.hid hB
  clear hA hB
  go_enter Tryd.func22, Tryd.ntmps22
  go_wp2
  go_loopw [13] (fun i wr => ∃ k : Nat, k ≤ n ∧ i = .int .i64 k ∧ Hid (Below w.heap.size w wr)) (fun i _ => n - (intOf i).toNat)
  case atStart => exact ⟨0, by omega, rfl, Lib.hid (Below.refl _ _)⟩
  case round =>
    obtain ⟨k, hk, rfl, Hd⟩ := hrel
    by_cases hlt : k < n
    · obtain ⟨ab, ao, rfl, hab, hca⟩ := RowF.cells (HA.out.below (Nat.le_refl _) Hd.out) hlt
      obtain ⟨bb, bo, rfl, hbb, hcb⟩ := RowF.cells (HB.out.below (Nat.le_refl _) Hd.out) hlt
      obtain ⟨a1, a2⟩ := hca k hlt
      obtain ⟨b1, b2⟩ := hcb k hlt
      obtain ⟨x, hx⟩ : ∃ x, canon (f k) = x := ⟨_, rfl⟩
      rw [hx] at a1 a2 b1 b2
      have i0 : (0 : Int) ≤ (k : Int) := by omega
      have i1 : (k : Int) < (n : Int) := by omega
      clear hca hcb hx
      go_wp2_with fail
      go_quiet (fail)
      go_wp2
      go_roundw
      case rel => exact ⟨k + 1, by omega, by go_num, Lib.hid (below_dr Hd.out)⟩
      case measure => simp [intOf]; omega
    · have i1 : ¬ (k : Int) < (n : Int) := by omega
      go_wp2
      go_ret
      exact ⟨rfl, Hd.out⟩
end Go.Proofs.YteoemijgdcpopaaDoor
