/- slices.Equal of two slices that read alike. -/
import Derived.Test.YtlkajmdcffemeaaInts
import Derived.Test.YtlkajmdcffemeaaStrs
import Derived.Test.YtlkajmdcffemeaaBools
import Derived.Deep.QuietTactic
namespace Go.Proofs.Ytlkajmdcffemeaa
open Go.RowKit

set_option maxRecDepth 100000 in
set_option maxHeartbeats 2000000 in
theorem sameInts_any (a : List Int) (pa pb : Option Addr) (ca cb : Nat) (w : World) (hA : IntsAt w pa a) (hB : IntsAt w pb a) (hla : a.length < 1000000000000) :
    Calls Try.prog 27 #[.slice pa a.length ca, .slice pb a.length cb] w fun e w' => e = .returned (.bool true) ∧ Drawn w w' := by
  have HA := Lib.hid hA
  have HB := Lib.hid hB
  clear hA hB
  go_enter Try.func27, Try.ntmps27
  go_wp2
  go_loopw [13] (fun i wr => ∃ k : Nat, k ≤ a.length ∧ i = .int .i64 k ∧ Drawn w wr) (fun i _ => a.length - (intOf i).toNat)
  case atStart => exact ⟨0, by omega, rfl, Drawn.refl _⟩
  case round =>
    obtain ⟨k, hk, rfl, hd⟩ := hrel
    by_cases hlt : k < a.length
    · obtain ⟨ab, ao, rfl, hab, hca⟩ := IntsAt.cells HA.out hlt
      obtain ⟨bb, bo, rfl, hbb, hcb⟩ := IntsAt.cells HB.out hlt
      have hxa := hca k hlt
      have hxb := hcb k hlt
      rw [← hd.cell] at hxa hxb
      obtain ⟨x, hx⟩ : ∃ x, a.getD k 0 = x := ⟨_, rfl⟩
      rw [hx] at hxa hxb
      have i0 : (0 : Int) ≤ (k : Int) := by omega
      have i1 : (k : Int) < (a.length : Int) := by omega
      have Hd := Lib.hid hd
      clear hca hcb hd hx
      go_wp2_with fail
      go_quiet (fail)
      go_wp2
      go_roundw
      case rel => exact ⟨k + 1, by omega, by go_num, Hd.out.drewN _⟩
      case measure => simp [intOf]; omega
    · go_wp2
      go_ret
      exact ⟨rfl, hd⟩

set_option maxRecDepth 100000 in
set_option maxHeartbeats 2000000 in
theorem sameStrs_any (a : List ByteArray) (pa pb : Option Addr) (ca cb : Nat) (w : World) (hA : StrsAt w pa a) (hB : StrsAt w pb a) (hla : a.length < 1000000000000) :
    Calls Try.prog 28 #[.slice pa a.length ca, .slice pb a.length cb] w fun e w' => e = .returned (.bool true) ∧ Drawn w w' := by
  have HA := Lib.hid hA
  have HB := Lib.hid hB
  clear hA hB
  go_enter Try.func28, Try.ntmps28
  go_wp2
  go_loopw [13] (fun i wr => ∃ k : Nat, k ≤ a.length ∧ i = .int .i64 k ∧ Drawn w wr) (fun i _ => a.length - (intOf i).toNat)
  case atStart => exact ⟨0, by omega, rfl, Drawn.refl _⟩
  case round =>
    obtain ⟨k, hk, rfl, hd⟩ := hrel
    by_cases hlt : k < a.length
    · obtain ⟨ab, ao, rfl, hab, hca⟩ := StrsAt.cells HA.out hlt
      obtain ⟨bb, bo, rfl, hbb, hcb⟩ := StrsAt.cells HB.out hlt
      have hxa := hca k hlt
      have hxb := hcb k hlt
      rw [← hd.cell] at hxa hxb
      obtain ⟨x, hx⟩ : ∃ x, a.getD k ByteArray.empty = x := ⟨_, rfl⟩
      rw [hx] at hxa hxb
      have i0 : (0 : Int) ≤ (k : Int) := by omega
      have i1 : (k : Int) < (a.length : Int) := by omega
      have Hd := Lib.hid hd
      clear hca hcb hd hx
      go_wp2_with fail
      go_quiet (fail)
      go_wp2
      go_roundw
      case rel => exact ⟨k + 1, by omega, by go_num, Hd.out.drewN _⟩
      case measure => simp [intOf]; omega
    · go_wp2
      go_ret
      exact ⟨rfl, hd⟩

set_option maxRecDepth 100000 in
set_option maxHeartbeats 2000000 in
theorem sameBools_any (a : List Bool) (pa pb : Option Addr) (ca cb : Nat) (w : World) (hA : BoolsAt w pa a) (hB : BoolsAt w pb a) (hla : a.length < 1000000000000) :
    Calls Try.prog 29 #[.slice pa a.length ca, .slice pb a.length cb] w fun e w' => e = .returned (.bool true) ∧ Drawn w w' := by
  have HA := Lib.hid hA
  have HB := Lib.hid hB
  clear hA hB
  go_enter Try.func29, Try.ntmps29
  go_wp2
  go_loopw [13] (fun i wr => ∃ k : Nat, k ≤ a.length ∧ i = .int .i64 k ∧ Drawn w wr) (fun i _ => a.length - (intOf i).toNat)
  case atStart => exact ⟨0, by omega, rfl, Drawn.refl _⟩
  case round =>
    obtain ⟨k, hk, rfl, hd⟩ := hrel
    by_cases hlt : k < a.length
    · obtain ⟨ab, ao, rfl, hab, hca⟩ := BoolsAt.cells HA.out hlt
      obtain ⟨bb, bo, rfl, hbb, hcb⟩ := BoolsAt.cells HB.out hlt
      have hxa := hca k hlt
      have hxb := hcb k hlt
      rw [← hd.cell] at hxa hxb
      obtain ⟨x, hx⟩ : ∃ x, a.getD k false = x := ⟨_, rfl⟩
      rw [hx] at hxa hxb
      have i0 : (0 : Int) ≤ (k : Int) := by omega
      have i1 : (k : Int) < (a.length : Int) := by omega
      have Hd := Lib.hid hd
      clear hca hcb hd hx
      go_wp2_with fail
      go_quiet (fail)
      go_wp2
      go_roundw
      case rel => exact ⟨k + 1, by omega, by go_num, Hd.out.drewN _⟩
      case measure => simp [intOf]; omega
    · go_wp2
      go_ret
      exact ⟨rfl, hd⟩
end Go.Proofs.Ytlkajmdcffemeaa
