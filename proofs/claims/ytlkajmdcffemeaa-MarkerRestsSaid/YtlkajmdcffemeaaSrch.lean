/- slices.ContainsFunc of zeros, slices.Contains of trues. -/
import Derived.Test.YtlkajmdcffemeaaInts
import Derived.Test.YtlkajmdcffemeaaBools
import Derived.Deep.QuietTactic
namespace Go.Proofs.Ytlkajmdcffemeaa
open Go.RowKit

theorem nonzero_any (w : World) : Calls Try.prog 31 #[.int .i64 0] w fun e w' => e = .returned (.bool false) ∧ w = w' := by
  go_enter Try.func31, Try.ntmps31
  go_wp2
  go_ret
  exact ⟨rfl, rfl⟩

set_option maxRecDepth 100000 in
set_option maxHeartbeats 2000000 in
theorem indexFunc_zeros (a : List Int) (hz : ∀ k, k < a.length → a.getD k 0 = 0) (pa : Option Addr) (ca : Nat) (w : World) (hA : IntsAt w pa a) (hla : a.length < 1000000000000) :
    Calls Try.prog 54 #[.slice pa a.length ca, .func (.func 31) #[] #[]] w fun e w' => e = .returned (.int .i64 (-1)) ∧ w = w' := by
  have HA := Lib.hid hA
  have HZ := Lib.hid hz
  clear hA hz
  go_enter Try.func54, Try.ntmps54
  go_wp2
  go_loop [8] (fun i => ∃ k : Nat, k ≤ a.length ∧ i = .int .i64 k) (fun i => a.length - (intOf i).toNat)
  case atStart => exact ⟨0, by omega, rfl⟩
  case round =>
    obtain ⟨k, hk, rfl⟩ := hrel
    by_cases hlt : k < a.length
    · obtain ⟨ab, ao, rfl, hab, hca⟩ := IntsAt.cells HA.out hlt
      have hxa := hca k hlt
      have hx := HZ.out k hlt
      generalize a.getD k 0 = x at *
      have Hn : Hid (∀ w, Calls Try.prog 31 #[.int .i64 x] w fun e w' => e = .returned (.bool false) ∧ w = w') := Lib.hid (by rw [hx]; exact nonzero_any)
      clear hx
      have i0 : (0 : Int) ≤ (k : Int) := by omega
      have i1 : (k : Int) < (a.length : Int) := by omega
      clear hca
      go_wp2_with fail
      refine (Hn.out _).mono ?_
      rintro e w2 ⟨rfl, rfl⟩
      go_wp2_with fail
      go_round
      case rel => exact ⟨k + 1, by omega, by go_num⟩
      case measure => simp [intOf]; omega
    · have i1 : ¬ (k : Int) < (a.length : Int) := by omega
      go_wp2
      go_ret
      exact ⟨rfl, rfl⟩
set_option maxRecDepth 100000 in
set_option maxHeartbeats 2000000 in
theorem containsFunc_zeros (a : List Int) (hz : ∀ k, k < a.length → a.getD k 0 = 0) (pa : Option Addr) (ca : Nat) (w : World) (hA : IntsAt w pa a) (hla : a.length < 1000000000000) :
    Calls Try.prog 30 #[.slice pa a.length ca, .func (.func 31) #[] #[]] w fun e w' => e = .returned (.bool false) ∧ w = w' := by
  have H := Lib.hid (indexFunc_zeros a hz pa ca w hA hla)
  clear hz hA
  go_enter Try.func30, Try.ntmps30
  go_wp2_with fail
  refine H.out.mono ?_
  rintro e w2 ⟨rfl, rfl⟩
  go_wp2_with fail
  go_ret
  exact ⟨rfl, rfl⟩

set_option maxRecDepth 100000 in
set_option maxHeartbeats 2000000 in
theorem index_trues (a : List Bool) (hz : ∀ k, k < a.length → a.getD k false = true) (pa : Option Addr) (ca : Nat) (w : World) (hA : BoolsAt w pa a) (hla : a.length < 1000000000000) :
    Calls Try.prog 55 #[.slice pa a.length ca, .bool false] w fun e w' => e = .returned (.int .i64 (-1)) ∧ w = w' := by
  have HA := Lib.hid hA
  have HZ := Lib.hid hz
  clear hA hz
  go_enter Try.func55, Try.ntmps55
  go_wp2
  go_loop [8] (fun i => ∃ k : Nat, k ≤ a.length ∧ i = .int .i64 k) (fun i => a.length - (intOf i).toNat)
  case atStart => exact ⟨0, by omega, rfl⟩
  case round =>
    obtain ⟨k, hk, rfl⟩ := hrel
    by_cases hlt : k < a.length
    · obtain ⟨ab, ao, rfl, hab, hca⟩ := BoolsAt.cells HA.out hlt
      have hxa := hca k hlt
      have hx := HZ.out k hlt
      generalize a.getD k false = x at *
      have hxt : (false == x) = false := by rw [hx]; rfl
      clear hx
      have i0 : (0 : Int) ≤ (k : Int) := by omega
      have i1 : (k : Int) < (a.length : Int) := by omega
      clear hca
      go_wp2
      go_round
      case rel => exact ⟨k + 1, by omega, by go_num⟩
      case measure => simp [intOf]; omega
    · have i1 : ¬ (k : Int) < (a.length : Int) := by omega
      go_wp2
      go_ret
      exact ⟨rfl, rfl⟩
set_option maxRecDepth 100000 in
set_option maxHeartbeats 2000000 in
theorem contains_trues (a : List Bool) (hz : ∀ k, k < a.length → a.getD k false = true) (pa : Option Addr) (ca : Nat) (w : World) (hA : BoolsAt w pa a) (hla : a.length < 1000000000000) :
    Calls Try.prog 32 #[.slice pa a.length ca, .bool false] w fun e w' => e = .returned (.bool false) ∧ w = w' := by
  have H := Lib.hid (index_trues a hz pa ca w hA hla)
  clear hz hA
  go_enter Try.func32, Try.ntmps32
  go_wp2_with fail
  refine H.out.mono ?_
  rintro e w2 ⟨rfl, rfl⟩
  go_wp2_with fail
  go_ret
  exact ⟨rfl, rfl⟩
end Go.Proofs.Ytlkajmdcffemeaa
