/- slices.Compare of two lists of integers of the same length. -/
import Derived.Test.YtlaoijfphkhchaaInts
import Derived.Deep.QuietTactic
namespace Go.Proofs.Ytlaoijfphkhchaa
open Go.RowKit

/-- What a place of two lists tells. -/
def cpAt (a b : List Int) (k : Nat) : Option Int := if a.getD k 0 < b.getD k 0 then some (-1) else if b.getD k 0 < a.getD k 0 then some 1 else none
def cpL (a b : List Int) : Int := firstFrom (cpAt a b) 0 a.length 0
set_option maxRecDepth 100000 in
theorem cmpOrd_any (x y : Int) (w : World) : Calls Try.prog 117 #[.int .i64 x, .int .i64 y] w fun e w' => e = .returned (.int .i64 (if x < y then -1 else if y < x then 1 else 0)) ∧ w' = w := by
  go_enter Try.func117, Try.ntmps117
  by_cases h1 : x < y
  · have n1 : (x != x) = false := by simp
    rw [if_pos h1]
    go_wp2
    go_ret
    exact ⟨rfl, rfl⟩
  · rw [if_neg h1]
    by_cases h2 : y < x
    · rw [if_pos h2]
      have h3 : x > y := h2
      go_wp2
      go_ret
      exact ⟨rfl, rfl⟩
    · rw [if_neg h2]
      have h3 : ¬ x > y := h2
      go_wp2
      go_ret
      exact ⟨rfl, rfl⟩
set_option maxRecDepth 100000 in
set_option maxHeartbeats 2000000 in
theorem slCmp_any (a b : List Int) (pa pb : Option Addr) (ca cb : Nat) (w : World) (hA : IntsAt w pa a) (hB : IntsAt w pb b) (hl : b.length = a.length) (hla : a.length < 1000000000000) :
    Calls Try.prog 100 #[.slice pa a.length ca, .slice pb a.length cb] w fun e w' => e = .returned (.int .i64 (cpL a b)) ∧ w' = w := by
  have HA := Lib.hid hA
  have HB := Lib.hid hB
  have HL := Lib.hid hl
  clear hA hB hl
  go_enter Try.func100, Try.ntmps100
  go_wp2
  go_loop [11] (fun i => ∃ k : Nat, k ≤ a.length ∧ i = .int .i64 k ∧ Hid (cpL a b = firstFrom (cpAt a b) 0 (a.length - k) k)) (fun i => a.length - (intOf i).toNat)
  case atStart => exact ⟨0, by omega, rfl, Lib.hid rfl⟩
  case round =>
    obtain ⟨k, hk, rfl, HC⟩ := hrel
    by_cases hlt : k < a.length
    · obtain ⟨ab, ao, rfl, hab, hca⟩ := IntsAt.cells HA.out hlt
      obtain ⟨bb, bo, rfl, hbb, hcb⟩ := IntsAt.cells HB.out (show k < b.length by rw [HL.out]; exact hlt)
      have hxa := hca k hlt
      have hxb := hcb k (by rw [HL.out]; exact hlt)
      obtain ⟨x, hx⟩ : ∃ x, a.getD k 0 = x := ⟨_, rfl⟩
      obtain ⟨y, hy⟩ : ∃ y, b.getD k 0 = y := ⟨_, rfl⟩
      rw [hx] at hxa
      rw [hy] at hxb
      have HX := Lib.hid hx
      have HY := Lib.hid hy
      have i0 : (0 : Int) ≤ (k : Int) := by omega
      have i1 : (k : Int) < (a.length : Int) := by omega
      have i2 : ¬ (k : Int) ≥ (a.length : Int) := by omega
      clear hca hcb hx hy
      by_cases h1 : x < y
      · have hR : cpL a b = -1 := by
          rw [HC.out]
          refine firstFrom_some hlt ?_
          unfold cpAt
          rw [HX.out, HY.out, if_pos h1]
        have HR := Lib.hid hR
        clear hR HC
        have HCm : Hid (∀ W : World, Calls Try.prog 117 #[.int .i64 x, .int .i64 y] W fun e w' => e = .returned (.int .i64 (-1)) ∧ w' = W) := Lib.hid (fun W => by have := cmpOrd_any x y W; rwa [if_pos h1] at this)
        clear h1
        go_wp2_with (go_at_call 117; refine (HCm.out _).mono ?_; rintro e w' ⟨rfl, rfl⟩)
        go_ret
        exact ⟨by rw [HR.out]; rfl, rfl⟩
      · by_cases h2 : y < x
        · have hR : cpL a b = 1 := by
            rw [HC.out]
            refine firstFrom_some hlt ?_
            unfold cpAt
            rw [HX.out, HY.out, if_neg h1, if_pos h2]
          have HR := Lib.hid hR
          clear hR HC
          have HCm : Hid (∀ W : World, Calls Try.prog 117 #[.int .i64 x, .int .i64 y] W fun e w' => e = .returned (.int .i64 1) ∧ w' = W) := Lib.hid (fun W => by have := cmpOrd_any x y W; rwa [if_neg h1, if_pos h2] at this)
          clear h1 h2
          go_wp2_with (go_at_call 117; refine (HCm.out _).mono ?_; rintro e w' ⟨rfl, rfl⟩)
          go_ret
          exact ⟨by rw [HR.out]; rfl, rfl⟩
        · have hR : cpL a b = firstFrom (cpAt a b) 0 (a.length - (k + 1)) (k + 1) := by
            rw [HC.out]
            refine firstFrom_none hlt ?_
            unfold cpAt
            rw [HX.out, HY.out, if_neg h1, if_neg h2]
          have HR := Lib.hid hR
          clear hR HC
          have HCm : Hid (∀ W : World, Calls Try.prog 117 #[.int .i64 x, .int .i64 y] W fun e w' => e = .returned (.int .i64 0) ∧ w' = W) := Lib.hid (fun W => by have := cmpOrd_any x y W; rwa [if_neg h1, if_neg h2] at this)
          clear h1 h2
          go_wp2_with (go_at_call 117; refine (HCm.out _).mono ?_; rintro e w' ⟨rfl, rfl⟩)
          go_round
          case rel => exact ⟨k + 1, by omega, by go_num, HR⟩
          case measure => simp [intOf]; omega
    · have hR : cpL a b = 0 := by rw [HC.out]; exact firstFrom_end (by omega)
      have HR := Lib.hid hR
      clear hR HC
      have i1 : ¬ (k : Int) < (a.length : Int) := by omega
      go_wp2
      go_ret
      exact ⟨by rw [HR.out]; rfl, rfl⟩
end Go.Proofs.Ytlaoijfphkhchaa
