/- grooveref01: Compare with zero; grooveref02.sign. -/
import Derived.Test.YtlkajmdcffemeaaRM
import Derived.Deep.RegionWith
namespace Go.Proofs.Ytlkajmdcffemeaa
open Go.RowKit

theorem BoxAt.dr {w : World} {g : Nat} {a b : Value} (h : BoxAt w g a b) : BoxAt w.drew g a b := h
theorem BoxAt.call {w w' : World} {g : Nat} {a b : Value} (h : BoxAt w g a b) (hb : Below w.heap.size w w') : BoxAt w' g a b := h.below hb h.2.2.2.2
theorem BoxAt.callD {w w' : World} {g : Nat} {a b : Value} (h : BoxAt w g a b) (hb : Below w.drew.heap.size w.drew w') : BoxAt w' g a b := h.dr.call hb
theorem below_call {w0 w w' : World} {B : Nat} (h : Below B w0 w) (hB : B ≤ w.heap.size) (hb : Below w.heap.size w w') : Below B w0 w' := h.trans (hb.mono hB)
theorem below_callD {w0 w w' : World} {B : Nat} (h : Below B w0 w) (hB : B ≤ w.heap.size) (hb : Below w.drew.heap.size w.drew w') : Below B w0 w' := h.drew.trans (hb.mono hB)

set_option maxRecDepth 100000 in
set_option maxHeartbeats 4000000 in
theorem refCmp_zero (n : Nat) (h0 : 0 < n) (hn : n < 256) (w : World) :
    Calls Try.prog 93 #[.agg #[.bool (canon (n : Int)).neg, .string (canon (n : Int)).mag], .agg #[.bool false, .string ⟨#[]⟩]] w fun e w' => e = .returned (.int .i64 1) ∧ Below w.heap.size w w' := by
  have hc1 := refCanonical_any (canon (n : Int)) (by have := canon_nat_size (n := n) (by omega); omega)
  have hc2 := refCanonical_any zeroZ (by decide)
  rw [valZ_canon] at hc1
  rw [show canon (valZ zeroZ) = zeroZ from by decide] at hc2
  have hne := canon_nonneg n
  have hsz : 0 < (canon (n : Int)).mag.size := by rw [canon_one (by omega) hn]; exact Nat.one_pos
  generalize canon (n : Int) = Z at *
  obtain ⟨N, M⟩ := Z
  dsimp only at *
  subst hne
  have Hk := Lib.hid (refCmpMag_zero M hsz)
  have Hc1 := Lib.hid hc1
  have Hc2 := Lib.hid hc2
  clear hc1 hc2
  go_enter Try.func93, Try.ntmps93
  go_upto_region 1 with (fail)
  obtain ⟨W, hW, hA, hB, hb0, hs0⟩ := two_boxes w (.bool false) (.string M) (.bool false) (.string ⟨#[]⟩) 34
  rw [hW]
  have HA := Lib.hid hA
  have HB := Lib.hid hB
  have Hb0 := Lib.hid hb0
  have Hs0 := Lib.hid hs0
  obtain ⟨a0, a1, a2, a3, _⟩ := hA
  obtain ⟨b0, b1, b2, b3, _⟩ := hB
  have n1 : ¬ (w.heap.size = w.heap.size + 1) := by omega
  have n2 : ¬ (w.heap.size + 1 = w.heap.size) := by omega
  clear hW hb0 hs0
  go_region_with (go_at_call 103; (first | go_fit (Hc1.out _) | go_fit (Hc2.out _)); rintro e wx ⟨rfl, hb⟩; have HA := Lib.hid (by first | exact BoxAt.call HA.out hb | exact BoxAt.callD HA.out hb); have HB := Lib.hid (by first | exact BoxAt.call HB.out hb | exact BoxAt.callD HB.out hb); have Hb0 := Lib.hid (by first | exact below_call Hb0.out (by have := HA.out.2.2.2.2; have := HB.out.2.2.2.2; have := Hb0.out.size; have := Hs0.out; omega) hb | exact below_callD Hb0.out (by have := Hb0.out.size; have := Hs0.out; omega) hb); obtain ⟨a0, a1, a2, a3, _⟩ := HA.out; obtain ⟨b0, b1, b2, b3, _⟩ := HB.out; clear hb)
  all_goals
    go_wp2_with (go_at_call 104; go_fit (Hk.out _); rintro e wk ⟨rfl, rfl⟩)
    go_ret
    exact ⟨rfl, (((Hb0.out.setCell (by simp) _).setCell (by simp) _).setCell (by simp) _).setCell (by simp) _⟩

set_option maxRecDepth 100000 in
set_option maxHeartbeats 4000000 in
theorem refSign_pos (n : Nat) (h0 : 0 < n) (hn : n < 256) (w : World) :
    Calls Try.prog 82 #[.agg #[.bool (canon (n : Int)).neg, .string (canon (n : Int)).mag]] w fun e w' => e = .returned (.int .i64 1) ∧ Below w.heap.size w w' := by
  have Hk := Lib.hid (refCmp_zero n h0 hn)
  generalize canon (n : Int) = Z at *
  obtain ⟨N, M⟩ := Z
  dsimp only at *
  go_enter Try.func82, Try.ntmps82
  go_wp2_with (go_at_call 93; go_fit (Hk.out _); rintro e wk ⟨rfl, hb⟩; have Hb := Lib.hid hb; clear hb)
  go_ret
  exact ⟨rfl, ((Below.refl _ _).alloc (Nat.le_refl _) _).trans (Hb.out.mono (by simp))⟩
end Go.Proofs.Ytlkajmdcffemeaa
