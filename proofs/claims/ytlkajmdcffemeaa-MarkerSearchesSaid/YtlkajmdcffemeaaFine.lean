/- The walk of groovelaw49.fine. -/
import Derived.Test.YtlkajmdcffemeaaChk
namespace Go.Proofs.Ytlkajmdcffemeaa
open Go.RowKit

/-- Is a text a marker of the statements' size? -/
def fineB (m : ByteArray) : Bool := decide (m.size ≠ 0) && decide (m.size ≤ 8) && decide (wordCheck 2 m.data.toList = 0)
def fineN (x : Nat) : Nat := 1 + x % 6

set_option maxRecDepth 100000 in
set_option maxHeartbeats 2000000 in
theorem fine_any (x : Nat) (m : ByteArray) (hx : x ≤ 255) (hm : m.size ≤ maxLen) (w : World) :
    Calls Try.prog 11 #[.int .u8 (x : Int), .string m] w fun e w' => e = .returned (.tuple #[.int .i64 (fineN x : Nat), .bool (fineB m)]) ∧ Drawn w w' := by
  have Hc := Lib.hid (wordCheck_any 2 m hm)
  have hb : (1 : Int) + (x : Int) % 6 = ((fineN x : Nat) : Int) := by unfold fineN; omega
  obtain ⟨n, hn⟩ : ∃ n, fineN x = n := ⟨_, rfl⟩
  rw [hn] at hb ⊢
  have hfb : fineB m = (decide (m.size ≠ 0) && decide (m.size ≤ 8) && decide (wordCheck 2 m.data.toList = 0)) := rfl
  generalize wordCheck 2 m.data.toList = E at *
  generalize fineB m = F at *
  unfold maxLen at hm
  by_cases h0 : m.size = 0
  · have hne := (str_empty m).2 h0
    have HF := Lib.hid (show F = false by rw [hfb]; simp [h0])
    rw [HF.out]
    clear hfb h0 hn
    go_enter Try.func11, Try.ntmps11
    go_wp2_with fail
    go_ret2
    exact ⟨rfl, Drawn.refl _⟩
  · have hne : m.toList.isEmpty = false := by rw [Bool.eq_false_iff]; exact fun h => h0 ((str_empty m).1 h)
    by_cases h8 : m.size ≤ 8
    · have h8I : decide ((m.size : Int) ≤ 8) = true := by rw [decide_eq_true_eq]; omega
      cases hE : (E == 0)
      · have HF := Lib.hid (show F = false by rw [hfb, decide_eq_false (show ¬ E = 0 by simpa using hE), Bool.and_false])
        rw [HF.out]
        have HE := Lib.hid hE
        clear hfb h0 hn
        go_enter Try.func11, Try.ntmps11
        go_wp2_with (go_at_call 39; go_fit (Hc.out _); rintro e w1 ⟨rfl, hd⟩; have Hd := Lib.hid hd; clear hd)
        go_ret2
        exact ⟨rfl, Hd.out⟩
      · have HF := Lib.hid (show F = true by rw [hfb, decide_eq_true (show E = 0 by simpa using hE), decide_eq_true h0, decide_eq_true h8]; rfl)
        rw [HF.out]
        clear hfb h0 hn
        go_enter Try.func11, Try.ntmps11
        go_wp2_with (go_at_call 39; go_fit (Hc.out _); rintro e w1 ⟨rfl, hd⟩; have Hd := Lib.hid hd; clear hd)
        go_ret2
        exact ⟨rfl, Hd.out⟩
    · have h8I : decide ((m.size : Int) ≤ 8) = false := by rw [decide_eq_false_iff_not]; omega
      have HF := Lib.hid (show F = false by rw [hfb]; simp [h8])
      rw [HF.out]
      clear hfb h0 hn
      go_enter Try.func11, Try.ntmps11
      go_wp2_with fail
      go_ret2
      exact ⟨rfl, Drawn.refl _⟩
end Go.Proofs.Ytlkajmdcffemeaa
