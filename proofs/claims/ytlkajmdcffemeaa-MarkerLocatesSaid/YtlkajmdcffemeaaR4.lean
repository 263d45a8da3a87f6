/- grooveref01: Neg. -/
import Derived.Test.YtlkajmdcffemeaaR2
namespace Go.Proofs.Ytlkajmdcffemeaa
open Go.RowKit

theorem canon_neg_parts (n : Int) : (canon (-n)).neg = (!(canon n).neg && !(canon n).mag.toList.isEmpty) ∧ (canon (-n)).mag = (canon n).mag := by
  rw [ByteArray.toList_eq]
  have hm : (canon (-n)).mag = (canon n).mag := by simp [canon]
  refine ⟨?_, hm⟩
  by_cases h0 : n = 0
  · subst h0; rfl
  · have h1 : beb n.natAbs ≠ [] := fun h => by
      have : n.natAbs = 0 := beb_len_zero.1 (by rw [h]; rfl)
      omega
    have h2 : (beb n.natAbs).isEmpty = false := by rw [List.isEmpty_eq_false_iff]; exact h1
    show decide (-n < 0) = (!decide (n < 0) && !(beb n.natAbs).isEmpty)
    rw [h2]
    by_cases h : n < 0
    · rw [decide_eq_true h, decide_eq_false (by omega)]; rfl
    · rw [decide_eq_false h, decide_eq_true (by omega)]; rfl

set_option maxRecDepth 100000 in
set_option maxHeartbeats 8000000 in
theorem refNeg_any (z : ZI) (hz : z.mag.size ≤ 100000000) (w : World) :
    Calls Try.prog 94 #[.agg #[.bool z.neg, .string z.mag]] w (RetZ (canon (-valZ z)) w) := by
  have hcan := refCanonical_any z hz
  obtain ⟨hp1, hp2⟩ := canon_neg_parts (valZ z)
  generalize canon (-valZ z) = R at *
  generalize canon (valZ z) = m at *
  have Hcan := Lib.hid hcan
  have Hp1 := Lib.hid hp1
  have Hp2 := Lib.hid hp2
  clear hcan hp1 hp2
  rcases m with ⟨N, M⟩
  dsimp only at Hp1 Hp2
  have n1 : ¬ (w.heap.size = w.heap.size + 1) := by omega
  have n2 : ¬ (w.heap.size + 1 = w.heap.size) := by omega
  cases N
  all_goals
    go_enter Try.func94, Try.ntmps94
    go_wp2_with (go_at_call 103; go_fit (Hcan.out _); rintro e w3 ⟨rfl, hb⟩; have Hb3 := Lib.hid hb; have HA := Lib.hid ((BoxAt.new w (.bool z.neg) (.string z.mag) 34).alloc (.cells #[.bool false, .string ⟨#[]⟩] 34) |>.below hb (by simp; omega)); have hB0 := (BoxAt.new (w.alloc (.cells #[.bool z.neg, .string z.mag] 34)) (.bool false) (.string ⟨#[]⟩) 34).below hb (by simp); rw [World.size_alloc] at hB0; have HB := Lib.hid hB0; obtain ⟨a0, a1, a2, a3, _⟩ := HA.out; obtain ⟨b0, b1, b2, b3, _⟩ := hB0; clear hb)
    refine bodyPost_ret (v := .agg #[.bool R.neg, .string R.mag]) ?_ rfl ⟨rfl, ?_⟩
    · rw [Hp1.out, Hp2.out]
      simp [results, Try.results94, go_sem, b0, b1]
    · have hbe : Below w.heap.size w w3 := (((Below.refl _ _).alloc (Nat.le_refl _) _).alloc (by simp) _).trans (Hb3.out.mono (by simp; omega))
      exact (((hbe.setCell (by simp) _).setCell (by simp) _).setCell (by simp) _).setCell (by simp) _
end Go.Proofs.Ytlkajmdcffemeaa
