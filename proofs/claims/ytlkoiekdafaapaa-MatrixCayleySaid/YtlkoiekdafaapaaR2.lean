/- grooveref01: Canonical. -/
import Derived.Test.YtlkoiekdafaapaaR1
namespace Go.Proofs.Ytlkoiekdafaapaa
open Go.RowKit

theorem canon_parts (z : ZI) : (canon (valZ z)).neg = (z.neg && !(beb (bval z.mag.data.toList)).isEmpty) ∧ (canon (valZ z)).mag = ⟨(beb (bval z.mag.data.toList)).toArray⟩ := by
  rw [← sameZ_val]
  have h : absZ z = bval z.mag.data.toList := rfl
  rw [← h]
  unfold mkZ
  by_cases h0 : absZ z = 0
  · rw [if_pos h0, h0, beb_zero]; simp
  · rw [if_neg h0]
    have : (beb (absZ z)).isEmpty = false := by
      rw [List.isEmpty_eq_false_iff]
      intro h; exact h0 (beb_len_zero.1 (by rw [h]; rfl))
    rw [this]; simp

set_option maxRecDepth 100000 in
set_option maxHeartbeats 4000000 in
theorem refCanonical_any (z : ZI) (hz : z.mag.size ≤ 100000000) (w : World) :
    Calls Try.prog 110 #[.agg #[.bool z.neg, .string z.mag]] w (RetZ (canon (valZ z)) w) := by
  obtain ⟨hp1, hp2⟩ := canon_parts z
  obtain ⟨Z, hZ⟩ : ∃ Z, canon (valZ z) = Z := ⟨_, rfl⟩
  rw [hZ] at hp1 hp2
  rw [hZ]
  have Hp1 := Lib.hid hp1
  have Hp2 := Lib.hid hp2
  clear hp1 hp2
  by_cases hlt : 0 < z.mag.size
  · obtain ⟨c, hcc⟩ : ∃ c, (z.mag[0]'hlt).toNat = c := ⟨_, rfl⟩
    have i0 : (0 : Int) < (z.mag.size : Int) := by omega
    by_cases hc : c = 0
    · have hcb : ((c : Int) != 0) = false := by rw [bne_eq_false_iff_eq]; omega
      clear hZ
      cases hn : z.neg
      all_goals
        rw [hn] at Hp1
        go_enter Try.func110, Try.ntmps110
        go_wp2_with (go_at_call 55; go_fit (refTrim_any z.mag hz _); rintro e w2 ⟨rfl, rfl⟩)
        refine bodyPost_ret (v := .agg #[.bool Z.neg, .string Z.mag]) ?_ rfl ⟨rfl, ((Below.refl _ _).alloc (Nat.le_refl _) _).alloc (by simp) _⟩
        rw [Hp1.out, Hp2.out]
        simp [results, Try.results110, go_sem]
    · have hcb : ((c : Int) != 0) = true := by rw [bne_iff_ne]; omega
      have HZ := Lib.hid (show z = Z from by rw [← hZ]; exact canon_of_head hlt (by omega))
      clear hZ
      go_enter Try.func110, Try.ntmps110
      go_wp2
      refine bodyPost_ret (v := .agg #[.bool Z.neg, .string Z.mag]) ?_ rfl ⟨rfl, ((Below.refl _ _).alloc (Nat.le_refl _) _).alloc (by simp) _⟩
      rw [← HZ.out]
      simp [results, Try.results110, go_sem]
  · have i0 : ¬ (0 : Int) < (z.mag.size : Int) := by omega
    clear hZ
    cases hn : z.neg
    all_goals
      rw [hn] at Hp1
      go_enter Try.func110, Try.ntmps110
      go_wp2_with (go_at_call 55; go_fit (refTrim_any z.mag hz _); rintro e w2 ⟨rfl, rfl⟩)
      refine bodyPost_ret (v := .agg #[.bool Z.neg, .string Z.mag]) ?_ rfl ⟨rfl, ((Below.refl _ _).alloc (Nat.le_refl _) _).alloc (by simp) _⟩
      rw [Hp1.out, Hp2.out]
      simp [results, Try.results110, go_sem]
end Go.Proofs.Ytlkoiekdafaapaa
