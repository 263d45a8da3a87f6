/- The walk of integer.Check. -/
import Derived.Test.YtlaoijfphkhchaaIntB
import Derived.Laws.StructEq
namespace Go.Proofs.Ytlaoijfphkhchaa
open Go.RowKit

/-- What integer.Check returns. -/
def chkZ (z : ZI) : Int := if z = canon (valZ z) then 0 else 1
set_option maxRecDepth 100000 in
set_option maxHeartbeats 8000000 in
theorem check_any (z : ZI) (hz : z.mag.size ≤ 100000000) (w : World) :
    Calls Try.prog 72 #[.agg #[.bool z.neg, .string z.mag]] w fun e w' => e = .returned (.int .i64 (chkZ z)) ∧ Below w.heap.size w w' := by
  obtain ⟨m, hm⟩ : ∃ m, canon (valZ z) = m := ⟨_, rfl⟩
  have Hsm : Hid (mkZ z.neg (absZ z) = m) := Lib.hid (by rw [sameZ_val, hm])
  have hres : chkZ z = if ((m.neg == z.neg) && (m.mag.toList == z.mag.toList)) = true then 0 else 1 := by
    unfold chkZ
    rw [hm]
    have : (z = m) ↔ ((m.neg == z.neg) && (m.mag.toList == z.mag.toList)) = true := by
      rcases z with ⟨a, ⟨⟨s⟩⟩⟩
      rcases m with ⟨b, ⟨⟨t⟩⟩⟩
      rw [ByteArray.toList_eq, ByteArray.toList_eq]
      simp only [Bool.and_eq_true, beq_iff_eq, ZI.mk.injEq, ByteArray.mk.injEq, Array.mk.injEq]
      exact ⟨fun h => ⟨h.1.symm, h.2.symm⟩, fun h => ⟨h.1.symm, h.2.symm⟩⟩
    by_cases h : z = m
    · rw [if_pos h, if_pos (this.1 h)]
    · rw [if_neg h, if_neg (fun k => h (this.2 k))]
  clear hm
  cases hb1 : (m.neg == z.neg) <;> cases hb2 : (m.mag.toList == z.mag.toList)
  all_goals
   rw [hb1, hb2] at hres
   simp only [Bool.and_true, Bool.and_false, Bool.and_self, if_true, Bool.false_eq_true, if_false] at hres
   have Hres := Lib.hid hres
   clear hres
   go_enter Try.func72, Try.ntmps72
   go_wp2_with fail
   obtain ⟨W, hW⟩ : ∃ W, (w.alloc (.cells #[.bool z.neg, .string z.mag] 28)) = W := ⟨_, rfl⟩
   have hA : BoxAt W w.heap.size (.bool z.neg) (.string z.mag) := by rw [← hW]; exact BoxAt.new w (.bool z.neg) (.string z.mag) 28
   have hb0 : Below w.heap.size w W := by rw [← hW]; exact (Below.refl _ _).alloc (Nat.le_refl _) _
   have hs0 : W.heap.size = w.heap.size + 1 := by rw [← hW]; simp
   rw [hW]
   have HA := Lib.hid hA
   have Hb0 := Lib.hid hb0
   have Hs0 := Lib.hid hs0
   obtain ⟨a0, a1, _, _, _⟩ := hA
   clear hb0 hs0 hW
   go_region_held3 (fun w' => w'.cell? ⟨w.heap.size, 0, none⟩ = some (.bool z.neg) ∧ w'.cell? ⟨w.heap.size, 1, none⟩ = some (.string z.mag)) (go_keep)
     (first
       | (go_at_call 48; go_fit (digits_any z hz _); rintro e w2 ⟨p, c, rfl, hN, hc1, hc2, hb⟩; have HN := Lib.hid hN; have Hb2 := Lib.hid (show Below W.heap.size W w2 from Below.trans (by repeat (first | exact Below.refl _ _ | refine Below.drew ?_ | refine below_dr ?_)) (hb.mono (Nat.le_refl _))); have HA2 := Lib.hid (HA.out.below Hb2.out (by have := Hs0.out; omega)); obtain ⟨b0, b1, _, _, _⟩ := HA2.out; clear hb hN)
       | (go_at_call 49; go_fit (number_digs _ _ p c _ (HN.out.below (Nat.le_refl _) (by repeat (first | exact Below.refl _ _ | refine Below.drew ?_ | refine below_dr ?_))) hc1 hc2); rintro e w3 ⟨rfl, hb⟩; rw [Hsm.out]; have Hb3 := Lib.hid (show Below W.heap.size W w3 from Below.trans Hb2.out (Below.trans (by repeat (first | exact Below.refl _ _ | refine Below.drew ?_ | refine below_dr ?_)) (hb.mono (by simpa using Hb2.out.size)))); have HA3 := Lib.hid (HA.out.below Hb3.out (by have := Hs0.out; omega)); obtain ⟨b0, b1, _, _, _⟩ := HA3.out; clear hb))
   go_wp2
   go_ret
   exact ⟨by rw [Hres.out]; rfl, Hb0.out.trans (by repeat (first | exact Hb3.out.mono (by have := Hs0.out; omega) | refine Below.drew ?_ | refine below_dr ?_))⟩
end Go.Proofs.Ytlaoijfphkhchaa
