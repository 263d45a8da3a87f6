/- The walk of integer.Mul. -/
import Derived.Test.YteoemijgdcpopaaDoorB3
import Derived.Test.YteoemijgdcpopaaDoorB9
namespace Go.Proofs.YteoemijgdcpopaaDoor
open Go.RowKit

set_option maxRecDepth 100000 in
set_option maxHeartbeats 8000000 in
theorem mul_any (x y : ZI) (hx : x.mag.size ≤ 100000000) (hy : y.mag.size ≤ 100000000) (w : World) :
    Calls Tryd.prog 53 #[.agg #[.bool x.neg, .string x.mag], .agg #[.bool y.neg, .string y.mag]] w (RetZ (mkZ (!(x.neg == y.neg)) (absZ x * absZ y)) w) := by
  have hlx := Lib.hid (digs_len_fit hx)
  have hly := Lib.hid (digs_len_fit hy)
  go_enter Tryd.func53, Tryd.ntmps53
  go_wp2_with fail
  obtain ⟨W, hW⟩ : ∃ W, (((w.alloc (.cells #[.bool x.neg, .string x.mag] 35)).alloc (.cells #[.bool y.neg, .string y.mag] 35)).alloc (.cells #[.bool false, .string ⟨#[]⟩] 35)) = W := ⟨_, rfl⟩
  have hA : BoxAt W w.heap.size (.bool x.neg) (.string x.mag) := by rw [← hW]; exact ((BoxAt.new w (.bool x.neg) (.string x.mag) 35).alloc _).alloc _
  have hB : BoxAt W (w.heap.size + 1) (.bool y.neg) (.string y.mag) := by
    rw [← hW]
    have := (BoxAt.new (w.alloc (.cells #[.bool x.neg, .string x.mag] 35)) (.bool y.neg) (.string y.mag) 35).alloc (.cells #[.bool false, .string ⟨#[]⟩] 35)
    rwa [World.size_alloc] at this
  have hC : BoxAt W (w.heap.size + 1 + 1) (.bool false) (.string ⟨#[]⟩) := by
    rw [← hW]
    have := BoxAt.new ((w.alloc (.cells #[.bool x.neg, .string x.mag] 35)).alloc (.cells #[.bool y.neg, .string y.mag] 35)) (.bool false) (.string ⟨#[]⟩) 35
    rwa [World.size_alloc, World.size_alloc] at this
  have hb0 : Below w.heap.size w W := by rw [← hW]; exact (((Below.refl _ _).alloc (Nat.le_refl _) _).alloc (by simp) _).alloc (by simp; omega) _
  have hs0 : W.heap.size = w.heap.size + 1 + 1 + 1 := by rw [← hW]; simp
  rw [hW]
  have HA := Lib.hid hA
  have HB := Lib.hid hB
  have HC := Lib.hid hC
  have Hb0 := Lib.hid hb0
  have Hs0 := Lib.hid hs0
  obtain ⟨a0, a1, _, _, _⟩ := hA
  obtain ⟨b0, b1, _, _, _⟩ := hB
  clear hC hb0 hs0 hW
  have n1 : ¬ (w.heap.size = w.heap.size + 1 + 1) := by omega
  have n2 : ¬ (w.heap.size + 1 + 1 = w.heap.size) := by omega
  go_region_held3 (fun w' => w'.cell? ⟨w.heap.size, 0, none⟩ = some (.bool x.neg) ∧ w'.cell? ⟨w.heap.size, 1, none⟩ = some (.string x.mag) ∧ w'.cell? ⟨w.heap.size + 1, 0, none⟩ = some (.bool y.neg) ∧ w'.cell? ⟨w.heap.size + 1, 1, none⟩ = some (.string y.mag)) (go_keep)
    (first
      | (go_at_call 84; go_fit (digits_any x hx _); rintro e wa ⟨pa, ca, rfl, hN, hca1, hca2, hb⟩; have HNa := Lib.hid hN; have Hwa := Lib.hid (show Below W.heap.size W wa from Below.trans (by repeat (first | exact Hwb.out | exact Hwa.out | exact Below.refl _ _ | exact Hab.out | exact Hba.out | refine Below.drew ?_ | refine below_dr ?_)) (hb.mono (by first | exact Nat.le_refl _ | exact Hwa.out.size | exact Hwb.out.size | exact Hab.out.size | exact Hba.out.size))); (try (have Hba := Lib.hid (show Below wb.heap.size wb wa from Below.trans (by repeat (first | exact Hwb.out | exact Hwa.out | exact Below.refl _ _ | exact Hab.out | exact Hba.out | refine Below.drew ?_ | refine below_dr ?_)) (hb.mono (by first | exact Nat.le_refl _ | exact Hwa.out.size | exact Hwb.out.size | exact Hab.out.size | exact Hba.out.size))))); have HA2 := Lib.hid (HA.out.below Hwa.out (by have := Hs0.out; omega)); have HB2 := Lib.hid (HB.out.below Hwa.out (by have := Hs0.out; omega)); obtain ⟨d0, d1, _, _, _⟩ := HA2.out; obtain ⟨e0, e1, _, _, _⟩ := HB2.out; clear hb hN)
      | (go_at_call 84; go_fit (digits_any y hy _); rintro e wb ⟨pb, cb, rfl, hN, hcb1, hcb2, hb⟩; have HNb := Lib.hid hN; have Hwb := Lib.hid (show Below W.heap.size W wb from Below.trans (by repeat (first | exact Hwb.out | exact Hwa.out | exact Below.refl _ _ | exact Hab.out | exact Hba.out | refine Below.drew ?_ | refine below_dr ?_)) (hb.mono (by first | exact Nat.le_refl _ | exact Hwa.out.size | exact Hwb.out.size | exact Hab.out.size | exact Hba.out.size))); (try (have Hab := Lib.hid (show Below wa.heap.size wa wb from Below.trans (by repeat (first | exact Hwb.out | exact Hwa.out | exact Below.refl _ _ | exact Hab.out | exact Hba.out | refine Below.drew ?_ | refine below_dr ?_)) (hb.mono (by first | exact Nat.le_refl _ | exact Hwa.out.size | exact Hwb.out.size | exact Hab.out.size | exact Hba.out.size))))); have HA2 := Lib.hid (HA.out.below Hwb.out (by have := Hs0.out; omega)); have HB2 := Lib.hid (HB.out.below Hwb.out (by have := Hs0.out; omega)); obtain ⟨d0, d1, _, _, _⟩ := HA2.out; obtain ⟨e0, e1, _, _, _⟩ := HB2.out; clear hb hN)
      | (go_at_call 89; go_fit (multiply_any (absZ x) (absZ y) pa pb ca cb _ (HNa.out.below (Nat.le_refl _) (by repeat (first | exact Hwb.out | exact Hwa.out | exact Below.refl _ _ | exact Hab.out | exact Hba.out | refine Below.drew ?_ | refine below_dr ?_))) (HNb.out.below (Nat.le_refl _) (by repeat (first | exact Hwb.out | exact Hwa.out | exact Below.refl _ _ | exact Hab.out | exact Hba.out | refine Below.drew ?_ | refine below_dr ?_))) hlx.out hly.out); rintro e wc ⟨pc, cc, rfl, hN, hcc1, hcc2, hb⟩; have HNc := Lib.hid hN; have Hwc := Lib.hid (show Below W.heap.size W wc from Below.trans (by repeat (first | exact Hwb.out | exact Hwa.out | exact Below.refl _ _ | exact Hab.out | exact Hba.out | refine Below.drew ?_ | refine below_dr ?_)) (hb.mono (by first | exact Nat.le_refl _ | exact Hwa.out.size | exact Hwb.out.size | exact Hab.out.size | exact Hba.out.size))); have HA2 := Lib.hid (HA.out.below Hwc.out (by have := Hs0.out; omega)); have HB2 := Lib.hid (HB.out.below Hwc.out (by have := Hs0.out; omega)); obtain ⟨d0, d1, _, _, _⟩ := HA2.out; obtain ⟨e0, e1, _, _, _⟩ := HB2.out; clear hb hN)
      | (go_at_call 85; go_fit (number_digs _ _ pc cc _ (HNc.out.below (Nat.le_refl _) (by repeat (first | exact Hwb.out | exact Hwa.out | exact Below.refl _ _ | exact Hab.out | exact Hba.out | refine Below.drew ?_ | refine below_dr ?_))) hcc1 hcc2); rintro e w3 ⟨rfl, hb⟩; have Hb3 := Lib.hid (show Below W.heap.size W w3 from Below.trans Hwc.out (Below.trans (by repeat (first | exact Hwb.out | exact Hwa.out | exact Below.refl _ _ | exact Hab.out | exact Hba.out | refine Below.drew ?_ | refine below_dr ?_)) (hb.mono (by exact Hwc.out.size)))); have HA3 := Lib.hid (HA.out.below Hb3.out (by have := Hs0.out; omega)); have HB3 := Lib.hid (HB.out.below Hb3.out (by have := Hs0.out; omega)); have HC3 := Lib.hid (HC.out.below Hb3.out (by have := Hs0.out; omega)); obtain ⟨d0, d1, _, _, _⟩ := HA3.out; obtain ⟨e0, e1, _, _, _⟩ := HB3.out; obtain ⟨f0, f1, f2, f3, _⟩ := HC3.out; clear hb))
  all_goals
    go_wp2
    refine bodyPost_ret (v := .agg #[.bool (mkZ (!(x.neg == y.neg)) (absZ x * absZ y)).neg, .string (mkZ (!(x.neg == y.neg)) (absZ x * absZ y)).mag]) ?_ rfl ⟨rfl, ?_⟩
    · simp [results, Tryd.results53, go_sem, f0, f1]
    · exact ((Hb0.out.trans (Hb3.out.mono (by have := Hs0.out; omega))).setCell (by simp; omega) _).setCell (by simp; omega) _
end Go.Proofs.YteoemijgdcpopaaDoor
