/- The walk of integer.Add. -/
import Derived.Test.YtlkajmdcffemeaaInt9
namespace Go.Proofs.Ytlkajmdcffemeaa
open Go.RowKit

/-- Two numbers as digits, in one world. -/
def TwoNat (W : World) (m n : Nat) (u v : Value) (wx : World) : Prop :=
  ∃ pa ca pb cb, u = .slice pa (digs m).length ca ∧ v = .slice pb (digs n).length cb ∧ NatsAt wx pa (digs m) ∧ (digs m).length ≤ ca ∧ ca ≤ 1000000000 ∧ NatsAt wx pb (digs n) ∧ (digs n).length ≤ cb ∧ cb ≤ 1000000000 ∧ Below W.heap.size W wx
/-- The sum by sign and size. -/
def addZ (x y : ZI) : ZI := if x.neg = y.neg then mkZ x.neg (absZ x + absZ y) else if absZ x < absZ y then mkZ y.neg (absZ y - absZ x) else mkZ x.neg (absZ x - absZ y)
theorem digs_len_fit1 {z : ZI} (h : z.mag.size ≤ 100000000) : (digs (absZ z)).length ≤ 100000000 := by
  have := digs_le _ _ (absZ_lt z)
  omega

set_option maxRecDepth 100000 in
set_option maxHeartbeats 8000000 in
theorem add_z (x y : ZI) (hx : x.mag.size ≤ 100000000) (hy : y.mag.size ≤ 100000000) (w : World) :
    Calls Try.prog 97 #[.agg #[.bool x.neg, .string x.mag], .agg #[.bool y.neg, .string y.mag]] w (RetZ (addZ x y) w) := by
  have hlx := Lib.hid (digs_len_fit1 hx)
  have hly := Lib.hid (digs_len_fit1 hy)
  go_enter Try.func97, Try.ntmps97
  go_upto_region 1 with (fail)
  obtain ⟨W, hW⟩ : ∃ W, (((w.alloc (.cells #[.bool x.neg, .string x.mag] 34)).alloc (.cells #[.bool y.neg, .string y.mag] 34)).alloc (.cells #[.bool false, .string ⟨#[]⟩] 34)) = W := ⟨_, rfl⟩
  have hA : BoxAt W w.heap.size (.bool x.neg) (.string x.mag) := by rw [← hW]; exact ((BoxAt.new w (.bool x.neg) (.string x.mag) 34).alloc _).alloc _
  have hB : BoxAt W (w.heap.size + 1) (.bool y.neg) (.string y.mag) := by
    rw [← hW]
    have := (BoxAt.new (w.alloc (.cells #[.bool x.neg, .string x.mag] 34)) (.bool y.neg) (.string y.mag) 34).alloc (.cells #[.bool false, .string ⟨#[]⟩] 34)
    rwa [World.size_alloc] at this
  have hC : BoxAt W (w.heap.size + 1 + 1) (.bool false) (.string ⟨#[]⟩) := by
    rw [← hW]
    have := BoxAt.new ((w.alloc (.cells #[.bool x.neg, .string x.mag] 34)).alloc (.cells #[.bool y.neg, .string y.mag] 34)) (.bool false) (.string ⟨#[]⟩) 34
    rwa [World.size_alloc, World.size_alloc] at this
  have hb0 : Below w.heap.size w W := by rw [← hW]; exact (((Below.refl _ _).alloc (Nat.le_refl _) _).alloc (by simp) _).alloc (by simp; omega) _
  have hs0 : W.heap.size = w.heap.size + 1 + 1 + 1 := by rw [← hW]; simp
  rw [hW]
  have HA := Lib.hid hA
  have HB := Lib.hid hB
  have HC := Lib.hid hC
  have Hb0 := Lib.hid hb0
  have Hs0 := Lib.hid hs0
  obtain ⟨a0, a1, _, _, _⟩ := hA
  obtain ⟨b0, b1, _, _, _⟩ := hB
  clear hC hb0 hs0 hW
  have n1 : ¬ (w.heap.size = w.heap.size + 1 + 1) := by omega
  have n2 : ¬ (w.heap.size + 1 + 1 = w.heap.size) := by omega
  go_cut [5, 6] (fun u v wx => TwoNat W (absZ x) (absZ y) u v wx)
  case first =>
    go_region_held3 (fun w' => w'.cell? ⟨w.heap.size, 0, none⟩ = some (.bool x.neg) ∧ w'.cell? ⟨w.heap.size, 1, none⟩ = some (.string x.mag) ∧ w'.cell? ⟨w.heap.size + 1, 0, none⟩ = some (.bool y.neg) ∧ w'.cell? ⟨w.heap.size + 1, 1, none⟩ = some (.string y.mag)) (go_keep)
    (first
      | (go_at_call 98; go_fit (digits_any x hx _); rintro e wa ⟨pa, ca, rfl, hN, hca1, hca2, hb⟩; have HNa := Lib.hid hN; have Hwa := Lib.hid (show Below W.heap.size W wa from Below.trans (by repeat (first | exact Hwb.out | exact Hwa.out | exact Below.refl _ _ | exact Hab.out | exact Hba.out | refine Below.drew ?_ | refine below_dr ?_)) (hb.mono (by first | exact Nat.le_refl _ | exact Hwa.out.size | exact Hwb.out.size | exact Hab.out.size | exact Hba.out.size))); (try (have Hba := Lib.hid (show Below wb.heap.size wb wa from Below.trans (by repeat (first | exact Hwb.out | exact Hwa.out | exact Below.refl _ _ | exact Hab.out | exact Hba.out | refine Below.drew ?_ | refine below_dr ?_)) (hb.mono (by first | exact Nat.le_refl _ | exact Hwa.out.size | exact Hwb.out.size | exact Hab.out.size | exact Hba.out.size))))); have HA2 := Lib.hid (HA.out.below Hwa.out (by have := Hs0.out; omega)); have HB2 := Lib.hid (HB.out.below Hwa.out (by have := Hs0.out; omega)); obtain ⟨d0, d1, _, _, _⟩ := HA2.out; obtain ⟨e0, e1, _, _, _⟩ := HB2.out; clear hb hN)
      | (go_at_call 98; go_fit (digits_any y hy _); rintro e wb ⟨pb, cb, rfl, hN, hcb1, hcb2, hb⟩; have HNb := Lib.hid hN; have Hwb := Lib.hid (show Below W.heap.size W wb from Below.trans (by repeat (first | exact Hwb.out | exact Hwa.out | exact Below.refl _ _ | exact Hab.out | exact Hba.out | refine Below.drew ?_ | refine below_dr ?_)) (hb.mono (by first | exact Nat.le_refl _ | exact Hwa.out.size | exact Hwb.out.size | exact Hab.out.size | exact Hba.out.size))); (try (have Hab := Lib.hid (show Below wa.heap.size wa wb from Below.trans (by repeat (first | exact Hwb.out | exact Hwa.out | exact Below.refl _ _ | exact Hab.out | exact Hba.out | refine Below.drew ?_ | refine below_dr ?_)) (hb.mono (by first | exact Nat.le_refl _ | exact Hwa.out.size | exact Hwb.out.size | exact Hab.out.size | exact Hba.out.size))))); have HA2 := Lib.hid (HA.out.below Hwb.out (by have := Hs0.out; omega)); have HB2 := Lib.hid (HB.out.below Hwb.out (by have := Hs0.out; omega)); obtain ⟨d0, d1, _, _, _⟩ := HA2.out; obtain ⟨e0, e1, _, _, _⟩ := HB2.out; clear hb hN))
    all_goals
      go_wp2_with fail
      go_meet
      exact ⟨pa, ca, pb, cb, rfl, rfl, HNa.out.below (Nat.le_refl _) (by repeat (first | exact Hwb.out | exact Hwa.out | exact Below.refl _ _ | exact Hab.out | exact Hba.out | refine Below.drew ?_ | refine below_dr ?_)), hca1, hca2, HNb.out.below (Nat.le_refl _) (by repeat (first | exact Hwb.out | exact Hwa.out | exact Below.refl _ _ | exact Hab.out | exact Hba.out | refine Below.drew ?_ | refine below_dr ?_)), hcb1, hcb2, by repeat (first | exact Hwb.out | exact Hwa.out | exact Below.refl _ _ | exact Hab.out | exact Hba.out | refine Below.drew ?_ | refine below_dr ?_)⟩
  case rest =>
    obtain ⟨pa, ca, pb, cb, rfl, rfl, hNa, hca1, hca2, hNb, hcb1, hcb2, hwx⟩ := hcut
    have HNa := Lib.hid hNa
    have HNb := Lib.hid hNb
    have Hwx := Lib.hid hwx
    have HA1 := HA.out.below hwx (by have := Hs0.out; omega)
    have HB1 := HB.out.below hwx (by have := Hs0.out; omega)
    clear a0 a1 b0 b1 hNa hNb hwx
    obtain ⟨a0, a1, _, _, _⟩ := HA1
    obtain ⟨b0, b1, _, _, _⟩ := HB1
    by_cases hs : x.neg = y.neg
    · have hsb : (x.neg == y.neg) = true := by rw [beq_iff_eq]; exact hs
      have hR : addZ x y = mkZ x.neg (absZ x + absZ y) := if_pos hs
      have HR := Lib.hid hR
      clear hR hs
      go_wp2_with fail
      go_region_held3 (fun w' => w'.cell? ⟨w.heap.size, 0, none⟩ = some (.bool x.neg)) (go_keep)
        (first
          | (go_at_call 101; go_fit (add_any (absZ x) (absZ y) pa pb ca cb _ (HNa.out.below (Nat.le_refl _) (by repeat (first | exact Below.refl _ _ | refine Below.drew ?_ | refine below_dr ?_ | exact Drawn.below Hd.out _))) (HNb.out.below (Nat.le_refl _) (by repeat (first | exact Below.refl _ _ | refine Below.drew ?_ | refine below_dr ?_ | exact Drawn.below Hd.out _))) (by have := hlx.out; omega) (by have := hly.out; omega)); rintro e wd ⟨pd, cd, rfl, hN, hcd1, hcd2, hb⟩; have HNd := Lib.hid hN; have Hwd := Lib.hid (show Below W.heap.size W wd from Below.trans Hwx.out (Below.trans (by repeat (first | exact Below.refl _ _ | refine Below.drew ?_ | refine below_dr ?_ | exact Drawn.below Hd.out _)) (hb.mono (by exact Hwx.out.size)))); have HA2 := Lib.hid (HA.out.below Hwd.out (by have := Hs0.out; omega)); have HB2 := Lib.hid (HB.out.below Hwd.out (by have := Hs0.out; omega)); obtain ⟨d0, d1, _, _, _⟩ := HA2.out; obtain ⟨e0, e1, _, _, _⟩ := HB2.out; clear hb hN)
          | (go_at_call 70; go_fit (number_digs _ _ pd cd _ (HNd.out.below (Nat.le_refl _) (by repeat (first | exact Below.refl _ _ | refine Below.drew ?_ | refine below_dr ?_ | exact Drawn.below Hd.out _))) hcd1 hcd2); rintro e w3 ⟨rfl, hb⟩; have Hb3 := Lib.hid (show Below W.heap.size W w3 from Below.trans Hwd.out (Below.trans (by repeat (first | exact Below.refl _ _ | refine Below.drew ?_ | refine below_dr ?_ | exact Drawn.below Hd.out _)) (hb.mono (by exact Hwd.out.size)))); have HA3 := Lib.hid (HA.out.below Hb3.out (by have := Hs0.out; omega)); have HB3 := Lib.hid (HB.out.below Hb3.out (by have := Hs0.out; omega)); have HC3 := Lib.hid (HC.out.below Hb3.out (by have := Hs0.out; omega)); obtain ⟨d0, d1, _, _, _⟩ := HA3.out; obtain ⟨e0, e1, _, _, _⟩ := HB3.out; obtain ⟨f0, f1, f2, f3, _⟩ := HC3.out; clear hb))
      go_wp2
      refine bodyPost_ret (v := .agg #[.bool (mkZ x.neg (absZ x + absZ y)).neg, .string (mkZ x.neg (absZ x + absZ y)).mag]) ?_ rfl ⟨by rw [HR.out], ?_⟩
      · simp [results, Try.results97, go_sem, f0, f1]
      · exact ((Hb0.out.trans (Hb3.out.mono (by have := Hs0.out; omega))).setCell (by simp; omega) _).setCell (by simp; omega) _
    · have hsb : (x.neg == y.neg) = false := by rw [beq_eq_false_iff_ne]; exact hs
      have hC1 : ∃ C, cmpN (absZ x) (absZ y) = C := ⟨_, rfl⟩
      obtain ⟨C, hCC⟩ := hC1
      have HCC := Lib.hid hCC
      by_cases hlt : absZ x < absZ y
      · have hR : addZ x y = mkZ y.neg (absZ y - absZ x) := by unfold addZ; rw [if_neg hs, if_pos hlt]
        have hC2 : C < 0 := by rw [← hCC]; unfold cmpN; rw [if_pos hlt]; decide
        have HR := Lib.hid hR
        have Hlt := Lib.hid (Nat.le_of_lt hlt)
        clear hR hs hCC hlt
        go_wp2_with (go_at_call 109; go_fit (compare_any (absZ x) (absZ y) pa pb ca cb wc HNa.out HNb.out hlx.out hly.out); rintro e w1 ⟨rfl, hd⟩; have Hd := Lib.hid hd; have k0 := (hd.cell ⟨w.heap.size, 0, none⟩).trans a0; have k1 := (hd.cell ⟨w.heap.size, 1, none⟩).trans a1; have k2 := (hd.cell ⟨w.heap.size + 1, 0, none⟩).trans b0; have k3 := (hd.cell ⟨w.heap.size + 1, 1, none⟩).trans b1; have Hsz := Lib.hid (show W.heap.size ≤ w1.heap.size from by rw [hd.heap]; exact Hwx.out.size); rw [HCC.out]; clear hd)
        go_region_held3 (fun w' => w'.cell? ⟨w.heap.size + 1, 0, none⟩ = some (.bool y.neg)) (go_keep)
          (first
            | (go_at_call 102; go_fit (subtract_any (absZ y) (absZ x) pb pa cb ca _ (HNb.out.below (Nat.le_refl _) (by repeat (first | exact Below.refl _ _ | refine Below.drew ?_ | refine below_dr ?_ | exact Drawn.below Hd.out _))) (HNa.out.below (Nat.le_refl _) (by repeat (first | exact Below.refl _ _ | refine Below.drew ?_ | refine below_dr ?_ | exact Drawn.below Hd.out _))) (by have := hly.out; omega) Hlt.out); rintro e wd ⟨pd, cd, rfl, hN, hcd1, hcd2, hb⟩; have HNd := Lib.hid hN; have Hwd := Lib.hid (show Below W.heap.size W wd from Below.trans Hwx.out (Below.trans (by repeat (first | exact Below.refl _ _ | refine Below.drew ?_ | refine below_dr ?_ | exact Drawn.below Hd.out _)) (hb.mono (by exact Hsz.out)))); have HA2 := Lib.hid (HA.out.below Hwd.out (by have := Hs0.out; omega)); have HB2 := Lib.hid (HB.out.below Hwd.out (by have := Hs0.out; omega)); obtain ⟨d0, d1, _, _, _⟩ := HA2.out; obtain ⟨e0, e1, _, _, _⟩ := HB2.out; clear hb hN)
            | (go_at_call 70; go_fit (number_digs _ _ pd cd _ (HNd.out.below (Nat.le_refl _) (by repeat (first | exact Below.refl _ _ | refine Below.drew ?_ | refine below_dr ?_ | exact Drawn.below Hd.out _))) hcd1 hcd2); rintro e w3 ⟨rfl, hb⟩; have Hb3 := Lib.hid (show Below W.heap.size W w3 from Below.trans Hwd.out (Below.trans (by repeat (first | exact Below.refl _ _ | refine Below.drew ?_ | refine below_dr ?_ | exact Drawn.below Hd.out _)) (hb.mono (by exact Hwd.out.size)))); have HA3 := Lib.hid (HA.out.below Hb3.out (by have := Hs0.out; omega)); have HB3 := Lib.hid (HB.out.below Hb3.out (by have := Hs0.out; omega)); have HC3 := Lib.hid (HC.out.below Hb3.out (by have := Hs0.out; omega)); obtain ⟨d0, d1, _, _, _⟩ := HA3.out; obtain ⟨e0, e1, _, _, _⟩ := HB3.out; obtain ⟨f0, f1, f2, f3, _⟩ := HC3.out; clear hb))
        go_wp2
        refine bodyPost_ret (v := .agg #[.bool (mkZ y.neg (absZ y - absZ x)).neg, .string (mkZ y.neg (absZ y - absZ x)).mag]) ?_ rfl ⟨by rw [HR.out], ?_⟩
        · simp [results, Try.results97, go_sem, f0, f1]
        · exact ((Hb0.out.trans (Hb3.out.mono (by have := Hs0.out; omega))).setCell (by simp; omega) _).setCell (by simp; omega) _
      · have hR : addZ x y = mkZ x.neg (absZ x - absZ y) := by unfold addZ; rw [if_neg hs, if_neg hlt]
        have hC2 : ¬ C < 0 := by rw [← hCC]; unfold cmpN; rw [if_neg hlt]; split <;> decide
        have HR := Lib.hid hR
        have Hlt := Lib.hid (Nat.le_of_not_lt hlt)
        clear hR hs hCC hlt
        go_wp2_with (go_at_call 109; go_fit (compare_any (absZ x) (absZ y) pa pb ca cb wc HNa.out HNb.out hlx.out hly.out); rintro e w1 ⟨rfl, hd⟩; have Hd := Lib.hid hd; have k0 := (hd.cell ⟨w.heap.size, 0, none⟩).trans a0; have k1 := (hd.cell ⟨w.heap.size, 1, none⟩).trans a1; have k2 := (hd.cell ⟨w.heap.size + 1, 0, none⟩).trans b0; have k3 := (hd.cell ⟨w.heap.size + 1, 1, none⟩).trans b1; have Hsz := Lib.hid (show W.heap.size ≤ w1.heap.size from by rw [hd.heap]; exact Hwx.out.size); rw [HCC.out]; clear hd)
        go_region_held3 (fun w' => w'.cell? ⟨w.heap.size, 0, none⟩ = some (.bool x.neg)) (go_keep)
          (first
            | (go_at_call 102; go_fit (subtract_any (absZ x) (absZ y) pa pb ca cb _ (HNa.out.below (Nat.le_refl _) (by repeat (first | exact Below.refl _ _ | refine Below.drew ?_ | refine below_dr ?_ | exact Drawn.below Hd.out _))) (HNb.out.below (Nat.le_refl _) (by repeat (first | exact Below.refl _ _ | refine Below.drew ?_ | refine below_dr ?_ | exact Drawn.below Hd.out _))) (by have := hlx.out; omega) Hlt.out); rintro e wd ⟨pd, cd, rfl, hN, hcd1, hcd2, hb⟩; have HNd := Lib.hid hN; have Hwd := Lib.hid (show Below W.heap.size W wd from Below.trans Hwx.out (Below.trans (by repeat (first | exact Below.refl _ _ | refine Below.drew ?_ | refine below_dr ?_ | exact Drawn.below Hd.out _)) (hb.mono (by exact Hsz.out)))); have HA2 := Lib.hid (HA.out.below Hwd.out (by have := Hs0.out; omega)); have HB2 := Lib.hid (HB.out.below Hwd.out (by have := Hs0.out; omega)); obtain ⟨d0, d1, _, _, _⟩ := HA2.out; obtain ⟨e0, e1, _, _, _⟩ := HB2.out; clear hb hN)
            | (go_at_call 70; go_fit (number_digs _ _ pd cd _ (HNd.out.below (Nat.le_refl _) (by repeat (first | exact Below.refl _ _ | refine Below.drew ?_ | refine below_dr ?_ | exact Drawn.below Hd.out _))) hcd1 hcd2); rintro e w3 ⟨rfl, hb⟩; have Hb3 := Lib.hid (show Below W.heap.size W w3 from Below.trans Hwd.out (Below.trans (by repeat (first | exact Below.refl _ _ | refine Below.drew ?_ | refine below_dr ?_ | exact Drawn.below Hd.out _)) (hb.mono (by exact Hwd.out.size)))); have HA3 := Lib.hid (HA.out.below Hb3.out (by have := Hs0.out; omega)); have HB3 := Lib.hid (HB.out.below Hb3.out (by have := Hs0.out; omega)); have HC3 := Lib.hid (HC.out.below Hb3.out (by have := Hs0.out; omega)); obtain ⟨d0, d1, _, _, _⟩ := HA3.out; obtain ⟨e0, e1, _, _, _⟩ := HB3.out; obtain ⟨f0, f1, f2, f3, _⟩ := HC3.out; clear hb))
        go_wp2
        refine bodyPost_ret (v := .agg #[.bool (mkZ x.neg (absZ x - absZ y)).neg, .string (mkZ x.neg (absZ x - absZ y)).mag]) ?_ rfl ⟨by rw [HR.out], ?_⟩
        · simp [results, Try.results97, go_sem, f0, f1]
        · exact ((Hb0.out.trans (Hb3.out.mono (by have := Hs0.out; omega))).setCell (by simp; omega) _).setCell (by simp; omega) _
end Go.Proofs.Ytlkajmdcffemeaa
