/- grooveref01.Div of a multiple of the divisor, at any size: the walk. -/
import Derived.Test.YtcafeffgaokiaaaZ27
import Derived.Test.YtcafeffgaokiaaaZ35
import Derived.Test.YtcafeffgaokiaaaZ36
namespace Go.Proofs.Ytcafeffgaokiaaa
open Go.RowKit Go.Shelf
theorem four_boxes (w : World) (a0 a1 b0 b1 c0 c1 d0 d1 : Value) (t : TypeId) : ∃ W, ((((w.alloc (.cells #[a0, a1] t)).alloc (.cells #[b0, b1] t)).alloc (.cells #[c0, c1] t)).alloc (.cells #[d0, d1] t)) = W ∧ BoxAt W w.heap.size a0 a1 ∧ BoxAt W (w.heap.size + 1) b0 b1 ∧ BoxAt W (w.heap.size + 1 + 1) c0 c1 ∧ BoxAt W (w.heap.size + 1 + 1 + 1) d0 d1 ∧ Below w.heap.size w W ∧ W.heap.size = w.heap.size + 1 + 1 + 1 + 1 := by
  obtain ⟨W, hW, hA, hB, hC, hb, hs⟩ := three_boxes w a0 a1 b0 b1 c0 c1 t
  rw [hW]
  refine ⟨_, rfl, hA.alloc _, hB.alloc _, hC.alloc _, ?_, hb.alloc (by omega) _, by simp [hs]⟩
  have := BoxAt.new W d0 d1 t
  rwa [hs] at this
theorem below_set4 {w0 w : World} {B : Nat} (h : Below B w0 w) {p q r s : Addr} (hp : B ≤ p.block) (hq : B ≤ q.block) (hr : B ≤ r.block) (hs : B ≤ s.block) (v1 v2 v3 v4 : Value) : Below B w0 ((((w.setCell p v1).setCell q v2).setCell r v3).setCell s v4) :=
  (((h.setCell hp _).setCell hq _).setCell hr _).setCell hs _
/-- A quotient without a rest, by absolute values and signs. -/
theorem exq (x y : Int) (hy : y ≠ 0) (hd : y ∣ x) : (¬ decide (x < 0) = decide (y < 0) → -((x.natAbs / y.natAbs : Nat) : Int) = x / y) ∧ (decide (x < 0) = decide (y < 0) → ((x.natAbs / y.natAbs : Nat) : Int) = x / y) ∧ x.natAbs % y.natAbs = 0 := by
  obtain ⟨q, rfl⟩ := hd
  rw [Int.mul_ediv_cancel_left _ hy, Int.natAbs_mul, Nat.mul_div_cancel_left _ (by omega), Nat.mul_mod_right]
  refine ⟨fun h => ?_, fun h => ?_, rfl⟩
  · rcases Int.lt_trichotomy q 0 with hq | hq | hq
    · omega
    · subst hq; rfl
    · exfalso
      apply h
      rcases Int.lt_or_gt_of_ne hy with h1 | h1
      · have h2 : y * q < 0 := Int.mul_neg_of_neg_of_pos h1 hq
        rw [decide_eq_true h1, decide_eq_true h2]
      · have h2 : 0 < y * q := Int.mul_pos h1 hq
        rw [decide_eq_false (by omega), decide_eq_false (by omega)]
  · rcases Int.lt_trichotomy q 0 with hq | hq | hq
    · exfalso
      rcases Int.lt_or_gt_of_ne hy with h1 | h1
      · have h2 : 0 < y * q := Int.mul_pos_of_neg_of_neg h1 hq
        rw [decide_eq_true h1, decide_eq_false (by omega)] at h
        exact absurd h (by decide)
      · have h2 : y * q < 0 := Int.mul_neg_of_pos_of_neg h1 hq
        rw [decide_eq_true h2, decide_eq_false (by omega)] at h
        exact absurd h (by decide)
    · subst hq; rfl
    · omega
set_option maxRecDepth 100000 in
set_option maxHeartbeats 8000000 in
theorem refDivX_any (zx zy : ZI) (hzx : zx.mag.size ≤ 90000000) (hzy : zy.mag.size ≤ 90000000) (x y : Int) (hvx : valZ zx = x) (hvy : valZ zy = y) (hy0 : y ≠ 0) (hd : y ∣ x) (w : World) :
    Calls Try.prog 126 #[.agg #[.bool zx.neg, .string zx.mag], .agg #[.bool zy.neg, .string zy.mag]] w (RetDiv (canon (x / y)) (canon 0) w) := by
  have hcx := fun W => refCanonical_any zx (by omega) W
  have hcy := fun W => refCanonical_any zy (by omega) W
  rw [hvx] at hcx
  rw [hvy] at hcy
  have HCx := Lib.hid hcx
  have HCy := Lib.hid hcy
  obtain ⟨hq1, hq2, hr0⟩ := exq x y hy0 hd
  have hxs : (canon x).mag.size ≤ 90000000 := by rw [← hvx]; exact Nat.le_trans (canon_size_le zx) hzx
  have hys : (canon y).mag.size ≤ 90000000 := by rw [← hvy]; exact Nat.le_trans (canon_size_le zy) hzy
  have hyb : 0 < y.natAbs := by omega
  have hBx : bval (canon x).mag.data.toList = x.natAbs := canon_bval x
  have hBy : bval (canon y).mag.data.toList = y.natAbs := canon_bval y
  have hmx : (canon x).mag = bsN x.natAbs := rfl
  have hmy : (canon y).mag = bsN y.natAbs := rfl
  have hNx := canon_neg x
  have hNy := canon_neg y
  rw [← hNx, ← hNy] at hq1 hq2
  have he1 := bsN_empty y.natAbs
  rw [decide_eq_false (by omega), ← hmy] at he1
  have HSx := Lib.hid (fun (h : (canon x).mag.size ≤ 7) W => refSmall_any (canon x).mag h W)
  have HSy := Lib.hid (fun (h : (canon y).mag.size ≤ 7) W => refSmall_any (canon y).mag h W)
  rw [hBx] at HSx
  rw [hBy] at HSy
  have HDm := Lib.hid (fun W => refDivMag_any (canon x).mag y.natAbs (by omega) hyb (by rw [← hmy]; omega) W)
  rw [hBx, ← hmy, hr0] at HDm
  have hsx : (canon x).mag.size ≤ 7 → x.natAbs < 72057594037927936 := fun h => by rw [hmx] at h; exact small7 h
  have hsy : (canon y).mag.size ≤ 7 → y.natAbs < 72057594037927936 := fun h => by rw [hmy] at h; exact small7 h
  obtain ⟨a, ha⟩ : ∃ a, x.natAbs = a := ⟨_, rfl⟩
  obtain ⟨b, hb⟩ : ∃ b, y.natAbs = b := ⟨_, rfl⟩
  rw [ha] at HSx HDm hsx hq1 hq2 hr0
  rw [hb] at HSy HDm hsy hq1 hq2 hr0 hyb
  have HO1 := Lib.hid (fun (h : a < 72057594037927936) W => refOfAll_any (a / b) (by have := Nat.div_le_self a b; omega) W)
  have HO2 := Lib.hid (fun W => refOfAll_any 0 (by decide) W)
  have hK : canon ((a / b : Nat) : Int) = ⟨false, bsN (a / b)⟩ := by
    unfold canon
    rw [show decide (((a / b : Nat) : Int) < 0) = false from decide_eq_false (Int.not_lt.2 (Int.natCast_nonneg _)), Int.natAbs_natCast]; rfl
  have hK0 : canon ((0 : Nat) : Int) = ⟨false, ⟨#[]⟩⟩ := rfl
  have hE0 : bsN 0 = ⟨#[]⟩ := rfl
  rw [hE0] at HDm
  rw [hK0] at HO2
  have HNg := Lib.hid (fun W => refNeg_any (canon ((a / b : Nat) : Int)) (Nat.le_trans (show (bsN (a / b)).size ≤ (bsN a).size from bsN_mono (Nat.div_le_self a b)) (by rw [← ha, ← hmx]; omega)) W)
  have HN0 := Lib.hid (fun W => refNeg_any ⟨false, ⟨#[]⟩⟩ (by decide) W)
  rw [show valZ ⟨false, ⟨#[]⟩⟩ = 0 from rfl, show canon (-0) = ⟨false, ⟨#[]⟩⟩ from rfl] at HN0
  rw [valZ_canon] at HNg
  have HQ1 := Lib.hid (fun h => congrArg canon (hq1 h))
  have HQ2 := Lib.hid (fun h => congrArg canon (hq2 h))
  show Calls Try.prog 126 #[.agg #[.bool zx.neg, .string zx.mag], .agg #[.bool zy.neg, .string zy.mag]] w (RetDiv (canon (x / y)) ⟨false, ⟨#[]⟩⟩ w)
  generalize canon (-((a / b : Nat) : Int)) = KN at *
  generalize canon (x / y) = KQ at *
  rw [hK] at HNg HO1 HQ2
  generalize bsN (a / b) = KM at *
  generalize canon x = X at *
  generalize canon y = Y at *
  have Hr0 := Lib.hid hr0
  have Hsx := Lib.hid hsx
  have Hsy := Lib.hid hsy
  clear hcx hcy hq1 hq2 hvx hvy hd hy0 hxs hys hBx hBy hmx hmy hNx hNy hsx hsy ha hb hzx hzy hr0 hK hK0 hE0
  go_enter Try.func126, Try.ntmps126
  go_upto_region 1 with (fail)
  obtain ⟨W0, hW, hA, hB, hC, hD, hb0, hs0⟩ := four_boxes w (.bool zx.neg) (.string zx.mag) (.bool zy.neg) (.string zy.mag) (.bool false) (.string ⟨#[]⟩) (.bool false) (.string ⟨#[]⟩) 48
  rw [hW]
  obtain ⟨gx, hgx⟩ : ∃ g, w.heap.size = g := ⟨_, rfl⟩
  have l0 : w.heap.size ≤ gx := by omega
  have l1 : w.heap.size ≤ gx + 1 := by omega
  rw [hgx] at hA hB hC hD ⊢
  have HA := Lib.hid hA
  have HB := Lib.hid hB
  have HC := Lib.hid hC
  have HD := Lib.hid hD
  have HZ := Lib.hid hb0
  have Hgx := Lib.hid hgx
  clear hW hA hB hC hD hb0 hs0 hgx
  have n01 : gx ≠ gx + 1 := by omega
  have n10 : gx + 1 ≠ gx := by omega
  have n02 : gx ≠ gx + 1 + 1 := by omega
  have n12 : gx + 1 ≠ gx + 1 + 1 := by omega
  have n03 : gx ≠ gx + 1 + 1 + 1 := by omega
  have n13 : gx + 1 ≠ gx + 1 + 1 + 1 := by omega
  go_cut [6] (fun v wx => v = .int .i64 0 ∧ Hid (BoxAt wx gx (.bool X.neg) (.string X.mag)) ∧ Hid (BoxAt wx (gx + 1) (.bool Y.neg) (.string Y.mag)) ∧ Hid (BoxAt wx (gx + 1 + 1) (.bool false) (.string ⟨#[]⟩)) ∧ Hid (BoxAt wx (gx + 1 + 1 + 1) (.bool false) (.string ⟨#[]⟩)) ∧ Hid (Below w.heap.size w wx))
  case first =>
    refine wp_region_held_drew (S := fun _ => True) (by kernel_rfl) trivial (fun _ => ?_)
    have A_q1 := Lib.hid (BoxAt.drz HA.out)
    have B_q1 := Lib.hid (BoxAt.drz HB.out)
    have C_q1 := Lib.hid (BoxAt.drz HC.out)
    have D_q1 := Lib.hid (BoxAt.drz HD.out)
    have Z_q1 := Lib.hid (HZ.out.drew)
    try simp only [Act.put, List.getElem_toArray, List.getElem_cons_zero, List.getElem_cons_succ, List.setIfInBounds_toArray, List.set_cons_zero, List.set_cons_succ]
    refine wpAnyH_ready (rs := [0, 2]) (by kernel_rfl) (by simp) ?_
    refine AllReadyH.cons rfl (fun K hK => ?_) (AllReadyH.cons rfl (fun K hK => ?_) AllReadyH.nil)
    · obtain ⟨z0, z1, _, _, _⟩ := A_q1.out
      go_simp
      refine hK.out _ _ trivial (fun _ => ?_)
      clear hK K z0 z1
      try simp only [Act.put, List.getElem_toArray, List.getElem_cons_zero, List.getElem_cons_succ, List.setIfInBounds_toArray, List.set_cons_zero, List.set_cons_succ]
      refine wpAnyH_ready (rs := [1, 2]) (by kernel_rfl) (by simp) ?_
      refine AllReadyH.cons rfl (fun K hK => ?_) (AllReadyH.cons rfl (fun K hK => ?_) AllReadyH.nil)
      · go_simp
        refine (HCx.out _).mono ?_
        rintro e wq2 ⟨rfl, hbc⟩
        have A_q2 := Lib.hid (A_q1.out.below hbc A_q1.out.2.2.2.2)
        have B_q2 := Lib.hid (B_q1.out.below hbc B_q1.out.2.2.2.2)
        have C_q2 := Lib.hid (C_q1.out.below hbc C_q1.out.2.2.2.2)
        have D_q2 := Lib.hid (D_q1.out.below hbc D_q1.out.2.2.2.2)
        have Z_q2 := Lib.hid (Z_q1.out.trans (hbc.mono Z_q1.out.size))
        dsimp only
        refine hK.out _ _ trivial (fun _ => ?_)
        clear hK K hbc
        try simp only [Act.put, List.getElem_toArray, List.getElem_cons_zero, List.getElem_cons_succ, List.setIfInBounds_toArray, List.set_cons_zero, List.set_cons_succ]
        refine wpAnyH_ready (rs := [2]) (by kernel_rfl) (by simp) ?_
        refine AllReadyH.cons rfl (fun K hK => ?_) AllReadyH.nil
        obtain ⟨z0, z1, _, _, _⟩ := B_q2.out
        go_simp
        refine hK.out _ _ trivial (fun _ => ?_)
        clear hK K z0 z1
        try simp only [Act.put, List.getElem_toArray, List.getElem_cons_zero, List.getElem_cons_succ, List.setIfInBounds_toArray, List.set_cons_zero, List.set_cons_succ]
        refine wpAnyH_ready (rs := [3]) (by kernel_rfl) (by simp) ?_
        refine AllReadyH.cons rfl (fun K hK => ?_) AllReadyH.nil
        go_simp
        refine (HCy.out _).mono ?_
        rintro e wq3 ⟨rfl, hbc⟩
        have A_q3 := Lib.hid (A_q2.out.below hbc A_q2.out.2.2.2.2)
        have B_q3 := Lib.hid (B_q2.out.below hbc B_q2.out.2.2.2.2)
        have C_q3 := Lib.hid (C_q2.out.below hbc C_q2.out.2.2.2.2)
        have D_q3 := Lib.hid (D_q2.out.below hbc D_q2.out.2.2.2.2)
        have Z_q3 := Lib.hid (Z_q2.out.trans (hbc.mono Z_q2.out.size))
        dsimp only
        refine hK.out _ _ trivial (fun _ => ?_)
        clear hK K hbc
        try simp only [Act.put, List.getElem_toArray, List.getElem_cons_zero, List.getElem_cons_succ, List.setIfInBounds_toArray, List.set_cons_zero, List.set_cons_succ]
        refine wpAnyH_ready (rs := [4]) (by kernel_rfl) (by simp) ?_
        refine AllReadyH.cons rfl (fun K hK => ?_) AllReadyH.nil
        obtain ⟨z0, z1, z2, z3, _⟩ := A_q3.out
        have A_q4 := Lib.hid (A_q3.out.set2 (.bool X.neg) (.string X.mag))
        have B_q4 := Lib.hid (((B_q3.out).far ⟨gx, 0, none⟩ (.bool X.neg) n01).far ⟨gx, 1, none⟩ (.string X.mag) n01)
        have C_q4 := Lib.hid (((C_q3.out).far ⟨gx, 0, none⟩ (.bool X.neg) n02).far ⟨gx, 1, none⟩ (.string X.mag) n02)
        have D_q4 := Lib.hid (((D_q3.out).far ⟨gx, 0, none⟩ (.bool X.neg) n03).far ⟨gx, 1, none⟩ (.string X.mag) n03)
        have Z_q4 := Lib.hid (((Z_q3.out).setCell (p := ⟨gx, 0, none⟩) l0 (.bool X.neg)).setCell (p := ⟨gx, 1, none⟩) l0 (.string X.mag))
        go_simp
        refine hK.out _ _ trivial (fun _ => ?_)
        clear hK K z0 z1 z2 z3
        try simp only [Act.put, List.getElem_toArray, List.getElem_cons_zero, List.getElem_cons_succ, List.setIfInBounds_toArray, List.set_cons_zero, List.set_cons_succ]
        refine wpAnyH_ready (rs := [5]) (by kernel_rfl) (by simp) ?_
        refine AllReadyH.cons rfl (fun K hK => ?_) AllReadyH.nil
        obtain ⟨z0, z1, z2, z3, _⟩ := B_q4.out
        have A_q5 := Lib.hid (((A_q4.out).far ⟨(gx + 1), 0, none⟩ (.bool Y.neg) n10).far ⟨(gx + 1), 1, none⟩ (.string Y.mag) n10)
        have B_q5 := Lib.hid (B_q4.out.set2 (.bool Y.neg) (.string Y.mag))
        have C_q5 := Lib.hid (((C_q4.out).far ⟨(gx + 1), 0, none⟩ (.bool Y.neg) n12).far ⟨(gx + 1), 1, none⟩ (.string Y.mag) n12)
        have D_q5 := Lib.hid (((D_q4.out).far ⟨(gx + 1), 0, none⟩ (.bool Y.neg) n13).far ⟨(gx + 1), 1, none⟩ (.string Y.mag) n13)
        have Z_q5 := Lib.hid (((Z_q4.out).setCell (p := ⟨(gx + 1), 0, none⟩) l1 (.bool Y.neg)).setCell (p := ⟨(gx + 1), 1, none⟩) l1 (.string Y.mag))
        go_simp
        refine hK.out _ _ trivial (fun _ => ?_)
        clear hK K z0 z1 z2 z3
        refine wpAnyH_done (by kernel_rfl) ?_ _
        go_wp2_with fail
        go_meet
        exact ⟨rfl, A_q5, B_q5, C_q5, D_q5, Z_q5⟩
      · obtain ⟨z0, z1, _, _, _⟩ := B_q1.out
        go_simp
        refine hK.out _ _ trivial (fun _ => ?_)
        clear hK K z0 z1
        try simp only [Act.put, List.getElem_toArray, List.getElem_cons_zero, List.getElem_cons_succ, List.setIfInBounds_toArray, List.set_cons_zero, List.set_cons_succ]
        refine wpAnyH_ready (rs := [1]) (by kernel_rfl) (by simp) ?_
        refine AllReadyH.cons rfl (fun K hK => ?_) AllReadyH.nil
        go_simp
        refine (HCx.out _).mono ?_
        rintro e wq6 ⟨rfl, hbc⟩
        have A_q6 := Lib.hid (A_q1.out.below hbc A_q1.out.2.2.2.2)
        have B_q6 := Lib.hid (B_q1.out.below hbc B_q1.out.2.2.2.2)
        have C_q6 := Lib.hid (C_q1.out.below hbc C_q1.out.2.2.2.2)
        have D_q6 := Lib.hid (D_q1.out.below hbc D_q1.out.2.2.2.2)
        have Z_q6 := Lib.hid (Z_q1.out.trans (hbc.mono Z_q1.out.size))
        dsimp only
        refine hK.out _ _ trivial (fun _ => ?_)
        clear hK K hbc
        try simp only [Act.put, List.getElem_toArray, List.getElem_cons_zero, List.getElem_cons_succ, List.setIfInBounds_toArray, List.set_cons_zero, List.set_cons_succ]
        refine wpAnyH_ready (rs := [3]) (by kernel_rfl) (by simp) ?_
        refine AllReadyH.cons rfl (fun K hK => ?_) AllReadyH.nil
        go_simp
        refine (HCy.out _).mono ?_
        rintro e wq7 ⟨rfl, hbc⟩
        have A_q7 := Lib.hid (A_q6.out.below hbc A_q6.out.2.2.2.2)
        have B_q7 := Lib.hid (B_q6.out.below hbc B_q6.out.2.2.2.2)
        have C_q7 := Lib.hid (C_q6.out.below hbc C_q6.out.2.2.2.2)
        have D_q7 := Lib.hid (D_q6.out.below hbc D_q6.out.2.2.2.2)
        have Z_q7 := Lib.hid (Z_q6.out.trans (hbc.mono Z_q6.out.size))
        dsimp only
        refine hK.out _ _ trivial (fun _ => ?_)
        clear hK K hbc
        try simp only [Act.put, List.getElem_toArray, List.getElem_cons_zero, List.getElem_cons_succ, List.setIfInBounds_toArray, List.set_cons_zero, List.set_cons_succ]
        refine wpAnyH_ready (rs := [4]) (by kernel_rfl) (by simp) ?_
        refine AllReadyH.cons rfl (fun K hK => ?_) AllReadyH.nil
        obtain ⟨z0, z1, z2, z3, _⟩ := A_q7.out
        have A_q8 := Lib.hid (A_q7.out.set2 (.bool X.neg) (.string X.mag))
        have B_q8 := Lib.hid (((B_q7.out).far ⟨gx, 0, none⟩ (.bool X.neg) n01).far ⟨gx, 1, none⟩ (.string X.mag) n01)
        have C_q8 := Lib.hid (((C_q7.out).far ⟨gx, 0, none⟩ (.bool X.neg) n02).far ⟨gx, 1, none⟩ (.string X.mag) n02)
        have D_q8 := Lib.hid (((D_q7.out).far ⟨gx, 0, none⟩ (.bool X.neg) n03).far ⟨gx, 1, none⟩ (.string X.mag) n03)
        have Z_q8 := Lib.hid (((Z_q7.out).setCell (p := ⟨gx, 0, none⟩) l0 (.bool X.neg)).setCell (p := ⟨gx, 1, none⟩) l0 (.string X.mag))
        go_simp
        refine hK.out _ _ trivial (fun _ => ?_)
        clear hK K z0 z1 z2 z3
        try simp only [Act.put, List.getElem_toArray, List.getElem_cons_zero, List.getElem_cons_succ, List.setIfInBounds_toArray, List.set_cons_zero, List.set_cons_succ]
        refine wpAnyH_ready (rs := [5]) (by kernel_rfl) (by simp) ?_
        refine AllReadyH.cons rfl (fun K hK => ?_) AllReadyH.nil
        obtain ⟨z0, z1, z2, z3, _⟩ := B_q8.out
        have A_q9 := Lib.hid (((A_q8.out).far ⟨(gx + 1), 0, none⟩ (.bool Y.neg) n10).far ⟨(gx + 1), 1, none⟩ (.string Y.mag) n10)
        have B_q9 := Lib.hid (B_q8.out.set2 (.bool Y.neg) (.string Y.mag))
        have C_q9 := Lib.hid (((C_q8.out).far ⟨(gx + 1), 0, none⟩ (.bool Y.neg) n12).far ⟨(gx + 1), 1, none⟩ (.string Y.mag) n12)
        have D_q9 := Lib.hid (((D_q8.out).far ⟨(gx + 1), 0, none⟩ (.bool Y.neg) n13).far ⟨(gx + 1), 1, none⟩ (.string Y.mag) n13)
        have Z_q9 := Lib.hid (((Z_q8.out).setCell (p := ⟨(gx + 1), 0, none⟩) l1 (.bool Y.neg)).setCell (p := ⟨(gx + 1), 1, none⟩) l1 (.string Y.mag))
        go_simp
        refine hK.out _ _ trivial (fun _ => ?_)
        clear hK K z0 z1 z2 z3
        refine wpAnyH_done (by kernel_rfl) ?_ _
        go_wp2_with fail
        go_meet
        exact ⟨rfl, A_q9, B_q9, C_q9, D_q9, Z_q9⟩
    · obtain ⟨z0, z1, _, _, _⟩ := B_q1.out
      go_simp
      refine hK.out _ _ trivial (fun _ => ?_)
      clear hK K z0 z1
      try simp only [Act.put, List.getElem_toArray, List.getElem_cons_zero, List.getElem_cons_succ, List.setIfInBounds_toArray, List.set_cons_zero, List.set_cons_succ]
      refine wpAnyH_ready (rs := [0]) (by kernel_rfl) (by simp) ?_
      refine AllReadyH.cons rfl (fun K hK => ?_) AllReadyH.nil
      obtain ⟨z0, z1, _, _, _⟩ := A_q1.out
      go_simp
      refine hK.out _ _ trivial (fun _ => ?_)
      clear hK K z0 z1
      try simp only [Act.put, List.getElem_toArray, List.getElem_cons_zero, List.getElem_cons_succ, List.setIfInBounds_toArray, List.set_cons_zero, List.set_cons_succ]
      refine wpAnyH_ready (rs := [1]) (by kernel_rfl) (by simp) ?_
      refine AllReadyH.cons rfl (fun K hK => ?_) AllReadyH.nil
      go_simp
      refine (HCx.out _).mono ?_
      rintro e wq10 ⟨rfl, hbc⟩
      have A_q10 := Lib.hid (A_q1.out.below hbc A_q1.out.2.2.2.2)
      have B_q10 := Lib.hid (B_q1.out.below hbc B_q1.out.2.2.2.2)
      have C_q10 := Lib.hid (C_q1.out.below hbc C_q1.out.2.2.2.2)
      have D_q10 := Lib.hid (D_q1.out.below hbc D_q1.out.2.2.2.2)
      have Z_q10 := Lib.hid (Z_q1.out.trans (hbc.mono Z_q1.out.size))
      dsimp only
      refine hK.out _ _ trivial (fun _ => ?_)
      clear hK K hbc
      try simp only [Act.put, List.getElem_toArray, List.getElem_cons_zero, List.getElem_cons_succ, List.setIfInBounds_toArray, List.set_cons_zero, List.set_cons_succ]
      refine wpAnyH_ready (rs := [3]) (by kernel_rfl) (by simp) ?_
      refine AllReadyH.cons rfl (fun K hK => ?_) AllReadyH.nil
      go_simp
      refine (HCy.out _).mono ?_
      rintro e wq11 ⟨rfl, hbc⟩
      have A_q11 := Lib.hid (A_q10.out.below hbc A_q10.out.2.2.2.2)
      have B_q11 := Lib.hid (B_q10.out.below hbc B_q10.out.2.2.2.2)
      have C_q11 := Lib.hid (C_q10.out.below hbc C_q10.out.2.2.2.2)
      have D_q11 := Lib.hid (D_q10.out.below hbc D_q10.out.2.2.2.2)
      have Z_q11 := Lib.hid (Z_q10.out.trans (hbc.mono Z_q10.out.size))
      dsimp only
      refine hK.out _ _ trivial (fun _ => ?_)
      clear hK K hbc
      try simp only [Act.put, List.getElem_toArray, List.getElem_cons_zero, List.getElem_cons_succ, List.setIfInBounds_toArray, List.set_cons_zero, List.set_cons_succ]
      refine wpAnyH_ready (rs := [4]) (by kernel_rfl) (by simp) ?_
      refine AllReadyH.cons rfl (fun K hK => ?_) AllReadyH.nil
      obtain ⟨z0, z1, z2, z3, _⟩ := A_q11.out
      have A_q12 := Lib.hid (A_q11.out.set2 (.bool X.neg) (.string X.mag))
      have B_q12 := Lib.hid (((B_q11.out).far ⟨gx, 0, none⟩ (.bool X.neg) n01).far ⟨gx, 1, none⟩ (.string X.mag) n01)
      have C_q12 := Lib.hid (((C_q11.out).far ⟨gx, 0, none⟩ (.bool X.neg) n02).far ⟨gx, 1, none⟩ (.string X.mag) n02)
      have D_q12 := Lib.hid (((D_q11.out).far ⟨gx, 0, none⟩ (.bool X.neg) n03).far ⟨gx, 1, none⟩ (.string X.mag) n03)
      have Z_q12 := Lib.hid (((Z_q11.out).setCell (p := ⟨gx, 0, none⟩) l0 (.bool X.neg)).setCell (p := ⟨gx, 1, none⟩) l0 (.string X.mag))
      go_simp
      refine hK.out _ _ trivial (fun _ => ?_)
      clear hK K z0 z1 z2 z3
      try simp only [Act.put, List.getElem_toArray, List.getElem_cons_zero, List.getElem_cons_succ, List.setIfInBounds_toArray, List.set_cons_zero, List.set_cons_succ]
      refine wpAnyH_ready (rs := [5]) (by kernel_rfl) (by simp) ?_
      refine AllReadyH.cons rfl (fun K hK => ?_) AllReadyH.nil
      obtain ⟨z0, z1, z2, z3, _⟩ := B_q12.out
      have A_q13 := Lib.hid (((A_q12.out).far ⟨(gx + 1), 0, none⟩ (.bool Y.neg) n10).far ⟨(gx + 1), 1, none⟩ (.string Y.mag) n10)
      have B_q13 := Lib.hid (B_q12.out.set2 (.bool Y.neg) (.string Y.mag))
      have C_q13 := Lib.hid (((C_q12.out).far ⟨(gx + 1), 0, none⟩ (.bool Y.neg) n12).far ⟨(gx + 1), 1, none⟩ (.string Y.mag) n12)
      have D_q13 := Lib.hid (((D_q12.out).far ⟨(gx + 1), 0, none⟩ (.bool Y.neg) n13).far ⟨(gx + 1), 1, none⟩ (.string Y.mag) n13)
      have Z_q13 := Lib.hid (((Z_q12.out).setCell (p := ⟨(gx + 1), 0, none⟩) l1 (.bool Y.neg)).setCell (p := ⟨(gx + 1), 1, none⟩) l1 (.string Y.mag))
      go_simp
      refine hK.out _ _ trivial (fun _ => ?_)
      clear hK K z0 z1 z2 z3
      refine wpAnyH_done (by kernel_rfl) ?_ _
      go_wp2_with fail
      go_meet
      exact ⟨rfl, A_q13, B_q13, C_q13, D_q13, Z_q13⟩
  case rest =>
    obtain ⟨rfl, HA, HB, HC, HD, HZ⟩ := hcut
    clear n01 n10 n02 n12 n03 n13 l0 l1 HCx HCy
    by_cases hsm : X.mag.size ≤ 7 ∧ Y.mag.size ≤ 7
    · obtain ⟨hx7, hy7⟩ := hsm
      have i1 : (X.mag.size : Int) < 8 := by omega
      have i2 : (Y.mag.size : Int) < 8 := by omega
      have HSx2 := Lib.hid (HSx.out hx7)
      have HSy2 := Lib.hid (HSy.out hy7)
      have hal := Hsx.out hx7
      have HO3 := HO1.out hal
      rw [Int.natCast_ediv] at HO3
      have hO2 := HO2.out
      rw [show ((0 : Nat) : Int) = Int.tmod (a : Int) (b : Int) by rw [Int.tmod_eq_emod_of_nonneg (Int.natCast_nonneg _), ← Int.natCast_emod, Hr0.out]] at hO2
      have HO4 := Lib.hid HO3
      have HO5 := Lib.hid hO2
      have hwq : wrap64 ((a : Int) / (b : Int)) = (a : Int) / (b : Int) := by
        have h1 : (a : Int) / (b : Int) = ((a / b : Nat) : Int) := by rw [Int.natCast_ediv]
        have h2 : a / b ≤ a := Nat.div_le_self _ _
        rw [h1]
        unfold wrap64
        generalize a / b = k at *
        omega
      have hwq2 : IntKind.i64.wrap ((a : Int) / (b : Int)) = (a : Int) / (b : Int) := by
        have h1 : (a : Int) / (b : Int) = ((a / b : Nat) : Int) := by rw [Int.natCast_ediv]
        have h2 : a / b ≤ a := Nat.div_le_self _ _
        rw [h1, IntKind.wrap_i64]
        generalize a / b = k at *
        omega
      have hdz : ((b : Int) == 0) = false := by rw [beq_eq_false_iff_ne]; omega
      have hdz2 : ¬ (b : Int) = 0 := by omega
      have hdz3 : ¬ b = 0 := by omega
      clear HSx HSy HO1 HO2 HO3 hO2 HDm hx7 hy7 hal
      obtain ⟨a0, a1, a2, a3, _⟩ := HA.out
      obtain ⟨b0, b1, b2, b3, _⟩ := HB.out
      go_upto_region 6 with (fail)
      obtain ⟨V, hV, hQ, hR, hbV, hsV⟩ := two_boxes wc (.bool false) (.string ⟨#[]⟩) (.bool false) (.string ⟨#[]⟩) 48
      rw [hV]
      obtain ⟨gq, hgq⟩ : ∃ g, wc.heap.size = g := ⟨_, rfl⟩
      rw [hgq] at hQ hR ⊢
      have HQ := Lib.hid hQ
      have HR := Lib.hid hR
      have HA := Lib.hid (HA.out.call hbV)
      have HB := Lib.hid (HB.out.call hbV)
      have hgl : gx + 1 + 1 + 1 < gq := by rw [← hgq]; exact HD.out.2.2.2.2
      have HC := Lib.hid (HC.out.call hbV)
      have HD := Lib.hid (HD.out.call hbV)
      have HZ := Lib.hid (below_call HZ.out HZ.out.size hbV)
      clear a0 a1 a2 a3 b0 b1 b2 b3 hV hQ hR hbV hsV hgq
      have lq : w.heap.size ≤ gq := by have := Hgx.out; omega
      have lr : w.heap.size ≤ gq + 1 := by omega
      have k0 : gq ≠ gx := by omega
      have k1 : gq ≠ gx + 1 := by omega
      have k2 : gq ≠ gx + 1 + 1 := by omega
      have k3 : gq ≠ gx + 1 + 1 + 1 := by omega
      have k4 : gq ≠ gq + 1 := by omega
      have m0 : gq + 1 ≠ gx := by omega
      have m1 : gq + 1 ≠ gx + 1 := by omega
      have m2 : gq + 1 ≠ gx + 1 + 1 := by omega
      have m3 : gq + 1 ≠ gx + 1 + 1 + 1 := by omega
      have m4 : gq + 1 ≠ gq := by omega
      obtain ⟨a0, a1, a2, a3, _⟩ := HA.out
      obtain ⟨b0, b1, b2, b3, _⟩ := HB.out
      go_quiet ((go_at_call 141; first | (with_reducible exact quiet_l (HSx2.out _)) | (with_reducible exact quiet_l (HSy2.out _))))
      go_upto_region 7 with (fail)
      have HA := Lib.hid (HA.out.call (Drawn.below ⟨nq, rfl⟩ _))
      have HB := Lib.hid (HB.out.call (Drawn.below ⟨nq, rfl⟩ _))
      have HC := Lib.hid (HC.out.call (Drawn.below ⟨nq, rfl⟩ _))
      have HD := Lib.hid (HD.out.call (Drawn.below ⟨nq, rfl⟩ _))
      have HQ := Lib.hid (HQ.out.call (Drawn.below ⟨nq, rfl⟩ _))
      have HR := Lib.hid (HR.out.call (Drawn.below ⟨nq, rfl⟩ _))
      have HZ := Lib.hid (HZ.out.trans ((Drawn.below ⟨nq, rfl⟩ _ : Below V.heap.size V (V.drewN nq)).mono HZ.out.size))
      clear a0 a1 a2 a3 b0 b1 b2 b3
      generalize V.drewN nq = U at *
      go_cut [6] (fun v wx => v = .int .i64 0 ∧ Hid (BoxAt wx gx (.bool X.neg) (.string X.mag)) ∧ Hid (BoxAt wx (gx + 1) (.bool Y.neg) (.string Y.mag)) ∧ Hid (BoxAt wx (gx + 1 + 1) (.bool false) (.string ⟨#[]⟩)) ∧ Hid (BoxAt wx (gx + 1 + 1 + 1) (.bool false) (.string ⟨#[]⟩)) ∧ Hid (BoxAt wx gq (.bool false) (.string KM)) ∧ Hid (BoxAt wx (gq + 1) (.bool false) (.string ⟨#[]⟩)) ∧ Hid (Below w.heap.size w wx))
      case first =>
        refine wp_region_held_drew (S := fun _ => True) (by kernel_rfl) trivial (fun _ => ?_)
        have A_q1 := Lib.hid (BoxAt.drz HA.out)
        have B_q1 := Lib.hid (BoxAt.drz HB.out)
        have C_q1 := Lib.hid (BoxAt.drz HC.out)
        have D_q1 := Lib.hid (BoxAt.drz HD.out)
        have Q_q1 := Lib.hid (BoxAt.drz HQ.out)
        have R_q1 := Lib.hid (BoxAt.drz HR.out)
        have Z_q1 := Lib.hid (HZ.out.drew)
        refine wpAnyH_take (i := 0) (v := ?_) rfl (by kernel_rfl) (by kernel_rfl) (by kernel_rfl) (fun _ _ _ h => h) (Or.inl ⟨by rfl, ?_⟩) trivial ?_
        rotate_left 1
        next => intro w hSw; go_simp; try with_reducible rfl
        try simp only [Act.put, List.getElem_toArray, List.getElem_cons_zero, List.getElem_cons_succ, List.setIfInBounds_toArray, List.set_cons_zero, List.set_cons_succ]
        refine wpAnyH_take (i := 1) (v := ?_) rfl (by kernel_rfl) (by kernel_rfl) (by kernel_rfl) (fun _ _ _ h => h) (Or.inl ⟨by rfl, ?_⟩) trivial ?_
        rotate_left 1
        next => intro w hSw; go_simp; try with_reducible rfl
        try simp only [Act.put, List.getElem_toArray, List.getElem_cons_zero, List.getElem_cons_succ, List.setIfInBounds_toArray, List.set_cons_zero, List.set_cons_succ]
        refine wpAnyH_take (i := 2) (v := ?_) rfl (by kernel_rfl) (by kernel_rfl) (by kernel_rfl) (fun _ _ _ h => h) (Or.inl ⟨by rfl, ?_⟩) trivial ?_
        rotate_left 1
        next => intro w hSw; go_simp; try with_reducible rfl
        try simp only [Act.put, List.getElem_toArray, List.getElem_cons_zero, List.getElem_cons_succ, List.setIfInBounds_toArray, List.set_cons_zero, List.set_cons_succ]
        refine wpAnyH_take (i := 4) (v := ?_) rfl (by kernel_rfl) (by kernel_rfl) (by kernel_rfl) (fun _ _ _ h => h) (Or.inl ⟨by rfl, ?_⟩) trivial ?_
        rotate_left 1
        next => intro w hSw; go_simp; try with_reducible rfl
        try simp only [Act.put, List.getElem_toArray, List.getElem_cons_zero, List.getElem_cons_succ, List.setIfInBounds_toArray, List.set_cons_zero, List.set_cons_succ]
        refine wpAnyH_take (i := 5) (v := ?_) rfl (by kernel_rfl) (by kernel_rfl) (by kernel_rfl) (fun _ _ _ h => h) (Or.inl ⟨by rfl, ?_⟩) trivial ?_
        rotate_left 1
        next => intro w hSw; go_simp; try with_reducible rfl
        try simp only [Act.put, List.getElem_toArray, List.getElem_cons_zero, List.getElem_cons_succ, List.setIfInBounds_toArray, List.set_cons_zero, List.set_cons_succ]
        refine wpAnyH_take (i := 6) (v := ?_) rfl (by kernel_rfl) (by kernel_rfl) (by kernel_rfl) (fun _ _ _ h => h) (Or.inl ⟨by rfl, ?_⟩) trivial ?_
        rotate_left 1
        next => intro w hSw; go_simp; try with_reducible rfl
        try simp only [Act.put, List.getElem_toArray, List.getElem_cons_zero, List.getElem_cons_succ, List.setIfInBounds_toArray, List.set_cons_zero, List.set_cons_succ]
        try simp only [Act.put, List.getElem_toArray, List.getElem_cons_zero, List.getElem_cons_succ, List.setIfInBounds_toArray, List.set_cons_zero, List.set_cons_succ]
        refine wpAnyH_ready (rs := [3]) (by kernel_rfl) (by simp) ?_
        refine AllReadyH.cons rfl (fun K hK => ?_) AllReadyH.nil
        go_simp
        refine (HO4.out _).mono ?_
        rintro e wq2 ⟨rfl, hbc⟩
        have A_q2 := Lib.hid (A_q1.out.below hbc A_q1.out.2.2.2.2)
        have B_q2 := Lib.hid (B_q1.out.below hbc B_q1.out.2.2.2.2)
        have C_q2 := Lib.hid (C_q1.out.below hbc C_q1.out.2.2.2.2)
        have D_q2 := Lib.hid (D_q1.out.below hbc D_q1.out.2.2.2.2)
        have Q_q2 := Lib.hid (Q_q1.out.below hbc Q_q1.out.2.2.2.2)
        have R_q2 := Lib.hid (R_q1.out.below hbc R_q1.out.2.2.2.2)
        have Z_q2 := Lib.hid (Z_q1.out.trans (hbc.mono Z_q1.out.size))
        dsimp only
        refine hK.out _ _ trivial (fun _ => ?_)
        clear hK K hbc
        try simp only [Act.put, List.getElem_toArray, List.getElem_cons_zero, List.getElem_cons_succ, List.setIfInBounds_toArray, List.set_cons_zero, List.set_cons_succ]
        refine wpAnyH_ready (rs := [7]) (by kernel_rfl) (by simp) ?_
        refine AllReadyH.cons rfl (fun K hK => ?_) AllReadyH.nil
        go_simp
        refine (HO5.out _).mono ?_
        rintro e wq3 ⟨rfl, hbc⟩
        have A_q3 := Lib.hid (A_q2.out.below hbc A_q2.out.2.2.2.2)
        have B_q3 := Lib.hid (B_q2.out.below hbc B_q2.out.2.2.2.2)
        have C_q3 := Lib.hid (C_q2.out.below hbc C_q2.out.2.2.2.2)
        have D_q3 := Lib.hid (D_q2.out.below hbc D_q2.out.2.2.2.2)
        have Q_q3 := Lib.hid (Q_q2.out.below hbc Q_q2.out.2.2.2.2)
        have R_q3 := Lib.hid (R_q2.out.below hbc R_q2.out.2.2.2.2)
        have Z_q3 := Lib.hid (Z_q2.out.trans (hbc.mono Z_q2.out.size))
        dsimp only
        refine hK.out _ _ trivial (fun _ => ?_)
        clear hK K hbc
        try simp only [Act.put, List.getElem_toArray, List.getElem_cons_zero, List.getElem_cons_succ, List.setIfInBounds_toArray, List.set_cons_zero, List.set_cons_succ]
        refine wpAnyH_ready (rs := [8]) (by kernel_rfl) (by simp) ?_
        refine AllReadyH.cons rfl (fun K hK => ?_) AllReadyH.nil
        obtain ⟨z0, z1, z2, z3, _⟩ := Q_q3.out
        have A_q4 := Lib.hid (((A_q3.out).far ⟨gq, 0, none⟩ (.bool false) k0).far ⟨gq, 1, none⟩ (.string KM) k0)
        have B_q4 := Lib.hid (((B_q3.out).far ⟨gq, 0, none⟩ (.bool false) k1).far ⟨gq, 1, none⟩ (.string KM) k1)
        have C_q4 := Lib.hid (((C_q3.out).far ⟨gq, 0, none⟩ (.bool false) k2).far ⟨gq, 1, none⟩ (.string KM) k2)
        have D_q4 := Lib.hid (((D_q3.out).far ⟨gq, 0, none⟩ (.bool false) k3).far ⟨gq, 1, none⟩ (.string KM) k3)
        have Q_q4 := Lib.hid (Q_q3.out.set2 (.bool false) (.string KM))
        have R_q4 := Lib.hid (((R_q3.out).far ⟨gq, 0, none⟩ (.bool false) k4).far ⟨gq, 1, none⟩ (.string KM) k4)
        have Z_q4 := Lib.hid (((Z_q3.out).setCell (p := ⟨gq, 0, none⟩) lq (.bool false)).setCell (p := ⟨gq, 1, none⟩) lq (.string KM))
        go_simp
        refine hK.out _ _ trivial (fun _ => ?_)
        clear hK K z0 z1 z2 z3
        try simp only [Act.put, List.getElem_toArray, List.getElem_cons_zero, List.getElem_cons_succ, List.setIfInBounds_toArray, List.set_cons_zero, List.set_cons_succ]
        refine wpAnyH_ready (rs := [9]) (by kernel_rfl) (by simp) ?_
        refine AllReadyH.cons rfl (fun K hK => ?_) AllReadyH.nil
        obtain ⟨z0, z1, z2, z3, _⟩ := R_q4.out
        have A_q5 := Lib.hid (((A_q4.out).far ⟨(gq + 1), 0, none⟩ (.bool false) m0).far ⟨(gq + 1), 1, none⟩ (.string ⟨#[]⟩) m0)
        have B_q5 := Lib.hid (((B_q4.out).far ⟨(gq + 1), 0, none⟩ (.bool false) m1).far ⟨(gq + 1), 1, none⟩ (.string ⟨#[]⟩) m1)
        have C_q5 := Lib.hid (((C_q4.out).far ⟨(gq + 1), 0, none⟩ (.bool false) m2).far ⟨(gq + 1), 1, none⟩ (.string ⟨#[]⟩) m2)
        have D_q5 := Lib.hid (((D_q4.out).far ⟨(gq + 1), 0, none⟩ (.bool false) m3).far ⟨(gq + 1), 1, none⟩ (.string ⟨#[]⟩) m3)
        have Q_q5 := Lib.hid (((Q_q4.out).far ⟨(gq + 1), 0, none⟩ (.bool false) m4).far ⟨(gq + 1), 1, none⟩ (.string ⟨#[]⟩) m4)
        have R_q5 := Lib.hid (R_q4.out.set2 (.bool false) (.string ⟨#[]⟩))
        have Z_q5 := Lib.hid (((Z_q4.out).setCell (p := ⟨(gq + 1), 0, none⟩) lr (.bool false)).setCell (p := ⟨(gq + 1), 1, none⟩) lr (.string ⟨#[]⟩))
        go_simp
        refine hK.out _ _ trivial (fun _ => ?_)
        clear hK K z0 z1 z2 z3
        refine wpAnyH_done (by kernel_rfl) ?_ _
        go_wp2_with fail
        go_meet
        exact ⟨rfl, A_q5, B_q5, C_q5, D_q5, Q_q5, R_q5, Z_q5⟩
      case rest =>
        obtain ⟨rfl, HA, HB, HC, HD, HQ, HR, HZ⟩ := hcut
        clear HSx2 HSy2 HO4 HO5 hwq hwq2 hdz hdz2 hdz3 i1 i2
        rename_i U _
        cases hnx : X.neg <;> cases hny : Y.neg
        · have hny2 := hny
          obtain ⟨a0, a1, a2, a3, _⟩ := HA.out
          obtain ⟨b0, b1, b2, b3, _⟩ := HB.out
          rw [hnx] at a0
          rw [hny] at b0
          have Hq := Lib.hid (HQ2.out (by rw [hnx, hny]))
          clear HQ1 HQ2 hnx hny
          obtain ⟨c0, c1, c2, c3, _⟩ := HC.out
          obtain ⟨d0, d1, d2, d3, _⟩ := HD.out
          obtain ⟨q0, q1, q2, q3, _⟩ := HQ.out
          obtain ⟨r0, r1, r2, r3, _⟩ := HR.out
          have d2 : ¬ gx + 1 + 1 = gq := fun h => k2 h.symm
          have d3 : ¬ gx + 1 + 1 + 1 = gq := fun h => k3 h.symm
          have e2 : ¬ gx + 1 + 1 = gq + 1 := fun h => m2 h.symm
          have e3 : ¬ gx + 1 + 1 + 1 = gq + 1 := fun h => m3 h.symm
          have e4 : ¬ gx + 1 + 1 = gx + 1 + 1 + 1 := by omega
          have e5 : ¬ gx + 1 + 1 + 1 = gx + 1 + 1 := by omega
          have l2 : w.heap.size ≤ gx + 1 + 1 := by have := Hgx.out; omega
          have l3 : w.heap.size ≤ gx + 1 + 1 + 1 := by omega
          go_wp2_with fail
          go_region
          go_wp2_with fail
          refine bodyPost_ret (v := .tuple #[.agg #[.bool false, .string KM], .agg #[.bool false, .string ⟨#[]⟩], .int .i64 0]) ?_ rfl ⟨by rw [← Hq.out], ?_⟩
          · simp [results, Try.results126, go_sem, c0, c1, d0, d1]
          · exact (below_set4 HZ.out l2 l2 l3 l3 _ _ _ _).drew
        · have hny2 := hny
          obtain ⟨a0, a1, a2, a3, _⟩ := HA.out
          obtain ⟨b0, b1, b2, b3, _⟩ := HB.out
          rw [hnx] at a0
          rw [hny] at b0
          have Hq := Lib.hid (HQ1.out (by rw [hnx, hny]; decide))
          obtain ⟨q0, q1, q2, q3, _⟩ := HQ.out
          obtain ⟨r0, r1, r2, r3, _⟩ := HR.out
          clear HQ1 HQ2 hnx hny
          go_wp2_with fail
          refine (HNg.out _).mono ?_
          rintro e w5 ⟨rfl, hb5⟩
          dsimp only
          clear a0 a1 a2 a3 b0 b1 b2 b3 q0 q1 q2 q3 r0 r1 r2 r3
          have HA := Lib.hid (HA.out.call hb5)
          have HB := Lib.hid (HB.out.call hb5)
          have HC := Lib.hid (HC.out.call hb5)
          have HD := Lib.hid (HD.out.call hb5)
          have HQ := Lib.hid (HQ.out.call hb5)
          have HR := Lib.hid (HR.out.call hb5)
          have HZ := Lib.hid (below_call HZ.out HZ.out.size hb5)
          clear hb5
          obtain ⟨b0, b1, b2, b3, _⟩ := HB.out
          obtain ⟨q0, q1, q2, q3, _⟩ := HQ.out
          obtain ⟨r0, r1, r2, r3, _⟩ := HR.out
          rw [hny2] at b0
          go_upto_region 15 with (fail)
          clear b0 b1 b2 b3 q0 q1 q2 q3 r0 r1 r2 r3
          have HA := Lib.hid ((HA.out.far ⟨gq, 0, none⟩ (.bool KN.neg) k0).far ⟨gq, 1, none⟩ (.string KN.mag) k0)
          have HB := Lib.hid ((HB.out.far ⟨gq, 0, none⟩ (.bool KN.neg) k1).far ⟨gq, 1, none⟩ (.string KN.mag) k1)
          have HC := Lib.hid ((HC.out.far ⟨gq, 0, none⟩ (.bool KN.neg) k2).far ⟨gq, 1, none⟩ (.string KN.mag) k2)
          have HD := Lib.hid ((HD.out.far ⟨gq, 0, none⟩ (.bool KN.neg) k3).far ⟨gq, 1, none⟩ (.string KN.mag) k3)
          have HR := Lib.hid ((HR.out.far ⟨gq, 0, none⟩ (.bool KN.neg) k4).far ⟨gq, 1, none⟩ (.string KN.mag) k4)
          have HQ := Lib.hid (HQ.out.set2 (.bool KN.neg) (.string KN.mag))
          have HZ := Lib.hid ((HZ.out.setCell (p := ⟨gq, 0, none⟩) lq (.bool KN.neg)).setCell (p := ⟨gq, 1, none⟩) lq (.string KN.mag))
          generalize (w5.setCell ⟨gq, 0, none⟩ (.bool KN.neg)).setCell ⟨gq, 1, none⟩ (.string KN.mag) = U2 at *
          obtain ⟨b0, b1, b2, b3, _⟩ := HB.out
          rw [hny2] at b0
          obtain ⟨r0, r1, r2, r3, _⟩ := HR.out
          go_wp2_with fail
          refine (HN0.out _).mono ?_
          rintro e w6 ⟨rfl, hb6⟩
          dsimp only
          clear b0 b1 b2 b3 r0 r1 r2 r3
          have HC := Lib.hid (HC.out.call hb6)
          have HD := Lib.hid (HD.out.call hb6)
          have HQ := Lib.hid (HQ.out.call hb6)
          have HR := Lib.hid (HR.out.call hb6)
          have HZ := Lib.hid (below_call HZ.out HZ.out.size hb6)
          clear hb6 HA HB
          obtain ⟨r0, r1, r2, r3, _⟩ := HR.out
          go_upto_region 17 with (fail)
          clear r0 r1 r2 r3
          have HC := Lib.hid ((HC.out.far ⟨gq + 1, 0, none⟩ (.bool false) m2).far ⟨gq + 1, 1, none⟩ (.string ⟨#[]⟩) m2)
          have HD := Lib.hid ((HD.out.far ⟨gq + 1, 0, none⟩ (.bool false) m3).far ⟨gq + 1, 1, none⟩ (.string ⟨#[]⟩) m3)
          have HQ := Lib.hid ((HQ.out.far ⟨gq + 1, 0, none⟩ (.bool false) m4).far ⟨gq + 1, 1, none⟩ (.string ⟨#[]⟩) m4)
          have HR := Lib.hid (HR.out.set2 (.bool false) (.string ⟨#[]⟩))
          have HZ := Lib.hid ((HZ.out.setCell (p := ⟨gq + 1, 0, none⟩) lr (.bool false)).setCell (p := ⟨gq + 1, 1, none⟩) lr (.string ⟨#[]⟩))
          generalize (w6.setCell ⟨gq + 1, 0, none⟩ (.bool false)).setCell ⟨gq + 1, 1, none⟩ (.string ⟨#[]⟩) = U3 at *
          obtain ⟨c0, c1, c2, c3, _⟩ := HC.out
          obtain ⟨d0, d1, d2, d3, _⟩ := HD.out
          obtain ⟨q0, q1, q2, q3, _⟩ := HQ.out
          obtain ⟨r0, r1, r2, r3, _⟩ := HR.out
          have d2 : ¬ gx + 1 + 1 = gq := fun h => k2 h.symm
          have d3 : ¬ gx + 1 + 1 + 1 = gq := fun h => k3 h.symm
          have e2 : ¬ gx + 1 + 1 = gq + 1 := fun h => m2 h.symm
          have e3 : ¬ gx + 1 + 1 + 1 = gq + 1 := fun h => m3 h.symm
          have e4 : ¬ gx + 1 + 1 = gx + 1 + 1 + 1 := by omega
          have e5 : ¬ gx + 1 + 1 + 1 = gx + 1 + 1 := by omega
          have l2 : w.heap.size ≤ gx + 1 + 1 := by have := Hgx.out; omega
          have l3 : w.heap.size ≤ gx + 1 + 1 + 1 := by omega
          go_wp2_with fail
          go_region
          go_wp2_with fail
          refine bodyPost_ret (v := .tuple #[.agg #[.bool KN.neg, .string KN.mag], .agg #[.bool false, .string ⟨#[]⟩], .int .i64 0]) ?_ rfl ⟨by rw [← Hq.out], ?_⟩
          · simp [results, Try.results126, go_sem, c0, c1, d0, d1]
          · exact (below_set4 HZ.out l2 l2 l3 l3 _ _ _ _).drew
        · have hny2 := hny
          obtain ⟨a0, a1, a2, a3, _⟩ := HA.out
          obtain ⟨b0, b1, b2, b3, _⟩ := HB.out
          rw [hnx] at a0
          rw [hny] at b0
          have Hq := Lib.hid (HQ1.out (by rw [hnx, hny]; decide))
          obtain ⟨q0, q1, q2, q3, _⟩ := HQ.out
          obtain ⟨r0, r1, r2, r3, _⟩ := HR.out
          clear HQ1 HQ2 hnx hny
          go_wp2_with fail
          refine (HNg.out _).mono ?_
          rintro e w5 ⟨rfl, hb5⟩
          dsimp only
          clear a0 a1 a2 a3 b0 b1 b2 b3 q0 q1 q2 q3 r0 r1 r2 r3
          have HA := Lib.hid (HA.out.call hb5)
          have HB := Lib.hid (HB.out.call hb5)
          have HC := Lib.hid (HC.out.call hb5)
          have HD := Lib.hid (HD.out.call hb5)
          have HQ := Lib.hid (HQ.out.call hb5)
          have HR := Lib.hid (HR.out.call hb5)
          have HZ := Lib.hid (below_call HZ.out HZ.out.size hb5)
          clear hb5
          obtain ⟨b0, b1, b2, b3, _⟩ := HB.out
          obtain ⟨q0, q1, q2, q3, _⟩ := HQ.out
          obtain ⟨r0, r1, r2, r3, _⟩ := HR.out
          rw [hny2] at b0
          go_upto_region 15 with (fail)
          clear b0 b1 b2 b3 q0 q1 q2 q3 r0 r1 r2 r3
          have HA := Lib.hid ((HA.out.far ⟨gq, 0, none⟩ (.bool KN.neg) k0).far ⟨gq, 1, none⟩ (.string KN.mag) k0)
          have HB := Lib.hid ((HB.out.far ⟨gq, 0, none⟩ (.bool KN.neg) k1).far ⟨gq, 1, none⟩ (.string KN.mag) k1)
          have HC := Lib.hid ((HC.out.far ⟨gq, 0, none⟩ (.bool KN.neg) k2).far ⟨gq, 1, none⟩ (.string KN.mag) k2)
          have HD := Lib.hid ((HD.out.far ⟨gq, 0, none⟩ (.bool KN.neg) k3).far ⟨gq, 1, none⟩ (.string KN.mag) k3)
          have HR := Lib.hid ((HR.out.far ⟨gq, 0, none⟩ (.bool KN.neg) k4).far ⟨gq, 1, none⟩ (.string KN.mag) k4)
          have HQ := Lib.hid (HQ.out.set2 (.bool KN.neg) (.string KN.mag))
          have HZ := Lib.hid ((HZ.out.setCell (p := ⟨gq, 0, none⟩) lq (.bool KN.neg)).setCell (p := ⟨gq, 1, none⟩) lq (.string KN.mag))
          generalize (w5.setCell ⟨gq, 0, none⟩ (.bool KN.neg)).setCell ⟨gq, 1, none⟩ (.string KN.mag) = U2 at *
          obtain ⟨b0, b1, b2, b3, _⟩ := HB.out
          rw [hny2] at b0
          obtain ⟨c0, c1, c2, c3, _⟩ := HC.out
          obtain ⟨d0, d1, d2, d3, _⟩ := HD.out
          obtain ⟨q0, q1, q2, q3, _⟩ := HQ.out
          obtain ⟨r0, r1, r2, r3, _⟩ := HR.out
          have d2 : ¬ gx + 1 + 1 = gq := fun h => k2 h.symm
          have d3 : ¬ gx + 1 + 1 + 1 = gq := fun h => k3 h.symm
          have e2 : ¬ gx + 1 + 1 = gq + 1 := fun h => m2 h.symm
          have e3 : ¬ gx + 1 + 1 + 1 = gq + 1 := fun h => m3 h.symm
          have e4 : ¬ gx + 1 + 1 = gx + 1 + 1 + 1 := by omega
          have e5 : ¬ gx + 1 + 1 + 1 = gx + 1 + 1 := by omega
          have l2 : w.heap.size ≤ gx + 1 + 1 := by have := Hgx.out; omega
          have l3 : w.heap.size ≤ gx + 1 + 1 + 1 := by omega
          go_wp2_with fail
          go_region
          go_wp2_with fail
          refine bodyPost_ret (v := .tuple #[.agg #[.bool KN.neg, .string KN.mag], .agg #[.bool false, .string ⟨#[]⟩], .int .i64 0]) ?_ rfl ⟨by rw [← Hq.out], ?_⟩
          · simp [results, Try.results126, go_sem, c0, c1, d0, d1]
          · exact (below_set4 HZ.out l2 l2 l3 l3 _ _ _ _).drew
        · have hny2 := hny
          obtain ⟨a0, a1, a2, a3, _⟩ := HA.out
          obtain ⟨b0, b1, b2, b3, _⟩ := HB.out
          rw [hnx] at a0
          rw [hny] at b0
          have Hq := Lib.hid (HQ2.out (by rw [hnx, hny]))
          clear HQ1 HQ2 hnx hny
          obtain ⟨r0, r1, r2, r3, _⟩ := HR.out
          go_wp2_with fail
          refine (HN0.out _).mono ?_
          rintro e w6 ⟨rfl, hb6⟩
          dsimp only
          clear a0 a1 a2 a3 b0 b1 b2 b3 r0 r1 r2 r3
          have HC := Lib.hid (HC.out.call hb6)
          have HD := Lib.hid (HD.out.call hb6)
          have HQ := Lib.hid (HQ.out.call hb6)
          have HR := Lib.hid (HR.out.call hb6)
          have HZ := Lib.hid (below_call HZ.out HZ.out.size hb6)
          clear hb6 HA HB
          obtain ⟨r0, r1, r2, r3, _⟩ := HR.out
          go_upto_region 17 with (fail)
          clear r0 r1 r2 r3
          have HC := Lib.hid ((HC.out.far ⟨gq + 1, 0, none⟩ (.bool false) m2).far ⟨gq + 1, 1, none⟩ (.string ⟨#[]⟩) m2)
          have HD := Lib.hid ((HD.out.far ⟨gq + 1, 0, none⟩ (.bool false) m3).far ⟨gq + 1, 1, none⟩ (.string ⟨#[]⟩) m3)
          have HQ := Lib.hid ((HQ.out.far ⟨gq + 1, 0, none⟩ (.bool false) m4).far ⟨gq + 1, 1, none⟩ (.string ⟨#[]⟩) m4)
          have HR := Lib.hid (HR.out.set2 (.bool false) (.string ⟨#[]⟩))
          have HZ := Lib.hid ((HZ.out.setCell (p := ⟨gq + 1, 0, none⟩) lr (.bool false)).setCell (p := ⟨gq + 1, 1, none⟩) lr (.string ⟨#[]⟩))
          generalize (w6.setCell ⟨gq + 1, 0, none⟩ (.bool false)).setCell ⟨gq + 1, 1, none⟩ (.string ⟨#[]⟩) = U3 at *
          obtain ⟨c0, c1, c2, c3, _⟩ := HC.out
          obtain ⟨d0, d1, d2, d3, _⟩ := HD.out
          obtain ⟨q0, q1, q2, q3, _⟩ := HQ.out
          obtain ⟨r0, r1, r2, r3, _⟩ := HR.out
          have d2 : ¬ gx + 1 + 1 = gq := fun h => k2 h.symm
          have d3 : ¬ gx + 1 + 1 + 1 = gq := fun h => k3 h.symm
          have e2 : ¬ gx + 1 + 1 = gq + 1 := fun h => m2 h.symm
          have e3 : ¬ gx + 1 + 1 + 1 = gq + 1 := fun h => m3 h.symm
          have e4 : ¬ gx + 1 + 1 = gx + 1 + 1 + 1 := by omega
          have e5 : ¬ gx + 1 + 1 + 1 = gx + 1 + 1 := by omega
          have l2 : w.heap.size ≤ gx + 1 + 1 := by have := Hgx.out; omega
          have l3 : w.heap.size ≤ gx + 1 + 1 + 1 := by omega
          go_wp2_with fail
          go_region
          go_wp2_with fail
          refine bodyPost_ret (v := .tuple #[.agg #[.bool false, .string KM], .agg #[.bool false, .string ⟨#[]⟩], .int .i64 0]) ?_ rfl ⟨by rw [← Hq.out], ?_⟩
          · simp [results, Try.results126, go_sem, c0, c1, d0, d1]
          · exact (below_set4 HZ.out l2 l2 l3 l3 _ _ _ _).drew
    · have i1 : X.mag.size ≤ 7 → ¬ (Y.mag.size : Int) < 8 := fun h => by omega
      clear HSx HSy HO1 HO2
      obtain ⟨a0, a1, a2, a3, _⟩ := HA.out
      obtain ⟨b0, b1, b2, b3, _⟩ := HB.out
      by_cases hx7 : X.mag.size ≤ 7
      · have i2 : ¬ (Y.mag.size : Int) < 8 := i1 hx7
        have i3 : (X.mag.size : Int) < 8 := by omega
        clear i1 hsm
        go_upto_region 8 with (fail)
        obtain ⟨V, hV, hQ, hR, hbV, hsV⟩ := two_boxes wc (.bool false) (.string ⟨#[]⟩) (.bool false) (.string ⟨#[]⟩) 48
        rw [hV]
        obtain ⟨gq, hgq⟩ : ∃ g, wc.heap.size = g := ⟨_, rfl⟩
        rw [hgq] at hQ hR ⊢
        have HQ := Lib.hid hQ
        have HR := Lib.hid hR
        have HA := Lib.hid (HA.out.call hbV)
        have HB := Lib.hid (HB.out.call hbV)
        have hgl : gx + 1 + 1 + 1 < gq := by rw [← hgq]; exact HD.out.2.2.2.2
        have HC := Lib.hid (HC.out.call hbV)
        have HD := Lib.hid (HD.out.call hbV)
        have HZ := Lib.hid (below_call HZ.out HZ.out.size hbV)
        clear a0 a1 a2 a3 b0 b1 b2 b3 hV hQ hR hbV hsV hgq
        have lq : w.heap.size ≤ gq := by have := Hgx.out; omega
        have lr : w.heap.size ≤ gq + 1 := by omega
        have k0 : gq ≠ gx := by omega
        have k1 : gq ≠ gx + 1 := by omega
        have k2 : gq ≠ gx + 1 + 1 := by omega
        have k3 : gq ≠ gx + 1 + 1 + 1 := by omega
        have k4 : gq ≠ gq + 1 := by omega
        have m0 : gq + 1 ≠ gx := by omega
        have m1 : gq + 1 ≠ gx + 1 := by omega
        have m2 : gq + 1 ≠ gx + 1 + 1 := by omega
        have m3 : gq + 1 ≠ gx + 1 + 1 + 1 := by omega
        have m4 : gq + 1 ≠ gq := by omega
        obtain ⟨a0, a1, a2, a3, _⟩ := HA.out
        obtain ⟨b0, b1, b2, b3, _⟩ := HB.out
        go_wp2_with fail
        refine (HDm.out _).mono ?_
        rintro e w4 ⟨rfl, hb4⟩
        dsimp only
        clear a0 a1 a2 a3 b0 b1 b2 b3
        have HA := Lib.hid (HA.out.call hb4)
        have HB := Lib.hid (HB.out.call hb4)
        have HC := Lib.hid (HC.out.call hb4)
        have HD := Lib.hid (HD.out.call hb4)
        have HQ := Lib.hid (HQ.out.call hb4)
        have HR := Lib.hid (HR.out.call hb4)
        have HZ := Lib.hid (below_call HZ.out HZ.out.size hb4)
        clear hb4 HDm
        obtain ⟨q0, q1, q2, q3, _⟩ := HQ.out
        obtain ⟨r0, r1, r2, r3, _⟩ := HR.out
        go_upto_region 10 with (fail)
        clear q0 q1 q2 q3 r0 r1 r2 r3
        have HA := Lib.hid ((HA.out.far ⟨gq, 0, none⟩ (.bool false) k0).far ⟨gq, 1, none⟩ (.string KM) k0)
        have HB := Lib.hid ((HB.out.far ⟨gq, 0, none⟩ (.bool false) k1).far ⟨gq, 1, none⟩ (.string KM) k1)
        have HC := Lib.hid ((HC.out.far ⟨gq, 0, none⟩ (.bool false) k2).far ⟨gq, 1, none⟩ (.string KM) k2)
        have HD := Lib.hid ((HD.out.far ⟨gq, 0, none⟩ (.bool false) k3).far ⟨gq, 1, none⟩ (.string KM) k3)
        have HR := Lib.hid ((HR.out.far ⟨gq, 0, none⟩ (.bool false) k4).far ⟨gq, 1, none⟩ (.string KM) k4)
        have HQ := Lib.hid (HQ.out.set2 (.bool false) (.string KM))
        have HZ := Lib.hid ((HZ.out.setCell (p := ⟨gq, 0, none⟩) lq (.bool false)).setCell (p := ⟨gq, 1, none⟩) lq (.string KM))
        have HA := Lib.hid ((HA.out.far ⟨gq + 1, 0, none⟩ (.bool false) m0).far ⟨gq + 1, 1, none⟩ (.string ⟨#[]⟩) m0)
        have HB := Lib.hid ((HB.out.far ⟨gq + 1, 0, none⟩ (.bool false) m1).far ⟨gq + 1, 1, none⟩ (.string ⟨#[]⟩) m1)
        have HC := Lib.hid ((HC.out.far ⟨gq + 1, 0, none⟩ (.bool false) m2).far ⟨gq + 1, 1, none⟩ (.string ⟨#[]⟩) m2)
        have HD := Lib.hid ((HD.out.far ⟨gq + 1, 0, none⟩ (.bool false) m3).far ⟨gq + 1, 1, none⟩ (.string ⟨#[]⟩) m3)
        have HQ := Lib.hid ((HQ.out.far ⟨gq + 1, 0, none⟩ (.bool false) m4).far ⟨gq + 1, 1, none⟩ (.string ⟨#[]⟩) m4)
        have HR := Lib.hid (HR.out.set2 (.bool false) (.string ⟨#[]⟩))
        have HZ := Lib.hid ((HZ.out.setCell (p := ⟨gq + 1, 0, none⟩) lr (.bool false)).setCell (p := ⟨gq + 1, 1, none⟩) lr (.string ⟨#[]⟩))
        generalize (((w4.setCell ⟨gq, 0, none⟩ (.bool false)).setCell ⟨gq, 1, none⟩ (.string KM)).setCell ⟨gq + 1, 0, none⟩ (.bool false)).setCell ⟨gq + 1, 1, none⟩ (.string ⟨#[]⟩) = U at *
        cases hnx : X.neg <;> cases hny : Y.neg
        · have hny2 := hny
          obtain ⟨a0, a1, a2, a3, _⟩ := HA.out
          obtain ⟨b0, b1, b2, b3, _⟩ := HB.out
          rw [hnx] at a0
          rw [hny] at b0
          have Hq := Lib.hid (HQ2.out (by rw [hnx, hny]))
          clear HQ1 HQ2 hnx hny
          obtain ⟨c0, c1, c2, c3, _⟩ := HC.out
          obtain ⟨d0, d1, d2, d3, _⟩ := HD.out
          obtain ⟨q0, q1, q2, q3, _⟩ := HQ.out
          obtain ⟨r0, r1, r2, r3, _⟩ := HR.out
          have d2 : ¬ gx + 1 + 1 = gq := fun h => k2 h.symm
          have d3 : ¬ gx + 1 + 1 + 1 = gq := fun h => k3 h.symm
          have e2 : ¬ gx + 1 + 1 = gq + 1 := fun h => m2 h.symm
          have e3 : ¬ gx + 1 + 1 + 1 = gq + 1 := fun h => m3 h.symm
          have e4 : ¬ gx + 1 + 1 = gx + 1 + 1 + 1 := by omega
          have e5 : ¬ gx + 1 + 1 + 1 = gx + 1 + 1 := by omega
          have l2 : w.heap.size ≤ gx + 1 + 1 := by have := Hgx.out; omega
          have l3 : w.heap.size ≤ gx + 1 + 1 + 1 := by omega
          go_wp2_with fail
          go_region
          go_wp2_with fail
          refine bodyPost_ret (v := .tuple #[.agg #[.bool false, .string KM], .agg #[.bool false, .string ⟨#[]⟩], .int .i64 0]) ?_ rfl ⟨by rw [← Hq.out], ?_⟩
          · simp [results, Try.results126, go_sem, c0, c1, d0, d1]
          · exact (below_set4 HZ.out l2 l2 l3 l3 _ _ _ _).drew
        · have hny2 := hny
          obtain ⟨a0, a1, a2, a3, _⟩ := HA.out
          obtain ⟨b0, b1, b2, b3, _⟩ := HB.out
          rw [hnx] at a0
          rw [hny] at b0
          have Hq := Lib.hid (HQ1.out (by rw [hnx, hny]; decide))
          obtain ⟨q0, q1, q2, q3, _⟩ := HQ.out
          obtain ⟨r0, r1, r2, r3, _⟩ := HR.out
          clear HQ1 HQ2 hnx hny
          go_wp2_with fail
          refine (HNg.out _).mono ?_
          rintro e w5 ⟨rfl, hb5⟩
          dsimp only
          clear a0 a1 a2 a3 b0 b1 b2 b3 q0 q1 q2 q3 r0 r1 r2 r3
          have HA := Lib.hid (HA.out.call hb5)
          have HB := Lib.hid (HB.out.call hb5)
          have HC := Lib.hid (HC.out.call hb5)
          have HD := Lib.hid (HD.out.call hb5)
          have HQ := Lib.hid (HQ.out.call hb5)
          have HR := Lib.hid (HR.out.call hb5)
          have HZ := Lib.hid (below_call HZ.out HZ.out.size hb5)
          clear hb5
          obtain ⟨b0, b1, b2, b3, _⟩ := HB.out
          obtain ⟨q0, q1, q2, q3, _⟩ := HQ.out
          obtain ⟨r0, r1, r2, r3, _⟩ := HR.out
          rw [hny2] at b0
          go_upto_region 15 with (fail)
          clear b0 b1 b2 b3 q0 q1 q2 q3 r0 r1 r2 r3
          have HA := Lib.hid ((HA.out.far ⟨gq, 0, none⟩ (.bool KN.neg) k0).far ⟨gq, 1, none⟩ (.string KN.mag) k0)
          have HB := Lib.hid ((HB.out.far ⟨gq, 0, none⟩ (.bool KN.neg) k1).far ⟨gq, 1, none⟩ (.string KN.mag) k1)
          have HC := Lib.hid ((HC.out.far ⟨gq, 0, none⟩ (.bool KN.neg) k2).far ⟨gq, 1, none⟩ (.string KN.mag) k2)
          have HD := Lib.hid ((HD.out.far ⟨gq, 0, none⟩ (.bool KN.neg) k3).far ⟨gq, 1, none⟩ (.string KN.mag) k3)
          have HR := Lib.hid ((HR.out.far ⟨gq, 0, none⟩ (.bool KN.neg) k4).far ⟨gq, 1, none⟩ (.string KN.mag) k4)
          have HQ := Lib.hid (HQ.out.set2 (.bool KN.neg) (.string KN.mag))
          have HZ := Lib.hid ((HZ.out.setCell (p := ⟨gq, 0, none⟩) lq (.bool KN.neg)).setCell (p := ⟨gq, 1, none⟩) lq (.string KN.mag))
          generalize (w5.setCell ⟨gq, 0, none⟩ (.bool KN.neg)).setCell ⟨gq, 1, none⟩ (.string KN.mag) = U2 at *
          obtain ⟨b0, b1, b2, b3, _⟩ := HB.out
          rw [hny2] at b0
          obtain ⟨r0, r1, r2, r3, _⟩ := HR.out
          go_wp2_with fail
          refine (HN0.out _).mono ?_
          rintro e w6 ⟨rfl, hb6⟩
          dsimp only
          clear b0 b1 b2 b3 r0 r1 r2 r3
          have HC := Lib.hid (HC.out.call hb6)
          have HD := Lib.hid (HD.out.call hb6)
          have HQ := Lib.hid (HQ.out.call hb6)
          have HR := Lib.hid (HR.out.call hb6)
          have HZ := Lib.hid (below_call HZ.out HZ.out.size hb6)
          clear hb6 HA HB
          obtain ⟨r0, r1, r2, r3, _⟩ := HR.out
          go_upto_region 17 with (fail)
          clear r0 r1 r2 r3
          have HC := Lib.hid ((HC.out.far ⟨gq + 1, 0, none⟩ (.bool false) m2).far ⟨gq + 1, 1, none⟩ (.string ⟨#[]⟩) m2)
          have HD := Lib.hid ((HD.out.far ⟨gq + 1, 0, none⟩ (.bool false) m3).far ⟨gq + 1, 1, none⟩ (.string ⟨#[]⟩) m3)
          have HQ := Lib.hid ((HQ.out.far ⟨gq + 1, 0, none⟩ (.bool false) m4).far ⟨gq + 1, 1, none⟩ (.string ⟨#[]⟩) m4)
          have HR := Lib.hid (HR.out.set2 (.bool false) (.string ⟨#[]⟩))
          have HZ := Lib.hid ((HZ.out.setCell (p := ⟨gq + 1, 0, none⟩) lr (.bool false)).setCell (p := ⟨gq + 1, 1, none⟩) lr (.string ⟨#[]⟩))
          generalize (w6.setCell ⟨gq + 1, 0, none⟩ (.bool false)).setCell ⟨gq + 1, 1, none⟩ (.string ⟨#[]⟩) = U3 at *
          obtain ⟨c0, c1, c2, c3, _⟩ := HC.out
          obtain ⟨d0, d1, d2, d3, _⟩ := HD.out
          obtain ⟨q0, q1, q2, q3, _⟩ := HQ.out
          obtain ⟨r0, r1, r2, r3, _⟩ := HR.out
          have d2 : ¬ gx + 1 + 1 = gq := fun h => k2 h.symm
          have d3 : ¬ gx + 1 + 1 + 1 = gq := fun h => k3 h.symm
          have e2 : ¬ gx + 1 + 1 = gq + 1 := fun h => m2 h.symm
          have e3 : ¬ gx + 1 + 1 + 1 = gq + 1 := fun h => m3 h.symm
          have e4 : ¬ gx + 1 + 1 = gx + 1 + 1 + 1 := by omega
          have e5 : ¬ gx + 1 + 1 + 1 = gx + 1 + 1 := by omega
          have l2 : w.heap.size ≤ gx + 1 + 1 := by have := Hgx.out; omega
          have l3 : w.heap.size ≤ gx + 1 + 1 + 1 := by omega
          go_wp2_with fail
          go_region
          go_wp2_with fail
          refine bodyPost_ret (v := .tuple #[.agg #[.bool KN.neg, .string KN.mag], .agg #[.bool false, .string ⟨#[]⟩], .int .i64 0]) ?_ rfl ⟨by rw [← Hq.out], ?_⟩
          · simp [results, Try.results126, go_sem, c0, c1, d0, d1]
          · exact (below_set4 HZ.out l2 l2 l3 l3 _ _ _ _).drew
        · have hny2 := hny
          obtain ⟨a0, a1, a2, a3, _⟩ := HA.out
          obtain ⟨b0, b1, b2, b3, _⟩ := HB.out
          rw [hnx] at a0
          rw [hny] at b0
          have Hq := Lib.hid (HQ1.out (by rw [hnx, hny]; decide))
          obtain ⟨q0, q1, q2, q3, _⟩ := HQ.out
          obtain ⟨r0, r1, r2, r3, _⟩ := HR.out
          clear HQ1 HQ2 hnx hny
          go_wp2_with fail
          refine (HNg.out _).mono ?_
          rintro e w5 ⟨rfl, hb5⟩
          dsimp only
          clear a0 a1 a2 a3 b0 b1 b2 b3 q0 q1 q2 q3 r0 r1 r2 r3
          have HA := Lib.hid (HA.out.call hb5)
          have HB := Lib.hid (HB.out.call hb5)
          have HC := Lib.hid (HC.out.call hb5)
          have HD := Lib.hid (HD.out.call hb5)
          have HQ := Lib.hid (HQ.out.call hb5)
          have HR := Lib.hid (HR.out.call hb5)
          have HZ := Lib.hid (below_call HZ.out HZ.out.size hb5)
          clear hb5
          obtain ⟨b0, b1, b2, b3, _⟩ := HB.out
          obtain ⟨q0, q1, q2, q3, _⟩ := HQ.out
          obtain ⟨r0, r1, r2, r3, _⟩ := HR.out
          rw [hny2] at b0
          go_upto_region 15 with (fail)
          clear b0 b1 b2 b3 q0 q1 q2 q3 r0 r1 r2 r3
          have HA := Lib.hid ((HA.out.far ⟨gq, 0, none⟩ (.bool KN.neg) k0).far ⟨gq, 1, none⟩ (.string KN.mag) k0)
          have HB := Lib.hid ((HB.out.far ⟨gq, 0, none⟩ (.bool KN.neg) k1).far ⟨gq, 1, none⟩ (.string KN.mag) k1)
          have HC := Lib.hid ((HC.out.far ⟨gq, 0, none⟩ (.bool KN.neg) k2).far ⟨gq, 1, none⟩ (.string KN.mag) k2)
          have HD := Lib.hid ((HD.out.far ⟨gq, 0, none⟩ (.bool KN.neg) k3).far ⟨gq, 1, none⟩ (.string KN.mag) k3)
          have HR := Lib.hid ((HR.out.far ⟨gq, 0, none⟩ (.bool KN.neg) k4).far ⟨gq, 1, none⟩ (.string KN.mag) k4)
          have HQ := Lib.hid (HQ.out.set2 (.bool KN.neg) (.string KN.mag))
          have HZ := Lib.hid ((HZ.out.setCell (p := ⟨gq, 0, none⟩) lq (.bool KN.neg)).setCell (p := ⟨gq, 1, none⟩) lq (.string KN.mag))
          generalize (w5.setCell ⟨gq, 0, none⟩ (.bool KN.neg)).setCell ⟨gq, 1, none⟩ (.string KN.mag) = U2 at *
          obtain ⟨b0, b1, b2, b3, _⟩ := HB.out
          rw [hny2] at b0
          obtain ⟨c0, c1, c2, c3, _⟩ := HC.out
          obtain ⟨d0, d1, d2, d3, _⟩ := HD.out
          obtain ⟨q0, q1, q2, q3, _⟩ := HQ.out
          obtain ⟨r0, r1, r2, r3, _⟩ := HR.out
          have d2 : ¬ gx + 1 + 1 = gq := fun h => k2 h.symm
          have d3 : ¬ gx + 1 + 1 + 1 = gq := fun h => k3 h.symm
          have e2 : ¬ gx + 1 + 1 = gq + 1 := fun h => m2 h.symm
          have e3 : ¬ gx + 1 + 1 + 1 = gq + 1 := fun h => m3 h.symm
          have e4 : ¬ gx + 1 + 1 = gx + 1 + 1 + 1 := by omega
          have e5 : ¬ gx + 1 + 1 + 1 = gx + 1 + 1 := by omega
          have l2 : w.heap.size ≤ gx + 1 + 1 := by have := Hgx.out; omega
          have l3 : w.heap.size ≤ gx + 1 + 1 + 1 := by omega
          go_wp2_with fail
          go_region
          go_wp2_with fail
          refine bodyPost_ret (v := .tuple #[.agg #[.bool KN.neg, .string KN.mag], .agg #[.bool false, .string ⟨#[]⟩], .int .i64 0]) ?_ rfl ⟨by rw [← Hq.out], ?_⟩
          · simp [results, Try.results126, go_sem, c0, c1, d0, d1]
          · exact (below_set4 HZ.out l2 l2 l3 l3 _ _ _ _).drew
        · have hny2 := hny
          obtain ⟨a0, a1, a2, a3, _⟩ := HA.out
          obtain ⟨b0, b1, b2, b3, _⟩ := HB.out
          rw [hnx] at a0
          rw [hny] at b0
          have Hq := Lib.hid (HQ2.out (by rw [hnx, hny]))
          clear HQ1 HQ2 hnx hny
          obtain ⟨r0, r1, r2, r3, _⟩ := HR.out
          go_wp2_with fail
          refine (HN0.out _).mono ?_
          rintro e w6 ⟨rfl, hb6⟩
          dsimp only
          clear a0 a1 a2 a3 b0 b1 b2 b3 r0 r1 r2 r3
          have HC := Lib.hid (HC.out.call hb6)
          have HD := Lib.hid (HD.out.call hb6)
          have HQ := Lib.hid (HQ.out.call hb6)
          have HR := Lib.hid (HR.out.call hb6)
          have HZ := Lib.hid (below_call HZ.out HZ.out.size hb6)
          clear hb6 HA HB
          obtain ⟨r0, r1, r2, r3, _⟩ := HR.out
          go_upto_region 17 with (fail)
          clear r0 r1 r2 r3
          have HC := Lib.hid ((HC.out.far ⟨gq + 1, 0, none⟩ (.bool false) m2).far ⟨gq + 1, 1, none⟩ (.string ⟨#[]⟩) m2)
          have HD := Lib.hid ((HD.out.far ⟨gq + 1, 0, none⟩ (.bool false) m3).far ⟨gq + 1, 1, none⟩ (.string ⟨#[]⟩) m3)
          have HQ := Lib.hid ((HQ.out.far ⟨gq + 1, 0, none⟩ (.bool false) m4).far ⟨gq + 1, 1, none⟩ (.string ⟨#[]⟩) m4)
          have HR := Lib.hid (HR.out.set2 (.bool false) (.string ⟨#[]⟩))
          have HZ := Lib.hid ((HZ.out.setCell (p := ⟨gq + 1, 0, none⟩) lr (.bool false)).setCell (p := ⟨gq + 1, 1, none⟩) lr (.string ⟨#[]⟩))
          generalize (w6.setCell ⟨gq + 1, 0, none⟩ (.bool false)).setCell ⟨gq + 1, 1, none⟩ (.string ⟨#[]⟩) = U3 at *
          obtain ⟨c0, c1, c2, c3, _⟩ := HC.out
          obtain ⟨d0, d1, d2, d3, _⟩ := HD.out
          obtain ⟨q0, q1, q2, q3, _⟩ := HQ.out
          obtain ⟨r0, r1, r2, r3, _⟩ := HR.out
          have d2 : ¬ gx + 1 + 1 = gq := fun h => k2 h.symm
          have d3 : ¬ gx + 1 + 1 + 1 = gq := fun h => k3 h.symm
          have e2 : ¬ gx + 1 + 1 = gq + 1 := fun h => m2 h.symm
          have e3 : ¬ gx + 1 + 1 + 1 = gq + 1 := fun h => m3 h.symm
          have e4 : ¬ gx + 1 + 1 = gx + 1 + 1 + 1 := by omega
          have e5 : ¬ gx + 1 + 1 + 1 = gx + 1 + 1 := by omega
          have l2 : w.heap.size ≤ gx + 1 + 1 := by have := Hgx.out; omega
          have l3 : w.heap.size ≤ gx + 1 + 1 + 1 := by omega
          go_wp2_with fail
          go_region
          go_wp2_with fail
          refine bodyPost_ret (v := .tuple #[.agg #[.bool false, .string KM], .agg #[.bool false, .string ⟨#[]⟩], .int .i64 0]) ?_ rfl ⟨by rw [← Hq.out], ?_⟩
          · simp [results, Try.results126, go_sem, c0, c1, d0, d1]
          · exact (below_set4 HZ.out l2 l2 l3 l3 _ _ _ _).drew
      · have i3 : ¬ (X.mag.size : Int) < 8 := by omega
        clear i1 hsm
        go_upto_region 8 with (fail)
        obtain ⟨V, hV, hQ, hR, hbV, hsV⟩ := two_boxes wc (.bool false) (.string ⟨#[]⟩) (.bool false) (.string ⟨#[]⟩) 48
        rw [hV]
        obtain ⟨gq, hgq⟩ : ∃ g, wc.heap.size = g := ⟨_, rfl⟩
        rw [hgq] at hQ hR ⊢
        have HQ := Lib.hid hQ
        have HR := Lib.hid hR
        have HA := Lib.hid (HA.out.call hbV)
        have HB := Lib.hid (HB.out.call hbV)
        have hgl : gx + 1 + 1 + 1 < gq := by rw [← hgq]; exact HD.out.2.2.2.2
        have HC := Lib.hid (HC.out.call hbV)
        have HD := Lib.hid (HD.out.call hbV)
        have HZ := Lib.hid (below_call HZ.out HZ.out.size hbV)
        clear a0 a1 a2 a3 b0 b1 b2 b3 hV hQ hR hbV hsV hgq
        have lq : w.heap.size ≤ gq := by have := Hgx.out; omega
        have lr : w.heap.size ≤ gq + 1 := by omega
        have k0 : gq ≠ gx := by omega
        have k1 : gq ≠ gx + 1 := by omega
        have k2 : gq ≠ gx + 1 + 1 := by omega
        have k3 : gq ≠ gx + 1 + 1 + 1 := by omega
        have k4 : gq ≠ gq + 1 := by omega
        have m0 : gq + 1 ≠ gx := by omega
        have m1 : gq + 1 ≠ gx + 1 := by omega
        have m2 : gq + 1 ≠ gx + 1 + 1 := by omega
        have m3 : gq + 1 ≠ gx + 1 + 1 + 1 := by omega
        have m4 : gq + 1 ≠ gq := by omega
        obtain ⟨a0, a1, a2, a3, _⟩ := HA.out
        obtain ⟨b0, b1, b2, b3, _⟩ := HB.out
        go_wp2_with fail
        refine (HDm.out _).mono ?_
        rintro e w4 ⟨rfl, hb4⟩
        dsimp only
        clear a0 a1 a2 a3 b0 b1 b2 b3
        have HA := Lib.hid (HA.out.call hb4)
        have HB := Lib.hid (HB.out.call hb4)
        have HC := Lib.hid (HC.out.call hb4)
        have HD := Lib.hid (HD.out.call hb4)
        have HQ := Lib.hid (HQ.out.call hb4)
        have HR := Lib.hid (HR.out.call hb4)
        have HZ := Lib.hid (below_call HZ.out HZ.out.size hb4)
        clear hb4 HDm
        obtain ⟨q0, q1, q2, q3, _⟩ := HQ.out
        obtain ⟨r0, r1, r2, r3, _⟩ := HR.out
        go_upto_region 10 with (fail)
        clear q0 q1 q2 q3 r0 r1 r2 r3
        have HA := Lib.hid ((HA.out.far ⟨gq, 0, none⟩ (.bool false) k0).far ⟨gq, 1, none⟩ (.string KM) k0)
        have HB := Lib.hid ((HB.out.far ⟨gq, 0, none⟩ (.bool false) k1).far ⟨gq, 1, none⟩ (.string KM) k1)
        have HC := Lib.hid ((HC.out.far ⟨gq, 0, none⟩ (.bool false) k2).far ⟨gq, 1, none⟩ (.string KM) k2)
        have HD := Lib.hid ((HD.out.far ⟨gq, 0, none⟩ (.bool false) k3).far ⟨gq, 1, none⟩ (.string KM) k3)
        have HR := Lib.hid ((HR.out.far ⟨gq, 0, none⟩ (.bool false) k4).far ⟨gq, 1, none⟩ (.string KM) k4)
        have HQ := Lib.hid (HQ.out.set2 (.bool false) (.string KM))
        have HZ := Lib.hid ((HZ.out.setCell (p := ⟨gq, 0, none⟩) lq (.bool false)).setCell (p := ⟨gq, 1, none⟩) lq (.string KM))
        have HA := Lib.hid ((HA.out.far ⟨gq + 1, 0, none⟩ (.bool false) m0).far ⟨gq + 1, 1, none⟩ (.string ⟨#[]⟩) m0)
        have HB := Lib.hid ((HB.out.far ⟨gq + 1, 0, none⟩ (.bool false) m1).far ⟨gq + 1, 1, none⟩ (.string ⟨#[]⟩) m1)
        have HC := Lib.hid ((HC.out.far ⟨gq + 1, 0, none⟩ (.bool false) m2).far ⟨gq + 1, 1, none⟩ (.string ⟨#[]⟩) m2)
        have HD := Lib.hid ((HD.out.far ⟨gq + 1, 0, none⟩ (.bool false) m3).far ⟨gq + 1, 1, none⟩ (.string ⟨#[]⟩) m3)
        have HQ := Lib.hid ((HQ.out.far ⟨gq + 1, 0, none⟩ (.bool false) m4).far ⟨gq + 1, 1, none⟩ (.string ⟨#[]⟩) m4)
        have HR := Lib.hid (HR.out.set2 (.bool false) (.string ⟨#[]⟩))
        have HZ := Lib.hid ((HZ.out.setCell (p := ⟨gq + 1, 0, none⟩) lr (.bool false)).setCell (p := ⟨gq + 1, 1, none⟩) lr (.string ⟨#[]⟩))
        generalize (((w4.setCell ⟨gq, 0, none⟩ (.bool false)).setCell ⟨gq, 1, none⟩ (.string KM)).setCell ⟨gq + 1, 0, none⟩ (.bool false)).setCell ⟨gq + 1, 1, none⟩ (.string ⟨#[]⟩) = U at *
        cases hnx : X.neg <;> cases hny : Y.neg
        · have hny2 := hny
          obtain ⟨a0, a1, a2, a3, _⟩ := HA.out
          obtain ⟨b0, b1, b2, b3, _⟩ := HB.out
          rw [hnx] at a0
          rw [hny] at b0
          have Hq := Lib.hid (HQ2.out (by rw [hnx, hny]))
          clear HQ1 HQ2 hnx hny
          obtain ⟨c0, c1, c2, c3, _⟩ := HC.out
          obtain ⟨d0, d1, d2, d3, _⟩ := HD.out
          obtain ⟨q0, q1, q2, q3, _⟩ := HQ.out
          obtain ⟨r0, r1, r2, r3, _⟩ := HR.out
          have d2 : ¬ gx + 1 + 1 = gq := fun h => k2 h.symm
          have d3 : ¬ gx + 1 + 1 + 1 = gq := fun h => k3 h.symm
          have e2 : ¬ gx + 1 + 1 = gq + 1 := fun h => m2 h.symm
          have e3 : ¬ gx + 1 + 1 + 1 = gq + 1 := fun h => m3 h.symm
          have e4 : ¬ gx + 1 + 1 = gx + 1 + 1 + 1 := by omega
          have e5 : ¬ gx + 1 + 1 + 1 = gx + 1 + 1 := by omega
          have l2 : w.heap.size ≤ gx + 1 + 1 := by have := Hgx.out; omega
          have l3 : w.heap.size ≤ gx + 1 + 1 + 1 := by omega
          go_wp2_with fail
          go_region
          go_wp2_with fail
          refine bodyPost_ret (v := .tuple #[.agg #[.bool false, .string KM], .agg #[.bool false, .string ⟨#[]⟩], .int .i64 0]) ?_ rfl ⟨by rw [← Hq.out], ?_⟩
          · simp [results, Try.results126, go_sem, c0, c1, d0, d1]
          · exact (below_set4 HZ.out l2 l2 l3 l3 _ _ _ _).drew
        · have hny2 := hny
          obtain ⟨a0, a1, a2, a3, _⟩ := HA.out
          obtain ⟨b0, b1, b2, b3, _⟩ := HB.out
          rw [hnx] at a0
          rw [hny] at b0
          have Hq := Lib.hid (HQ1.out (by rw [hnx, hny]; decide))
          obtain ⟨q0, q1, q2, q3, _⟩ := HQ.out
          obtain ⟨r0, r1, r2, r3, _⟩ := HR.out
          clear HQ1 HQ2 hnx hny
          go_wp2_with fail
          refine (HNg.out _).mono ?_
          rintro e w5 ⟨rfl, hb5⟩
          dsimp only
          clear a0 a1 a2 a3 b0 b1 b2 b3 q0 q1 q2 q3 r0 r1 r2 r3
          have HA := Lib.hid (HA.out.call hb5)
          have HB := Lib.hid (HB.out.call hb5)
          have HC := Lib.hid (HC.out.call hb5)
          have HD := Lib.hid (HD.out.call hb5)
          have HQ := Lib.hid (HQ.out.call hb5)
          have HR := Lib.hid (HR.out.call hb5)
          have HZ := Lib.hid (below_call HZ.out HZ.out.size hb5)
          clear hb5
          obtain ⟨b0, b1, b2, b3, _⟩ := HB.out
          obtain ⟨q0, q1, q2, q3, _⟩ := HQ.out
          obtain ⟨r0, r1, r2, r3, _⟩ := HR.out
          rw [hny2] at b0
          go_upto_region 15 with (fail)
          clear b0 b1 b2 b3 q0 q1 q2 q3 r0 r1 r2 r3
          have HA := Lib.hid ((HA.out.far ⟨gq, 0, none⟩ (.bool KN.neg) k0).far ⟨gq, 1, none⟩ (.string KN.mag) k0)
          have HB := Lib.hid ((HB.out.far ⟨gq, 0, none⟩ (.bool KN.neg) k1).far ⟨gq, 1, none⟩ (.string KN.mag) k1)
          have HC := Lib.hid ((HC.out.far ⟨gq, 0, none⟩ (.bool KN.neg) k2).far ⟨gq, 1, none⟩ (.string KN.mag) k2)
          have HD := Lib.hid ((HD.out.far ⟨gq, 0, none⟩ (.bool KN.neg) k3).far ⟨gq, 1, none⟩ (.string KN.mag) k3)
          have HR := Lib.hid ((HR.out.far ⟨gq, 0, none⟩ (.bool KN.neg) k4).far ⟨gq, 1, none⟩ (.string KN.mag) k4)
          have HQ := Lib.hid (HQ.out.set2 (.bool KN.neg) (.string KN.mag))
          have HZ := Lib.hid ((HZ.out.setCell (p := ⟨gq, 0, none⟩) lq (.bool KN.neg)).setCell (p := ⟨gq, 1, none⟩) lq (.string KN.mag))
          generalize (w5.setCell ⟨gq, 0, none⟩ (.bool KN.neg)).setCell ⟨gq, 1, none⟩ (.string KN.mag) = U2 at *
          obtain ⟨b0, b1, b2, b3, _⟩ := HB.out
          rw [hny2] at b0
          obtain ⟨r0, r1, r2, r3, _⟩ := HR.out
          go_wp2_with fail
          refine (HN0.out _).mono ?_
          rintro e w6 ⟨rfl, hb6⟩
          dsimp only
          clear b0 b1 b2 b3 r0 r1 r2 r3
          have HC := Lib.hid (HC.out.call hb6)
          have HD := Lib.hid (HD.out.call hb6)
          have HQ := Lib.hid (HQ.out.call hb6)
          have HR := Lib.hid (HR.out.call hb6)
          have HZ := Lib.hid (below_call HZ.out HZ.out.size hb6)
          clear hb6 HA HB
          obtain ⟨r0, r1, r2, r3, _⟩ := HR.out
          go_upto_region 17 with (fail)
          clear r0 r1 r2 r3
          have HC := Lib.hid ((HC.out.far ⟨gq + 1, 0, none⟩ (.bool false) m2).far ⟨gq + 1, 1, none⟩ (.string ⟨#[]⟩) m2)
          have HD := Lib.hid ((HD.out.far ⟨gq + 1, 0, none⟩ (.bool false) m3).far ⟨gq + 1, 1, none⟩ (.string ⟨#[]⟩) m3)
          have HQ := Lib.hid ((HQ.out.far ⟨gq + 1, 0, none⟩ (.bool false) m4).far ⟨gq + 1, 1, none⟩ (.string ⟨#[]⟩) m4)
          have HR := Lib.hid (HR.out.set2 (.bool false) (.string ⟨#[]⟩))
          have HZ := Lib.hid ((HZ.out.setCell (p := ⟨gq + 1, 0, none⟩) lr (.bool false)).setCell (p := ⟨gq + 1, 1, none⟩) lr (.string ⟨#[]⟩))
          generalize (w6.setCell ⟨gq + 1, 0, none⟩ (.bool false)).setCell ⟨gq + 1, 1, none⟩ (.string ⟨#[]⟩) = U3 at *
          obtain ⟨c0, c1, c2, c3, _⟩ := HC.out
          obtain ⟨d0, d1, d2, d3, _⟩ := HD.out
          obtain ⟨q0, q1, q2, q3, _⟩ := HQ.out
          obtain ⟨r0, r1, r2, r3, _⟩ := HR.out
          have d2 : ¬ gx + 1 + 1 = gq := fun h => k2 h.symm
          have d3 : ¬ gx + 1 + 1 + 1 = gq := fun h => k3 h.symm
          have e2 : ¬ gx + 1 + 1 = gq + 1 := fun h => m2 h.symm
          have e3 : ¬ gx + 1 + 1 + 1 = gq + 1 := fun h => m3 h.symm
          have e4 : ¬ gx + 1 + 1 = gx + 1 + 1 + 1 := by omega
          have e5 : ¬ gx + 1 + 1 + 1 = gx + 1 + 1 := by omega
          have l2 : w.heap.size ≤ gx + 1 + 1 := by have := Hgx.out; omega
          have l3 : w.heap.size ≤ gx + 1 + 1 + 1 := by omega
          go_wp2_with fail
          go_region
          go_wp2_with fail
          refine bodyPost_ret (v := .tuple #[.agg #[.bool KN.neg, .string KN.mag], .agg #[.bool false, .string ⟨#[]⟩], .int .i64 0]) ?_ rfl ⟨by rw [← Hq.out], ?_⟩
          · simp [results, Try.results126, go_sem, c0, c1, d0, d1]
          · exact (below_set4 HZ.out l2 l2 l3 l3 _ _ _ _).drew
        · have hny2 := hny
          obtain ⟨a0, a1, a2, a3, _⟩ := HA.out
          obtain ⟨b0, b1, b2, b3, _⟩ := HB.out
          rw [hnx] at a0
          rw [hny] at b0
          have Hq := Lib.hid (HQ1.out (by rw [hnx, hny]; decide))
          obtain ⟨q0, q1, q2, q3, _⟩ := HQ.out
          obtain ⟨r0, r1, r2, r3, _⟩ := HR.out
          clear HQ1 HQ2 hnx hny
          go_wp2_with fail
          refine (HNg.out _).mono ?_
          rintro e w5 ⟨rfl, hb5⟩
          dsimp only
          clear a0 a1 a2 a3 b0 b1 b2 b3 q0 q1 q2 q3 r0 r1 r2 r3
          have HA := Lib.hid (HA.out.call hb5)
          have HB := Lib.hid (HB.out.call hb5)
          have HC := Lib.hid (HC.out.call hb5)
          have HD := Lib.hid (HD.out.call hb5)
          have HQ := Lib.hid (HQ.out.call hb5)
          have HR := Lib.hid (HR.out.call hb5)
          have HZ := Lib.hid (below_call HZ.out HZ.out.size hb5)
          clear hb5
          obtain ⟨b0, b1, b2, b3, _⟩ := HB.out
          obtain ⟨q0, q1, q2, q3, _⟩ := HQ.out
          obtain ⟨r0, r1, r2, r3, _⟩ := HR.out
          rw [hny2] at b0
          go_upto_region 15 with (fail)
          clear b0 b1 b2 b3 q0 q1 q2 q3 r0 r1 r2 r3
          have HA := Lib.hid ((HA.out.far ⟨gq, 0, none⟩ (.bool KN.neg) k0).far ⟨gq, 1, none⟩ (.string KN.mag) k0)
          have HB := Lib.hid ((HB.out.far ⟨gq, 0, none⟩ (.bool KN.neg) k1).far ⟨gq, 1, none⟩ (.string KN.mag) k1)
          have HC := Lib.hid ((HC.out.far ⟨gq, 0, none⟩ (.bool KN.neg) k2).far ⟨gq, 1, none⟩ (.string KN.mag) k2)
          have HD := Lib.hid ((HD.out.far ⟨gq, 0, none⟩ (.bool KN.neg) k3).far ⟨gq, 1, none⟩ (.string KN.mag) k3)
          have HR := Lib.hid ((HR.out.far ⟨gq, 0, none⟩ (.bool KN.neg) k4).far ⟨gq, 1, none⟩ (.string KN.mag) k4)
          have HQ := Lib.hid (HQ.out.set2 (.bool KN.neg) (.string KN.mag))
          have HZ := Lib.hid ((HZ.out.setCell (p := ⟨gq, 0, none⟩) lq (.bool KN.neg)).setCell (p := ⟨gq, 1, none⟩) lq (.string KN.mag))
          generalize (w5.setCell ⟨gq, 0, none⟩ (.bool KN.neg)).setCell ⟨gq, 1, none⟩ (.string KN.mag) = U2 at *
          obtain ⟨b0, b1, b2, b3, _⟩ := HB.out
          rw [hny2] at b0
          obtain ⟨c0, c1, c2, c3, _⟩ := HC.out
          obtain ⟨d0, d1, d2, d3, _⟩ := HD.out
          obtain ⟨q0, q1, q2, q3, _⟩ := HQ.out
          obtain ⟨r0, r1, r2, r3, _⟩ := HR.out
          have d2 : ¬ gx + 1 + 1 = gq := fun h => k2 h.symm
          have d3 : ¬ gx + 1 + 1 + 1 = gq := fun h => k3 h.symm
          have e2 : ¬ gx + 1 + 1 = gq + 1 := fun h => m2 h.symm
          have e3 : ¬ gx + 1 + 1 + 1 = gq + 1 := fun h => m3 h.symm
          have e4 : ¬ gx + 1 + 1 = gx + 1 + 1 + 1 := by omega
          have e5 : ¬ gx + 1 + 1 + 1 = gx + 1 + 1 := by omega
          have l2 : w.heap.size ≤ gx + 1 + 1 := by have := Hgx.out; omega
          have l3 : w.heap.size ≤ gx + 1 + 1 + 1 := by omega
          go_wp2_with fail
          go_region
          go_wp2_with fail
          refine bodyPost_ret (v := .tuple #[.agg #[.bool KN.neg, .string KN.mag], .agg #[.bool false, .string ⟨#[]⟩], .int .i64 0]) ?_ rfl ⟨by rw [← Hq.out], ?_⟩
          · simp [results, Try.results126, go_sem, c0, c1, d0, d1]
          · exact (below_set4 HZ.out l2 l2 l3 l3 _ _ _ _).drew
        · have hny2 := hny
          obtain ⟨a0, a1, a2, a3, _⟩ := HA.out
          obtain ⟨b0, b1, b2, b3, _⟩ := HB.out
          rw [hnx] at a0
          rw [hny] at b0
          have Hq := Lib.hid (HQ2.out (by rw [hnx, hny]))
          clear HQ1 HQ2 hnx hny
          obtain ⟨r0, r1, r2, r3, _⟩ := HR.out
          go_wp2_with fail
          refine (HN0.out _).mono ?_
          rintro e w6 ⟨rfl, hb6⟩
          dsimp only
          clear a0 a1 a2 a3 b0 b1 b2 b3 r0 r1 r2 r3
          have HC := Lib.hid (HC.out.call hb6)
          have HD := Lib.hid (HD.out.call hb6)
          have HQ := Lib.hid (HQ.out.call hb6)
          have HR := Lib.hid (HR.out.call hb6)
          have HZ := Lib.hid (below_call HZ.out HZ.out.size hb6)
          clear hb6 HA HB
          obtain ⟨r0, r1, r2, r3, _⟩ := HR.out
          go_upto_region 17 with (fail)
          clear r0 r1 r2 r3
          have HC := Lib.hid ((HC.out.far ⟨gq + 1, 0, none⟩ (.bool false) m2).far ⟨gq + 1, 1, none⟩ (.string ⟨#[]⟩) m2)
          have HD := Lib.hid ((HD.out.far ⟨gq + 1, 0, none⟩ (.bool false) m3).far ⟨gq + 1, 1, none⟩ (.string ⟨#[]⟩) m3)
          have HQ := Lib.hid ((HQ.out.far ⟨gq + 1, 0, none⟩ (.bool false) m4).far ⟨gq + 1, 1, none⟩ (.string ⟨#[]⟩) m4)
          have HR := Lib.hid (HR.out.set2 (.bool false) (.string ⟨#[]⟩))
          have HZ := Lib.hid ((HZ.out.setCell (p := ⟨gq + 1, 0, none⟩) lr (.bool false)).setCell (p := ⟨gq + 1, 1, none⟩) lr (.string ⟨#[]⟩))
          generalize (w6.setCell ⟨gq + 1, 0, none⟩ (.bool false)).setCell ⟨gq + 1, 1, none⟩ (.string ⟨#[]⟩) = U3 at *
          obtain ⟨c0, c1, c2, c3, _⟩ := HC.out
          obtain ⟨d0, d1, d2, d3, _⟩ := HD.out
          obtain ⟨q0, q1, q2, q3, _⟩ := HQ.out
          obtain ⟨r0, r1, r2, r3, _⟩ := HR.out
          have d2 : ¬ gx + 1 + 1 = gq := fun h => k2 h.symm
          have d3 : ¬ gx + 1 + 1 + 1 = gq := fun h => k3 h.symm
          have e2 : ¬ gx + 1 + 1 = gq + 1 := fun h => m2 h.symm
          have e3 : ¬ gx + 1 + 1 + 1 = gq + 1 := fun h => m3 h.symm
          have e4 : ¬ gx + 1 + 1 = gx + 1 + 1 + 1 := by omega
          have e5 : ¬ gx + 1 + 1 + 1 = gx + 1 + 1 := by omega
          have l2 : w.heap.size ≤ gx + 1 + 1 := by have := Hgx.out; omega
          have l3 : w.heap.size ≤ gx + 1 + 1 + 1 := by omega
          go_wp2_with fail
          go_region
          go_wp2_with fail
          refine bodyPost_ret (v := .tuple #[.agg #[.bool false, .string KM], .agg #[.bool false, .string ⟨#[]⟩], .int .i64 0]) ?_ rfl ⟨by rw [← Hq.out], ?_⟩
          · simp [results, Try.results126, go_sem, c0, c1, d0, d1]
          · exact (below_set4 HZ.out l2 l2 l3 l3 _ _ _ _).drew
end Go.Proofs.Ytcafeffgaokiaaa
