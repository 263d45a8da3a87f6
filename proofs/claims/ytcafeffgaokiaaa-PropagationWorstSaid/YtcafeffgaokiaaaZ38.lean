/- grooveref01.Compare at canonical numbers. grooveref01.Compare at any numbers. -/
import Derived.Test.YtcafeffgaokiaaaZ26
import Derived.Test.YtcafeffgaokiaaaZ36
import Derived.Test.YtcafeffgaokiaaaZ20
import Derived.Test.YtcafeffgaokiaaaZ34
namespace Go.Proofs.Ytcafeffgaokiaaa
open Go.RowKit
theorem cmpV_neg {x y : Int} (h1 : x < 0) (h2 : y < 0) : cmpV y.natAbs x.natAbs = cmpI x y := by
  unfold cmpV cmpI
  repeat' split
  all_goals omega
theorem cmpV_pos {x y : Int} (h1 : ¬ x < 0) (h2 : ¬ y < 0) : cmpV x.natAbs y.natAbs = cmpI x y := by
  unfold cmpV cmpI
  repeat' split
  all_goals omega
end Go.Proofs.Ytcafeffgaokiaaa
namespace Go.Proofs.Ytcafeffgaokiaaa
open Go.RowKit Go.Shelf
set_option maxRecDepth 100000 in
set_option maxHeartbeats 8000000 in
theorem refCmpZ_any (zx zy : ZI) (hzx : zx.mag.size ≤ 100000000) (hzy : zy.mag.size ≤ 100000000) (x y : Int) (hvx : valZ zx = x) (hvy : valZ zy = y) (w : World) :
    Calls Try.prog 123 #[.agg #[.bool zx.neg, .string zx.mag], .agg #[.bool zy.neg, .string zy.mag]] w fun e w' => e = .returned (.int .i64 (cmpI x y)) ∧ Below w.heap.size w w' := by
  have hcx := fun W => refCanonical_any zx hzx W
  have hcy := fun W => refCanonical_any zy hzy W
  rw [hvx] at hcx
  rw [hvy] at hcy
  have HCx := Lib.hid hcx
  have HCy := Lib.hid hcy
  have hk1 : ∀ W, Calls Try.prog 138 #[.string (canon x).mag, .string (canon y).mag] W fun e w' => e = .returned (.int .i64 (cmpV x.natAbs y.natAbs)) ∧ W = w' := fun W => refCmpMag_any x.natAbs y.natAbs W
  have hk2 : ∀ W, Calls Try.prog 138 #[.string (canon y).mag, .string (canon x).mag] W fun e w' => e = .returned (.int .i64 (cmpV y.natAbs x.natAbs)) ∧ W = w' := fun W => refCmpMag_any y.natAbs x.natAbs W
  have hnx := canon_neg x
  have hny := canon_neg y
  obtain ⟨r, hr⟩ : ∃ r, cmpI x y = r := ⟨_, rfl⟩
  rw [hr]
  have HR1 := Lib.hid (fun (h1 : x < 0) (h2 : ¬ y < 0) => show (-1 : Int) = r by rw [← hr]; unfold cmpI; rw [if_pos (by omega)])
  have HR2 := Lib.hid (fun (h1 : ¬ x < 0) (h2 : y < 0) => show (1 : Int) = r by rw [← hr]; unfold cmpI; rw [if_neg (by omega), if_pos (by omega)])
  have HR3 := Lib.hid (fun (h1 : x < 0) (h2 : y < 0) => (cmpV_neg h1 h2).trans hr)
  have HR4 := Lib.hid (fun (h1 : ¬ x < 0) (h2 : ¬ y < 0) => (cmpV_pos h1 h2).trans hr)
  generalize cmpV x.natAbs y.natAbs = c1 at *
  generalize cmpV y.natAbs x.natAbs = c2 at *
  generalize canon x = X at *
  generalize canon y = Y at *
  have Hk1 := Lib.hid hk1
  have Hk2 := Lib.hid hk2
  have Hnx := Lib.hid hnx
  have Hny := Lib.hid hny
  clear hcx hcy hk1 hk2 hr hzx hzy hvx hvy hnx hny
  go_enter Try.func123, Try.ntmps123
  go_upto_region 1 with (fail)
  obtain ⟨W0, hW, hA, hB, hb0, hs0⟩ := two_boxes w (.bool zx.neg) (.string zx.mag) (.bool zy.neg) (.string zy.mag) 48
  rw [hW]
  have Hbx := Lib.hid hA
  have Hby := Lib.hid hB
  have Hb0 := Lib.hid hb0
  clear hW hA hB hb0 hs0
  obtain ⟨gx, hgx⟩ : ∃ g, w.heap.size = g := ⟨_, rfl⟩
  rw [hgx] at Hbx Hby ⊢
  have n01 : gx ≠ gx + 1 := by omega
  have n10 : gx + 1 ≠ gx := by omega
  have n02 : gx ≠ gx + 1 + 1 := by omega
  have n12 : gx + 1 ≠ gx + 1 + 1 := by omega
  have l0 : w.heap.size ≤ gx := by omega
  have l1 : w.heap.size ≤ gx + 1 := by omega
  have Hgx := Lib.hid hgx
  clear hgx
  go_cut [6] (fun _ wx => Hid (BoxAt wx gx (.bool X.neg) (.string X.mag)) ∧ Hid (BoxAt wx (gx + 1) (.bool Y.neg) (.string Y.mag)) ∧ Hid (Below w.heap.size w wx))
  case first =>
    refine wp_region_held_drew (S := fun _ => True) (by kernel_rfl) trivial (fun _ => ?_)
    have A_q1 := Lib.hid (BoxAt.dr Hbx.out)
    have B_q1 := Lib.hid (BoxAt.dr Hby.out)
    have Z_q1 := Lib.hid (Hb0.out.drew)
    try simp only [Act.put, List.getElem_toArray, List.getElem_cons_zero, List.getElem_cons_succ, List.setIfInBounds_toArray, List.set_cons_zero, List.set_cons_succ]
    refine wpAnyH_ready (rs := [0, 2]) (by kernel_rfl) (by simp) ?_
    refine AllReadyH.cons rfl (fun K hK => ?_) (AllReadyH.cons rfl (fun K hK => ?_) AllReadyH.nil)
    · obtain ⟨z0, z1, _, _, _⟩ := A_q1.out
      go_simp
      refine hK.out _ _ trivial (fun _ => ?_)
      clear hK K z0 z1
      try simp only [Act.put, List.getElem_toArray, List.getElem_cons_zero, List.getElem_cons_succ, List.setIfInBounds_toArray, List.set_cons_zero, List.set_cons_succ]
      refine wpAnyH_ready (rs := [1, 2]) (by kernel_rfl) (by simp) ?_
      refine AllReadyH.cons rfl (fun K hK => ?_) (AllReadyH.cons rfl (fun K hK => ?_) AllReadyH.nil)
      · go_simp
        refine (HCx.out _).mono ?_
        rintro e wq2 ⟨rfl, hbc⟩
        have A_q2 := Lib.hid (A_q1.out.below hbc A_q1.out.2.2.2.2)
        have B_q2 := Lib.hid (B_q1.out.below hbc B_q1.out.2.2.2.2)
        have Z_q2 := Lib.hid (Z_q1.out.trans (hbc.mono Z_q1.out.size))
        dsimp only
        refine hK.out _ _ trivial (fun _ => ?_)
        clear hK K hbc
        try simp only [Act.put, List.getElem_toArray, List.getElem_cons_zero, List.getElem_cons_succ, List.setIfInBounds_toArray, List.set_cons_zero, List.set_cons_succ]
        refine wpAnyH_ready (rs := [2]) (by kernel_rfl) (by simp) ?_
        refine AllReadyH.cons rfl (fun K hK => ?_) AllReadyH.nil
        obtain ⟨z0, z1, _, _, _⟩ := B_q2.out
        go_simp
        refine hK.out _ _ trivial (fun _ => ?_)
        clear hK K z0 z1
        try simp only [Act.put, List.getElem_toArray, List.getElem_cons_zero, List.getElem_cons_succ, List.setIfInBounds_toArray, List.set_cons_zero, List.set_cons_succ]
        refine wpAnyH_ready (rs := [3]) (by kernel_rfl) (by simp) ?_
        refine AllReadyH.cons rfl (fun K hK => ?_) AllReadyH.nil
        go_simp
        refine (HCy.out _).mono ?_
        rintro e wq3 ⟨rfl, hbc⟩
        have A_q3 := Lib.hid (A_q2.out.below hbc A_q2.out.2.2.2.2)
        have B_q3 := Lib.hid (B_q2.out.below hbc B_q2.out.2.2.2.2)
        have Z_q3 := Lib.hid (Z_q2.out.trans (hbc.mono Z_q2.out.size))
        dsimp only
        refine hK.out _ _ trivial (fun _ => ?_)
        clear hK K hbc
        try simp only [Act.put, List.getElem_toArray, List.getElem_cons_zero, List.getElem_cons_succ, List.setIfInBounds_toArray, List.set_cons_zero, List.set_cons_succ]
        refine wpAnyH_ready (rs := [4]) (by kernel_rfl) (by simp) ?_
        refine AllReadyH.cons rfl (fun K hK => ?_) AllReadyH.nil
        obtain ⟨z0, z1, z2, z3, _⟩ := A_q3.out
        have A_q4 := Lib.hid (A_q3.out.set2 (.bool X.neg) (.string X.mag))
        have B_q4 := Lib.hid (((B_q3.out).far ⟨gx, 0, none⟩ (.bool X.neg) n01).far ⟨gx, 1, none⟩ (.string X.mag) n01)
        have Z_q4 := Lib.hid (((Z_q3.out).setCell (p := ⟨gx, 0, none⟩) l0 (.bool X.neg)).setCell (p := ⟨gx, 1, none⟩) l0 (.string X.mag))
        go_simp
        refine hK.out _ _ trivial (fun _ => ?_)
        clear hK K z0 z1 z2 z3
        try simp only [Act.put, List.getElem_toArray, List.getElem_cons_zero, List.getElem_cons_succ, List.setIfInBounds_toArray, List.set_cons_zero, List.set_cons_succ]
        refine wpAnyH_ready (rs := [5]) (by kernel_rfl) (by simp) ?_
        refine AllReadyH.cons rfl (fun K hK => ?_) AllReadyH.nil
        obtain ⟨z0, z1, z2, z3, _⟩ := B_q4.out
        have A_q5 := Lib.hid (((A_q4.out).far ⟨(gx + 1), 0, none⟩ (.bool Y.neg) n10).far ⟨(gx + 1), 1, none⟩ (.string Y.mag) n10)
        have B_q5 := Lib.hid (B_q4.out.set2 (.bool Y.neg) (.string Y.mag))
        have Z_q5 := Lib.hid (((Z_q4.out).setCell (p := ⟨(gx + 1), 0, none⟩) l1 (.bool Y.neg)).setCell (p := ⟨(gx + 1), 1, none⟩) l1 (.string Y.mag))
        go_simp
        refine hK.out _ _ trivial (fun _ => ?_)
        clear hK K z0 z1 z2 z3
        refine wpAnyH_done (by kernel_rfl) ?_ _
        go_wp2_with fail
        go_meet
        exact ⟨A_q5, B_q5, Z_q5⟩
      · obtain ⟨z0, z1, _, _, _⟩ := B_q1.out
        go_simp
        refine hK.out _ _ trivial (fun _ => ?_)
        clear hK K z0 z1
        try simp only [Act.put, List.getElem_toArray, List.getElem_cons_zero, List.getElem_cons_succ, List.setIfInBounds_toArray, List.set_cons_zero, List.set_cons_succ]
        refine wpAnyH_ready (rs := [1]) (by kernel_rfl) (by simp) ?_
        refine AllReadyH.cons rfl (fun K hK => ?_) AllReadyH.nil
        go_simp
        refine (HCx.out _).mono ?_
        rintro e wq6 ⟨rfl, hbc⟩
        have A_q6 := Lib.hid (A_q1.out.below hbc A_q1.out.2.2.2.2)
        have B_q6 := Lib.hid (B_q1.out.below hbc B_q1.out.2.2.2.2)
        have Z_q6 := Lib.hid (Z_q1.out.trans (hbc.mono Z_q1.out.size))
        dsimp only
        refine hK.out _ _ trivial (fun _ => ?_)
        clear hK K hbc
        try simp only [Act.put, List.getElem_toArray, List.getElem_cons_zero, List.getElem_cons_succ, List.setIfInBounds_toArray, List.set_cons_zero, List.set_cons_succ]
        refine wpAnyH_ready (rs := [3]) (by kernel_rfl) (by simp) ?_
        refine AllReadyH.cons rfl (fun K hK => ?_) AllReadyH.nil
        go_simp
        refine (HCy.out _).mono ?_
        rintro e wq7 ⟨rfl, hbc⟩
        have A_q7 := Lib.hid (A_q6.out.below hbc A_q6.out.2.2.2.2)
        have B_q7 := Lib.hid (B_q6.out.below hbc B_q6.out.2.2.2.2)
        have Z_q7 := Lib.hid (Z_q6.out.trans (hbc.mono Z_q6.out.size))
        dsimp only
        refine hK.out _ _ trivial (fun _ => ?_)
        clear hK K hbc
        try simp only [Act.put, List.getElem_toArray, List.getElem_cons_zero, List.getElem_cons_succ, List.setIfInBounds_toArray, List.set_cons_zero, List.set_cons_succ]
        refine wpAnyH_ready (rs := [4]) (by kernel_rfl) (by simp) ?_
        refine AllReadyH.cons rfl (fun K hK => ?_) AllReadyH.nil
        obtain ⟨z0, z1, z2, z3, _⟩ := A_q7.out
        have A_q8 := Lib.hid (A_q7.out.set2 (.bool X.neg) (.string X.mag))
        have B_q8 := Lib.hid (((B_q7.out).far ⟨gx, 0, none⟩ (.bool X.neg) n01).far ⟨gx, 1, none⟩ (.string X.mag) n01)
        have Z_q8 := Lib.hid (((Z_q7.out).setCell (p := ⟨gx, 0, none⟩) l0 (.bool X.neg)).setCell (p := ⟨gx, 1, none⟩) l0 (.string X.mag))
        go_simp
        refine hK.out _ _ trivial (fun _ => ?_)
        clear hK K z0 z1 z2 z3
        try simp only [Act.put, List.getElem_toArray, List.getElem_cons_zero, List.getElem_cons_succ, List.setIfInBounds_toArray, List.set_cons_zero, List.set_cons_succ]
        refine wpAnyH_ready (rs := [5]) (by kernel_rfl) (by simp) ?_
        refine AllReadyH.cons rfl (fun K hK => ?_) AllReadyH.nil
        obtain ⟨z0, z1, z2, z3, _⟩ := B_q8.out
        have A_q9 := Lib.hid (((A_q8.out).far ⟨(gx + 1), 0, none⟩ (.bool Y.neg) n10).far ⟨(gx + 1), 1, none⟩ (.string Y.mag) n10)
        have B_q9 := Lib.hid (B_q8.out.set2 (.bool Y.neg) (.string Y.mag))
        have Z_q9 := Lib.hid (((Z_q8.out).setCell (p := ⟨(gx + 1), 0, none⟩) l1 (.bool Y.neg)).setCell (p := ⟨(gx + 1), 1, none⟩) l1 (.string Y.mag))
        go_simp
        refine hK.out _ _ trivial (fun _ => ?_)
        clear hK K z0 z1 z2 z3
        refine wpAnyH_done (by kernel_rfl) ?_ _
        go_wp2_with fail
        go_meet
        exact ⟨A_q9, B_q9, Z_q9⟩
    · obtain ⟨z0, z1, _, _, _⟩ := B_q1.out
      go_simp
      refine hK.out _ _ trivial (fun _ => ?_)
      clear hK K z0 z1
      try simp only [Act.put, List.getElem_toArray, List.getElem_cons_zero, List.getElem_cons_succ, List.setIfInBounds_toArray, List.set_cons_zero, List.set_cons_succ]
      refine wpAnyH_ready (rs := [0]) (by kernel_rfl) (by simp) ?_
      refine AllReadyH.cons rfl (fun K hK => ?_) AllReadyH.nil
      obtain ⟨z0, z1, _, _, _⟩ := A_q1.out
      go_simp
      refine hK.out _ _ trivial (fun _ => ?_)
      clear hK K z0 z1
      try simp only [Act.put, List.getElem_toArray, List.getElem_cons_zero, List.getElem_cons_succ, List.setIfInBounds_toArray, List.set_cons_zero, List.set_cons_succ]
      refine wpAnyH_ready (rs := [1]) (by kernel_rfl) (by simp) ?_
      refine AllReadyH.cons rfl (fun K hK => ?_) AllReadyH.nil
      go_simp
      refine (HCx.out _).mono ?_
      rintro e wq10 ⟨rfl, hbc⟩
      have A_q10 := Lib.hid (A_q1.out.below hbc A_q1.out.2.2.2.2)
      have B_q10 := Lib.hid (B_q1.out.below hbc B_q1.out.2.2.2.2)
      have Z_q10 := Lib.hid (Z_q1.out.trans (hbc.mono Z_q1.out.size))
      dsimp only
      refine hK.out _ _ trivial (fun _ => ?_)
      clear hK K hbc
      try simp only [Act.put, List.getElem_toArray, List.getElem_cons_zero, List.getElem_cons_succ, List.setIfInBounds_toArray, List.set_cons_zero, List.set_cons_succ]
      refine wpAnyH_ready (rs := [3]) (by kernel_rfl) (by simp) ?_
      refine AllReadyH.cons rfl (fun K hK => ?_) AllReadyH.nil
      go_simp
      refine (HCy.out _).mono ?_
      rintro e wq11 ⟨rfl, hbc⟩
      have A_q11 := Lib.hid (A_q10.out.below hbc A_q10.out.2.2.2.2)
      have B_q11 := Lib.hid (B_q10.out.below hbc B_q10.out.2.2.2.2)
      have Z_q11 := Lib.hid (Z_q10.out.trans (hbc.mono Z_q10.out.size))
      dsimp only
      refine hK.out _ _ trivial (fun _ => ?_)
      clear hK K hbc
      try simp only [Act.put, List.getElem_toArray, List.getElem_cons_zero, List.getElem_cons_succ, List.setIfInBounds_toArray, List.set_cons_zero, List.set_cons_succ]
      refine wpAnyH_ready (rs := [4]) (by kernel_rfl) (by simp) ?_
      refine AllReadyH.cons rfl (fun K hK => ?_) AllReadyH.nil
      obtain ⟨z0, z1, z2, z3, _⟩ := A_q11.out
      have A_q12 := Lib.hid (A_q11.out.set2 (.bool X.neg) (.string X.mag))
      have B_q12 := Lib.hid (((B_q11.out).far ⟨gx, 0, none⟩ (.bool X.neg) n01).far ⟨gx, 1, none⟩ (.string X.mag) n01)
      have Z_q12 := Lib.hid (((Z_q11.out).setCell (p := ⟨gx, 0, none⟩) l0 (.bool X.neg)).setCell (p := ⟨gx, 1, none⟩) l0 (.string X.mag))
      go_simp
      refine hK.out _ _ trivial (fun _ => ?_)
      clear hK K z0 z1 z2 z3
      try simp only [Act.put, List.getElem_toArray, List.getElem_cons_zero, List.getElem_cons_succ, List.setIfInBounds_toArray, List.set_cons_zero, List.set_cons_succ]
      refine wpAnyH_ready (rs := [5]) (by kernel_rfl) (by simp) ?_
      refine AllReadyH.cons rfl (fun K hK => ?_) AllReadyH.nil
      obtain ⟨z0, z1, z2, z3, _⟩ := B_q12.out
      have A_q13 := Lib.hid (((A_q12.out).far ⟨(gx + 1), 0, none⟩ (.bool Y.neg) n10).far ⟨(gx + 1), 1, none⟩ (.string Y.mag) n10)
      have B_q13 := Lib.hid (B_q12.out.set2 (.bool Y.neg) (.string Y.mag))
      have Z_q13 := Lib.hid (((Z_q12.out).setCell (p := ⟨(gx + 1), 0, none⟩) l1 (.bool Y.neg)).setCell (p := ⟨(gx + 1), 1, none⟩) l1 (.string Y.mag))
      go_simp
      refine hK.out _ _ trivial (fun _ => ?_)
      clear hK K z0 z1 z2 z3
      refine wpAnyH_done (by kernel_rfl) ?_ _
      go_wp2_with fail
      go_meet
      exact ⟨A_q13, B_q13, Z_q13⟩
  obtain ⟨Hbx, Hby, Hb⟩ := hcut
  clear n01 n10 n02 n12 l0 l1
  have hgx := Hgx.out
  generalize wc = V at *
  clear HCx HCy Hb0
  by_cases h1 : x < 0
  · by_cases h2 : y < 0
    · have HR := Lib.hid (HR3.out h1 h2)
      have e1 := Hnx.out
      have e2 := Hny.out
      rw [decide_eq_true h1] at e1
      rw [decide_eq_true h2] at e2
      rw [e1] at Hbx
      rw [e2] at Hby
      clear HR1 HR2 HR3 HR4 e1 e2 h1 h2
      obtain ⟨x0, x1, _, _, _⟩ := Hbx.out
      obtain ⟨y0, y1, _, _, _⟩ := Hby.out
      go_wp2_with (go_at_call 138; go_fit (Hk2.out _); rintro e wk ⟨rfl, rfl⟩)
      go_ret
      exact ⟨by rw [← HR.out]; rfl, Hb.out⟩
    · have HR := Lib.hid (HR1.out h1 h2)
      have e1 := Hnx.out
      have e2 := Hny.out
      rw [decide_eq_true h1] at e1
      rw [decide_eq_false h2] at e2
      rw [e1] at Hbx
      rw [e2] at Hby
      clear HR1 HR2 HR3 HR4 e1 e2 h1 h2
      obtain ⟨x0, x1, _, _, _⟩ := Hbx.out
      obtain ⟨y0, y1, _, _, _⟩ := Hby.out
      go_wp2
      go_ret
      exact ⟨by rw [← HR.out]; rfl, Hb.out⟩
  · by_cases h2 : y < 0
    · have HR := Lib.hid (HR2.out h1 h2)
      have e1 := Hnx.out
      have e2 := Hny.out
      rw [decide_eq_false h1] at e1
      rw [decide_eq_true h2] at e2
      rw [e1] at Hbx
      rw [e2] at Hby
      clear HR1 HR2 HR3 HR4 e1 e2 h1 h2
      obtain ⟨x0, x1, _, _, _⟩ := Hbx.out
      obtain ⟨y0, y1, _, _, _⟩ := Hby.out
      go_wp2
      go_ret
      exact ⟨by rw [← HR.out]; rfl, Hb.out⟩
    · have HR := Lib.hid (HR4.out h1 h2)
      have e1 := Hnx.out
      have e2 := Hny.out
      rw [decide_eq_false h1] at e1
      rw [decide_eq_false h2] at e2
      rw [e1] at Hbx
      rw [e2] at Hby
      clear HR1 HR2 HR3 HR4 e1 e2 h1 h2
      obtain ⟨x0, x1, _, _, _⟩ := Hbx.out
      obtain ⟨y0, y1, _, _, _⟩ := Hby.out
      go_wp2_with (go_at_call 138; go_fit (Hk1.out _); rintro e wk ⟨rfl, rfl⟩)
      go_ret
      exact ⟨by rw [← HR.out]; rfl, Hb.out⟩
end Go.Proofs.Ytcafeffgaokiaaa
