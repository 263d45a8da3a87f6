/- rational.Compare of two canonical numbers. -/
import Derived.Test.YtcafeffgaokiaaaJ39
import Derived.Test.YtcafeffgaokiaaaJ41
import Derived.Test.YtcafeffgaokiaaaJ20
import Derived.OrdersHeld
import Derived.Deep.RegionHeld
namespace Go.Proofs.Ytcafeffgaokiaaa
open Go.RowKit
theorem two_box44 (w : World) (a b c d a' b' c' d' : Value) (t u : TypeId) : ∃ V, ((w.alloc (.cells #[a, b, c, d] t)).alloc (.cells #[a', b', c', d'] u)) = V ∧ Box4 V w.heap.size a b c d ∧ Box4 V (w.heap.size + 1) a' b' c' d' ∧ Below w.heap.size w V := by
  have hA := Box4.new w a b c d t
  have hB := Box4.new (w.alloc (.cells #[a, b, c, d] t)) a' b' c' d' u
  rw [World.size_alloc] at hB
  refine ⟨_, rfl, ?_, hB, ((Below.refl w.heap.size w).alloc (Nat.le_refl _) _).alloc (by simp) _⟩
  exact hA.below ((Below.refl (w.heap.size + 1) (w.alloc (.cells #[a, b, c, d] t))).alloc (by simp) _) (by omega)
set_option maxRecDepth 100000 in
set_option maxHeartbeats 8000000 in
theorem cmpRR_any (P Q R S : Int) {e : Nat} (hq : Qc P Q) (hr : Qc R S) (hP : Bn P e) (hQ : Bn Q e) (hR : Bn R e) (hS : Bn S e) (he : e ≤ 1000000) (w : World) :
    Calls Try.prog 26 #[ratV P Q, ratV R S] w fun en w' => en = .returned (.int .i64 (cmpI (P * S) (R * Q))) ∧ Below w.heap.size w w' := by
  have h1 := fun W => canonR (canon P) (canon Q) (hP.size _ (by omega)) (hQ.size _ (by omega)) W
  have h2 := fun W => canonR (canon R) (canon S) (hR.size _ (by omega)) (hS.size _ (by omega)) W
  simp only [valZ_canon] at h1 h2
  rw [(rlo_self hq).1, (rlo_self hq).2] at h1
  rw [(rlo_self hr).1, (rlo_self hr).2] at h2
  have m1 := fun W => mulc_any P S (hP.size _ (by omega)) (hS.size _ (by omega)) W
  have m2 := fun W => mulc_any R Q (hR.size _ (by omega)) (hQ.size _ (by omega)) W
  have c1 := fun W => cmp_any (canon (P * S)) (canon (R * Q)) ((hP.mul hS).size _ (by omega)) ((hR.mul hQ).size _ (by omega)) W
  simp only [valZ_canon] at c1
  have H1 := Lib.hid h1
  have H2 := Lib.hid h2
  have M1 := Lib.hid m1
  have M2 := Lib.hid m2
  have C1 := Lib.hid c1
  unfold RetR at H1 H2
  unfold ratV at H1 H2 ⊢
  generalize cmpI (P * S) (R * Q) = res at *
  generalize canon (P * S) = C5 at *
  generalize canon (R * Q) = C6 at *
  generalize canon P = CP at *
  generalize canon Q = CQ at *
  generalize canon R = C0 at *
  generalize canon S = C9 at *
  clear hq hr hP hQ hR hS he h1 h2 m1 m2 c1
  go_enter Try.func26, Try.ntmps26
  go_upto_region 1 with (fail)
  obtain ⟨X, hX, hA, hB, hb⟩ := two_box44 w (.bool CP.neg) (.string CP.mag) (.bool CQ.neg) (.string CQ.mag) (.bool C0.neg) (.string C0.mag) (.bool C9.neg) (.string C9.mag) 50 50
  rw [hX]
  obtain ⟨ga, hga⟩ : ∃ k, w.heap.size = k := ⟨_, rfl⟩
  obtain ⟨gb, hgb⟩ : ∃ k, w.heap.size + 1 = k := ⟨_, rfl⟩
  have le1 : w.heap.size ≤ ga := by omega
  have le2 : w.heap.size ≤ gb := by omega
  have ab : ga ≠ gb := by omega
  have ba : gb ≠ ga := by omega
  have HA := Lib.hid hA
  have HB := Lib.hid hB
  have Hb := Lib.hid hb
  rw [hga] at HA
  rw [hgb] at HB
  rw [hgb, hga]
  clear hga hgb hX hA hB hb
  refine wp_region_held_drew (S := fun _ => True) (by kernel_rfl) trivial (fun _ => ?_)
  have A_q1 := Lib.hid (Box4.drw HA.out)
  have B_q1 := Lib.hid (Box4.drw HB.out)
  have Z_q1 := Lib.hid (Hb.out.drew)
  try simp only [Act.put, List.getElem_toArray, List.getElem_cons_zero, List.getElem_cons_succ, List.setIfInBounds_toArray, List.set_cons_zero, List.set_cons_succ]
  refine wpAnyH_ready (rs := [0, 2]) (by kernel_rfl) (by simp) ?_
  refine AllReadyH.cons rfl (fun K hK => ?_) (AllReadyH.cons rfl (fun K hK => ?_) AllReadyH.nil)
  · obtain ⟨z0, z1, z2, z3, _, _⟩ := A_q1.out
    go_simp
    refine hK.out _ _ trivial (fun _ => ?_)
    clear hK K z0 z1 z2 z3
    try simp only [Act.put, List.getElem_toArray, List.getElem_cons_zero, List.getElem_cons_succ, List.setIfInBounds_toArray, List.set_cons_zero, List.set_cons_succ]
    refine wpAnyH_ready (rs := [1, 2]) (by kernel_rfl) (by simp) ?_
    refine AllReadyH.cons rfl (fun K hK => ?_) (AllReadyH.cons rfl (fun K hK => ?_) AllReadyH.nil)
    · go_simp
      refine (H1.out _).mono ?_
      rintro e wq2 ⟨rfl, hbc⟩
      have A_q2 := Lib.hid (A_q1.out.below hbc A_q1.out.2.2.2.2.2)
      have B_q2 := Lib.hid (B_q1.out.below hbc B_q1.out.2.2.2.2.2)
      have Z_q2 := Lib.hid (Z_q1.out.trans (hbc.mono Z_q1.out.size))
      dsimp only
      refine hK.out _ _ trivial (fun _ => ?_)
      clear hK K hbc
      try simp only [Act.put, List.getElem_toArray, List.getElem_cons_zero, List.getElem_cons_succ, List.setIfInBounds_toArray, List.set_cons_zero, List.set_cons_succ]
      refine wpAnyH_ready (rs := [2]) (by kernel_rfl) (by simp) ?_
      refine AllReadyH.cons rfl (fun K hK => ?_) AllReadyH.nil
      obtain ⟨z0, z1, z2, z3, _, _⟩ := B_q2.out
      go_simp
      refine hK.out _ _ trivial (fun _ => ?_)
      clear hK K z0 z1 z2 z3
      try simp only [Act.put, List.getElem_toArray, List.getElem_cons_zero, List.getElem_cons_succ, List.setIfInBounds_toArray, List.set_cons_zero, List.set_cons_succ]
      refine wpAnyH_ready (rs := [3]) (by kernel_rfl) (by simp) ?_
      refine AllReadyH.cons rfl (fun K hK => ?_) AllReadyH.nil
      go_simp
      refine (H2.out _).mono ?_
      rintro e wq3 ⟨rfl, hbc⟩
      have A_q3 := Lib.hid (A_q2.out.below hbc A_q2.out.2.2.2.2.2)
      have B_q3 := Lib.hid (B_q2.out.below hbc B_q2.out.2.2.2.2.2)
      have Z_q3 := Lib.hid (Z_q2.out.trans (hbc.mono Z_q2.out.size))
      dsimp only
      refine hK.out _ _ trivial (fun _ => ?_)
      clear hK K hbc
      try simp only [Act.put, List.getElem_toArray, List.getElem_cons_zero, List.getElem_cons_succ, List.setIfInBounds_toArray, List.set_cons_zero, List.set_cons_succ]
      refine wpAnyH_ready (rs := [4]) (by kernel_rfl) (by simp) ?_
      refine AllReadyH.cons rfl (fun K hK => ?_) AllReadyH.nil
      obtain ⟨z0, z1, z2, z3, zf, _⟩ := A_q3.out
      have zf0 := zf 0
      have zf1 := zf 1
      have zf2 := zf 2
      have zf3 := zf 3
      have A_q4 := Lib.hid (A_q3.out.set4 (.bool CP.neg) (.string CP.mag) (.bool CQ.neg) (.string CQ.mag))
      have B_q4 := Lib.hid (((((B_q3.out).far ⟨ga, 0, none⟩ (.bool CP.neg) ab).far ⟨ga, 1, none⟩ (.string CP.mag) ab).far ⟨ga, 2, none⟩ (.bool CQ.neg) ab).far ⟨ga, 3, none⟩ (.string CQ.mag) ab)
      have Z_q4 := Lib.hid (((((Z_q3.out).setCell (p := ⟨ga, 0, none⟩) le1 (.bool CP.neg)).setCell (p := ⟨ga, 1, none⟩) le1 (.string CP.mag)).setCell (p := ⟨ga, 2, none⟩) le1 (.bool CQ.neg)).setCell (p := ⟨ga, 3, none⟩) le1 (.string CQ.mag))
      go_simp
      refine hK.out _ _ trivial (fun _ => ?_)
      clear hK K z0 z1 z2 z3 zf zf0 zf1 zf2 zf3
      try simp only [Act.put, List.getElem_toArray, List.getElem_cons_zero, List.getElem_cons_succ, List.setIfInBounds_toArray, List.set_cons_zero, List.set_cons_succ]
      refine wpAnyH_ready (rs := [5]) (by kernel_rfl) (by simp) ?_
      refine AllReadyH.cons rfl (fun K hK => ?_) AllReadyH.nil
      obtain ⟨z0, z1, z2, z3, zf, _⟩ := B_q4.out
      have zf0 := zf 0
      have zf1 := zf 1
      have zf2 := zf 2
      have zf3 := zf 3
      have A_q5 := Lib.hid (((((A_q4.out).far ⟨gb, 0, none⟩ (.bool C0.neg) ba).far ⟨gb, 1, none⟩ (.string C0.mag) ba).far ⟨gb, 2, none⟩ (.bool C9.neg) ba).far ⟨gb, 3, none⟩ (.string C9.mag) ba)
      have B_q5 := Lib.hid (B_q4.out.set4 (.bool C0.neg) (.string C0.mag) (.bool C9.neg) (.string C9.mag))
      have Z_q5 := Lib.hid (((((Z_q4.out).setCell (p := ⟨gb, 0, none⟩) le2 (.bool C0.neg)).setCell (p := ⟨gb, 1, none⟩) le2 (.string C0.mag)).setCell (p := ⟨gb, 2, none⟩) le2 (.bool C9.neg)).setCell (p := ⟨gb, 3, none⟩) le2 (.string C9.mag))
      go_simp
      refine hK.out _ _ trivial (fun _ => ?_)
      clear hK K z0 z1 z2 z3 zf zf0 zf1 zf2 zf3
      refine wpAnyH_done (by kernel_rfl) ?_ _
      go_upto_region 2 with (fail)
      obtain ⟨SS, hSe⟩ : ∃ SS : World → Prop, SS = fun W => Box4 W ga (.bool CP.neg) (.string CP.mag) (.bool CQ.neg) (.string CQ.mag) ∧ Box4 W gb (.bool C0.neg) (.string C0.mag) (.bool C9.neg) (.string C9.mag) := ⟨_, rfl⟩
      have hSm : Hid (∀ W, (Box4 W ga (.bool CP.neg) (.string CP.mag) (.bool CQ.neg) (.string CQ.mag) ∧ Box4 W gb (.bool C0.neg) (.string C0.mag) (.bool C9.neg) (.string C9.mag)) → SS W) := Lib.hid (fun W hW => by rw [hSe]; exact hW)
      refine wp_region_held_drew (S := SS) (by kernel_rfl) (hSm.out _ ⟨Box4.drw A_q5.out, Box4.drw B_q5.out⟩) (fun _ => ?_)
      have A_q151 := Lib.hid (Box4.drw A_q5.out)
      have B_q151 := Lib.hid (Box4.drw B_q5.out)
      have Z_q151 := Lib.hid (Z_q5.out.drew)
      refine wpAnyH_take (i := 0) (v := ?_) rfl (by kernel_rfl) (by kernel_rfl) (by kernel_rfl) (fun _ _ _ h => h) (Or.inl ⟨by rfl, ?_⟩) (hSm.out _ ⟨A_q151.out, B_q151.out⟩) ?_
      rotate_left 1
      next => intro w hSw; rw [hSe] at hSw; obtain ⟨⟨u00, u01, u02, u03, _, _⟩, ⟨u10, u11, u12, u13, _, _⟩⟩ := hSw; go_simp; try with_reducible rfl
      try simp only [Act.put, List.getElem_toArray, List.getElem_cons_zero, List.getElem_cons_succ, List.setIfInBounds_toArray, List.set_cons_zero, List.set_cons_succ]
      refine wpAnyH_take (i := 1) (v := ?_) rfl (by kernel_rfl) (by kernel_rfl) (by kernel_rfl) (fun _ _ _ h => h) (Or.inl ⟨by rfl, ?_⟩) (hSm.out _ ⟨A_q151.out, B_q151.out⟩) ?_
      rotate_left 1
      next => intro w hSw; rw [hSe] at hSw; obtain ⟨⟨u00, u01, u02, u03, _, _⟩, ⟨u10, u11, u12, u13, _, _⟩⟩ := hSw; go_simp; try with_reducible rfl
      try simp only [Act.put, List.getElem_toArray, List.getElem_cons_zero, List.getElem_cons_succ, List.setIfInBounds_toArray, List.set_cons_zero, List.set_cons_succ]
      refine wpAnyH_take (i := 2) (v := ?_) rfl (by kernel_rfl) (by kernel_rfl) (by kernel_rfl) (fun _ _ _ h => h) (Or.inl ⟨by rfl, ?_⟩) (hSm.out _ ⟨A_q151.out, B_q151.out⟩) ?_
      rotate_left 1
      next => intro w hSw; rw [hSe] at hSw; obtain ⟨⟨u00, u01, u02, u03, _, _⟩, ⟨u10, u11, u12, u13, _, _⟩⟩ := hSw; go_simp; try with_reducible rfl
      try simp only [Act.put, List.getElem_toArray, List.getElem_cons_zero, List.getElem_cons_succ, List.setIfInBounds_toArray, List.set_cons_zero, List.set_cons_succ]
      refine wpAnyH_take (i := 3) (v := ?_) rfl (by kernel_rfl) (by kernel_rfl) (by kernel_rfl) (fun _ _ _ h => h) (Or.inl ⟨by rfl, ?_⟩) (hSm.out _ ⟨A_q151.out, B_q151.out⟩) ?_
      rotate_left 1
      next => intro w hSw; rw [hSe] at hSw; obtain ⟨⟨u00, u01, u02, u03, _, _⟩, ⟨u10, u11, u12, u13, _, _⟩⟩ := hSw; go_simp; try with_reducible rfl
      try simp only [Act.put, List.getElem_toArray, List.getElem_cons_zero, List.getElem_cons_succ, List.setIfInBounds_toArray, List.set_cons_zero, List.set_cons_succ]
      refine wpAnyH_take (i := 5) (v := ?_) rfl (by kernel_rfl) (by kernel_rfl) (by kernel_rfl) (fun _ _ _ h => h) (Or.inl ⟨by rfl, ?_⟩) (hSm.out _ ⟨A_q151.out, B_q151.out⟩) ?_
      rotate_left 1
      next => intro w hSw; rw [hSe] at hSw; obtain ⟨⟨u00, u01, u02, u03, _, _⟩, ⟨u10, u11, u12, u13, _, _⟩⟩ := hSw; go_simp; try with_reducible rfl
      try simp only [Act.put, List.getElem_toArray, List.getElem_cons_zero, List.getElem_cons_succ, List.setIfInBounds_toArray, List.set_cons_zero, List.set_cons_succ]
      refine wpAnyH_take (i := 6) (v := ?_) rfl (by kernel_rfl) (by kernel_rfl) (by kernel_rfl) (fun _ _ _ h => h) (Or.inl ⟨by rfl, ?_⟩) (hSm.out _ ⟨A_q151.out, B_q151.out⟩) ?_
      rotate_left 1
      next => intro w hSw; rw [hSe] at hSw; obtain ⟨⟨u00, u01, u02, u03, _, _⟩, ⟨u10, u11, u12, u13, _, _⟩⟩ := hSw; go_simp; try with_reducible rfl
      try simp only [Act.put, List.getElem_toArray, List.getElem_cons_zero, List.getElem_cons_succ, List.setIfInBounds_toArray, List.set_cons_zero, List.set_cons_succ]
      refine wpAnyH_take (i := 7) (v := ?_) rfl (by kernel_rfl) (by kernel_rfl) (by kernel_rfl) (fun _ _ _ h => h) (Or.inl ⟨by rfl, ?_⟩) (hSm.out _ ⟨A_q151.out, B_q151.out⟩) ?_
      rotate_left 1
      next => intro w hSw; rw [hSe] at hSw; obtain ⟨⟨u00, u01, u02, u03, _, _⟩, ⟨u10, u11, u12, u13, _, _⟩⟩ := hSw; go_simp; try with_reducible rfl
      try simp only [Act.put, List.getElem_toArray, List.getElem_cons_zero, List.getElem_cons_succ, List.setIfInBounds_toArray, List.set_cons_zero, List.set_cons_succ]
      refine wpAnyH_take (i := 8) (v := ?_) rfl (by kernel_rfl) (by kernel_rfl) (by kernel_rfl) (fun _ _ _ h => h) (Or.inl ⟨by rfl, ?_⟩) (hSm.out _ ⟨A_q151.out, B_q151.out⟩) ?_
      rotate_left 1
      next => intro w hSw; rw [hSe] at hSw; obtain ⟨⟨u00, u01, u02, u03, _, _⟩, ⟨u10, u11, u12, u13, _, _⟩⟩ := hSw; go_simp; try with_reducible rfl
      try simp only [Act.put, List.getElem_toArray, List.getElem_cons_zero, List.getElem_cons_succ, List.setIfInBounds_toArray, List.set_cons_zero, List.set_cons_succ]
      try simp only [Act.put, List.getElem_toArray, List.getElem_cons_zero, List.getElem_cons_succ, List.setIfInBounds_toArray, List.set_cons_zero, List.set_cons_succ]
      refine wpAnyH_ready (rs := [4]) (by kernel_rfl) (by simp) ?_
      refine AllReadyH.cons rfl (fun K hK => ?_) AllReadyH.nil
      go_simp
      refine (M1.out _).mono ?_
      rintro e wq152 ⟨rfl, hbc⟩
      have A_q152 := Lib.hid (A_q151.out.below hbc A_q151.out.2.2.2.2.2)
      have B_q152 := Lib.hid (B_q151.out.below hbc B_q151.out.2.2.2.2.2)
      have Z_q152 := Lib.hid (Z_q151.out.trans (hbc.mono Z_q151.out.size))
      dsimp only
      refine hK.out _ _ (hSm.out _ ⟨A_q152.out, B_q152.out⟩) (fun _ => ?_)
      clear hK K hbc
      try simp only [Act.put, List.getElem_toArray, List.getElem_cons_zero, List.getElem_cons_succ, List.setIfInBounds_toArray, List.set_cons_zero, List.set_cons_succ]
      refine wpAnyH_ready (rs := [9]) (by kernel_rfl) (by simp) ?_
      refine AllReadyH.cons rfl (fun K hK => ?_) AllReadyH.nil
      go_simp
      refine (M2.out _).mono ?_
      rintro e wq153 ⟨rfl, hbc⟩
      have A_q153 := Lib.hid (A_q152.out.below hbc A_q152.out.2.2.2.2.2)
      have B_q153 := Lib.hid (B_q152.out.below hbc B_q152.out.2.2.2.2.2)
      have Z_q153 := Lib.hid (Z_q152.out.trans (hbc.mono Z_q152.out.size))
      dsimp only
      refine hK.out _ _ (hSm.out _ ⟨A_q153.out, B_q153.out⟩) (fun _ => ?_)
      clear hK K hbc
      try simp only [Act.put, List.getElem_toArray, List.getElem_cons_zero, List.getElem_cons_succ, List.setIfInBounds_toArray, List.set_cons_zero, List.set_cons_succ]
      refine wpAnyH_ready (rs := [10]) (by kernel_rfl) (by simp) ?_
      refine AllReadyH.cons rfl (fun K hK => ?_) AllReadyH.nil
      go_simp
      refine (C1.out _).mono ?_
      rintro e wq154 ⟨rfl, hbc⟩
      have A_q154 := Lib.hid (A_q153.out.below hbc A_q153.out.2.2.2.2.2)
      have B_q154 := Lib.hid (B_q153.out.below hbc B_q153.out.2.2.2.2.2)
      have Z_q154 := Lib.hid (Z_q153.out.trans (hbc.mono Z_q153.out.size))
      dsimp only
      refine hK.out _ _ (hSm.out _ ⟨A_q154.out, B_q154.out⟩) (fun _ => ?_)
      clear hK K hbc
      refine wpAnyH_take (i := 11) (v := ?_) rfl (by kernel_rfl) (by kernel_rfl) (by kernel_rfl) (fun _ _ _ h => h) (Or.inl ⟨by rfl, ?_⟩) (hSm.out _ ⟨A_q154.out, B_q154.out⟩) ?_
      rotate_left 1
      next => intro w hSw; rw [hSe] at hSw; obtain ⟨⟨u00, u01, u02, u03, _, _⟩, ⟨u10, u11, u12, u13, _, _⟩⟩ := hSw; go_simp; try with_reducible rfl
      try simp only [Act.put, List.getElem_toArray, List.getElem_cons_zero, List.getElem_cons_succ, List.setIfInBounds_toArray, List.set_cons_zero, List.set_cons_succ]
      refine wpAnyH_done (by kernel_rfl) ?_ _
      go_wp2_with fail
      go_ret
      exact ⟨rfl, Z_q154.out⟩
    · obtain ⟨z0, z1, z2, z3, _, _⟩ := B_q1.out
      go_simp
      refine hK.out _ _ trivial (fun _ => ?_)
      clear hK K z0 z1 z2 z3
      try simp only [Act.put, List.getElem_toArray, List.getElem_cons_zero, List.getElem_cons_succ, List.setIfInBounds_toArray, List.set_cons_zero, List.set_cons_succ]
      refine wpAnyH_ready (rs := [1]) (by kernel_rfl) (by simp) ?_
      refine AllReadyH.cons rfl (fun K hK => ?_) AllReadyH.nil
      go_simp
      refine (H1.out _).mono ?_
      rintro e wq6 ⟨rfl, hbc⟩
      have A_q6 := Lib.hid (A_q1.out.below hbc A_q1.out.2.2.2.2.2)
      have B_q6 := Lib.hid (B_q1.out.below hbc B_q1.out.2.2.2.2.2)
      have Z_q6 := Lib.hid (Z_q1.out.trans (hbc.mono Z_q1.out.size))
      dsimp only
      refine hK.out _ _ trivial (fun _ => ?_)
      clear hK K hbc
      try simp only [Act.put, List.getElem_toArray, List.getElem_cons_zero, List.getElem_cons_succ, List.setIfInBounds_toArray, List.set_cons_zero, List.set_cons_succ]
      refine wpAnyH_ready (rs := [3]) (by kernel_rfl) (by simp) ?_
      refine AllReadyH.cons rfl (fun K hK => ?_) AllReadyH.nil
      go_simp
      refine (H2.out _).mono ?_
      rintro e wq7 ⟨rfl, hbc⟩
      have A_q7 := Lib.hid (A_q6.out.below hbc A_q6.out.2.2.2.2.2)
      have B_q7 := Lib.hid (B_q6.out.below hbc B_q6.out.2.2.2.2.2)
      have Z_q7 := Lib.hid (Z_q6.out.trans (hbc.mono Z_q6.out.size))
      dsimp only
      refine hK.out _ _ trivial (fun _ => ?_)
      clear hK K hbc
      try simp only [Act.put, List.getElem_toArray, List.getElem_cons_zero, List.getElem_cons_succ, List.setIfInBounds_toArray, List.set_cons_zero, List.set_cons_succ]
      refine wpAnyH_ready (rs := [4]) (by kernel_rfl) (by simp) ?_
      refine AllReadyH.cons rfl (fun K hK => ?_) AllReadyH.nil
      obtain ⟨z0, z1, z2, z3, zf, _⟩ := A_q7.out
      have zf0 := zf 0
      have zf1 := zf 1
      have zf2 := zf 2
      have zf3 := zf 3
      have A_q8 := Lib.hid (A_q7.out.set4 (.bool CP.neg) (.string CP.mag) (.bool CQ.neg) (.string CQ.mag))
      have B_q8 := Lib.hid (((((B_q7.out).far ⟨ga, 0, none⟩ (.bool CP.neg) ab).far ⟨ga, 1, none⟩ (.string CP.mag) ab).far ⟨ga, 2, none⟩ (.bool CQ.neg) ab).far ⟨ga, 3, none⟩ (.string CQ.mag) ab)
      have Z_q8 := Lib.hid (((((Z_q7.out).setCell (p := ⟨ga, 0, none⟩) le1 (.bool CP.neg)).setCell (p := ⟨ga, 1, none⟩) le1 (.string CP.mag)).setCell (p := ⟨ga, 2, none⟩) le1 (.bool CQ.neg)).setCell (p := ⟨ga, 3, none⟩) le1 (.string CQ.mag))
      go_simp
      refine hK.out _ _ trivial (fun _ => ?_)
      clear hK K z0 z1 z2 z3 zf zf0 zf1 zf2 zf3
      try simp only [Act.put, List.getElem_toArray, List.getElem_cons_zero, List.getElem_cons_succ, List.setIfInBounds_toArray, List.set_cons_zero, List.set_cons_succ]
      refine wpAnyH_ready (rs := [5]) (by kernel_rfl) (by simp) ?_
      refine AllReadyH.cons rfl (fun K hK => ?_) AllReadyH.nil
      obtain ⟨z0, z1, z2, z3, zf, _⟩ := B_q8.out
      have zf0 := zf 0
      have zf1 := zf 1
      have zf2 := zf 2
      have zf3 := zf 3
      have A_q9 := Lib.hid (((((A_q8.out).far ⟨gb, 0, none⟩ (.bool C0.neg) ba).far ⟨gb, 1, none⟩ (.string C0.mag) ba).far ⟨gb, 2, none⟩ (.bool C9.neg) ba).far ⟨gb, 3, none⟩ (.string C9.mag) ba)
      have B_q9 := Lib.hid (B_q8.out.set4 (.bool C0.neg) (.string C0.mag) (.bool C9.neg) (.string C9.mag))
      have Z_q9 := Lib.hid (((((Z_q8.out).setCell (p := ⟨gb, 0, none⟩) le2 (.bool C0.neg)).setCell (p := ⟨gb, 1, none⟩) le2 (.string C0.mag)).setCell (p := ⟨gb, 2, none⟩) le2 (.bool C9.neg)).setCell (p := ⟨gb, 3, none⟩) le2 (.string C9.mag))
      go_simp
      refine hK.out _ _ trivial (fun _ => ?_)
      clear hK K z0 z1 z2 z3 zf zf0 zf1 zf2 zf3
      refine wpAnyH_done (by kernel_rfl) ?_ _
      go_upto_region 2 with (fail)
      obtain ⟨SS, hSe⟩ : ∃ SS : World → Prop, SS = fun W => Box4 W ga (.bool CP.neg) (.string CP.mag) (.bool CQ.neg) (.string CQ.mag) ∧ Box4 W gb (.bool C0.neg) (.string C0.mag) (.bool C9.neg) (.string C9.mag) := ⟨_, rfl⟩
      have hSm : Hid (∀ W, (Box4 W ga (.bool CP.neg) (.string CP.mag) (.bool CQ.neg) (.string CQ.mag) ∧ Box4 W gb (.bool C0.neg) (.string C0.mag) (.bool C9.neg) (.string C9.mag)) → SS W) := Lib.hid (fun W hW => by rw [hSe]; exact hW)
      refine wp_region_held_drew (S := SS) (by kernel_rfl) (hSm.out _ ⟨Box4.drw A_q9.out, Box4.drw B_q9.out⟩) (fun _ => ?_)
      have A_q191 := Lib.hid (Box4.drw A_q9.out)
      have B_q191 := Lib.hid (Box4.drw B_q9.out)
      have Z_q191 := Lib.hid (Z_q9.out.drew)
      refine wpAnyH_take (i := 0) (v := ?_) rfl (by kernel_rfl) (by kernel_rfl) (by kernel_rfl) (fun _ _ _ h => h) (Or.inl ⟨by rfl, ?_⟩) (hSm.out _ ⟨A_q191.out, B_q191.out⟩) ?_
      rotate_left 1
      next => intro w hSw; rw [hSe] at hSw; obtain ⟨⟨u00, u01, u02, u03, _, _⟩, ⟨u10, u11, u12, u13, _, _⟩⟩ := hSw; go_simp; try with_reducible rfl
      try simp only [Act.put, List.getElem_toArray, List.getElem_cons_zero, List.getElem_cons_succ, List.setIfInBounds_toArray, List.set_cons_zero, List.set_cons_succ]
      refine wpAnyH_take (i := 1) (v := ?_) rfl (by kernel_rfl) (by kernel_rfl) (by kernel_rfl) (fun _ _ _ h => h) (Or.inl ⟨by rfl, ?_⟩) (hSm.out _ ⟨A_q191.out, B_q191.out⟩) ?_
      rotate_left 1
      next => intro w hSw; rw [hSe] at hSw; obtain ⟨⟨u00, u01, u02, u03, _, _⟩, ⟨u10, u11, u12, u13, _, _⟩⟩ := hSw; go_simp; try with_reducible rfl
      try simp only [Act.put, List.getElem_toArray, List.getElem_cons_zero, List.getElem_cons_succ, List.setIfInBounds_toArray, List.set_cons_zero, List.set_cons_succ]
      refine wpAnyH_take (i := 2) (v := ?_) rfl (by kernel_rfl) (by kernel_rfl) (by kernel_rfl) (fun _ _ _ h => h) (Or.inl ⟨by rfl, ?_⟩) (hSm.out _ ⟨A_q191.out, B_q191.out⟩) ?_
      rotate_left 1
      next => intro w hSw; rw [hSe] at hSw; obtain ⟨⟨u00, u01, u02, u03, _, _⟩, ⟨u10, u11, u12, u13, _, _⟩⟩ := hSw; go_simp; try with_reducible rfl
      try simp only [Act.put, List.getElem_toArray, List.getElem_cons_zero, List.getElem_cons_succ, List.setIfInBounds_toArray, List.set_cons_zero, List.set_cons_succ]
      refine wpAnyH_take (i := 3) (v := ?_) rfl (by kernel_rfl) (by kernel_rfl) (by kernel_rfl) (fun _ _ _ h => h) (Or.inl ⟨by rfl, ?_⟩) (hSm.out _ ⟨A_q191.out, B_q191.out⟩) ?_
      rotate_left 1
      next => intro w hSw; rw [hSe] at hSw; obtain ⟨⟨u00, u01, u02, u03, _, _⟩, ⟨u10, u11, u12, u13, _, _⟩⟩ := hSw; go_simp; try with_reducible rfl
      try simp only [Act.put, List.getElem_toArray, List.getElem_cons_zero, List.getElem_cons_succ, List.setIfInBounds_toArray, List.set_cons_zero, List.set_cons_succ]
      refine wpAnyH_take (i := 5) (v := ?_) rfl (by kernel_rfl) (by kernel_rfl) (by kernel_rfl) (fun _ _ _ h => h) (Or.inl ⟨by rfl, ?_⟩) (hSm.out _ ⟨A_q191.out, B_q191.out⟩) ?_
      rotate_left 1
      next => intro w hSw; rw [hSe] at hSw; obtain ⟨⟨u00, u01, u02, u03, _, _⟩, ⟨u10, u11, u12, u13, _, _⟩⟩ := hSw; go_simp; try with_reducible rfl
      try simp only [Act.put, List.getElem_toArray, List.getElem_cons_zero, List.getElem_cons_succ, List.setIfInBounds_toArray, List.set_cons_zero, List.set_cons_succ]
      refine wpAnyH_take (i := 6) (v := ?_) rfl (by kernel_rfl) (by kernel_rfl) (by kernel_rfl) (fun _ _ _ h => h) (Or.inl ⟨by rfl, ?_⟩) (hSm.out _ ⟨A_q191.out, B_q191.out⟩) ?_
      rotate_left 1
      next => intro w hSw; rw [hSe] at hSw; obtain ⟨⟨u00, u01, u02, u03, _, _⟩, ⟨u10, u11, u12, u13, _, _⟩⟩ := hSw; go_simp; try with_reducible rfl
      try simp only [Act.put, List.getElem_toArray, List.getElem_cons_zero, List.getElem_cons_succ, List.setIfInBounds_toArray, List.set_cons_zero, List.set_cons_succ]
      refine wpAnyH_take (i := 7) (v := ?_) rfl (by kernel_rfl) (by kernel_rfl) (by kernel_rfl) (fun _ _ _ h => h) (Or.inl ⟨by rfl, ?_⟩) (hSm.out _ ⟨A_q191.out, B_q191.out⟩) ?_
      rotate_left 1
      next => intro w hSw; rw [hSe] at hSw; obtain ⟨⟨u00, u01, u02, u03, _, _⟩, ⟨u10, u11, u12, u13, _, _⟩⟩ := hSw; go_simp; try with_reducible rfl
      try simp only [Act.put, List.getElem_toArray, List.getElem_cons_zero, List.getElem_cons_succ, List.setIfInBounds_toArray, List.set_cons_zero, List.set_cons_succ]
      refine wpAnyH_take (i := 8) (v := ?_) rfl (by kernel_rfl) (by kernel_rfl) (by kernel_rfl) (fun _ _ _ h => h) (Or.inl ⟨by rfl, ?_⟩) (hSm.out _ ⟨A_q191.out, B_q191.out⟩) ?_
      rotate_left 1
      next => intro w hSw; rw [hSe] at hSw; obtain ⟨⟨u00, u01, u02, u03, _, _⟩, ⟨u10, u11, u12, u13, _, _⟩⟩ := hSw; go_simp; try with_reducible rfl
      try simp only [Act.put, List.getElem_toArray, List.getElem_cons_zero, List.getElem_cons_succ, List.setIfInBounds_toArray, List.set_cons_zero, List.set_cons_succ]
      try simp only [Act.put, List.getElem_toArray, List.getElem_cons_zero, List.getElem_cons_succ, List.setIfInBounds_toArray, List.set_cons_zero, List.set_cons_succ]
      refine wpAnyH_ready (rs := [4]) (by kernel_rfl) (by simp) ?_
      refine AllReadyH.cons rfl (fun K hK => ?_) AllReadyH.nil
      go_simp
      refine (M1.out _).mono ?_
      rintro e wq192 ⟨rfl, hbc⟩
      have A_q192 := Lib.hid (A_q191.out.below hbc A_q191.out.2.2.2.2.2)
      have B_q192 := Lib.hid (B_q191.out.below hbc B_q191.out.2.2.2.2.2)
      have Z_q192 := Lib.hid (Z_q191.out.trans (hbc.mono Z_q191.out.size))
      dsimp only
      refine hK.out _ _ (hSm.out _ ⟨A_q192.out, B_q192.out⟩) (fun _ => ?_)
      clear hK K hbc
      try simp only [Act.put, List.getElem_toArray, List.getElem_cons_zero, List.getElem_cons_succ, List.setIfInBounds_toArray, List.set_cons_zero, List.set_cons_succ]
      refine wpAnyH_ready (rs := [9]) (by kernel_rfl) (by simp) ?_
      refine AllReadyH.cons rfl (fun K hK => ?_) AllReadyH.nil
      go_simp
      refine (M2.out _).mono ?_
      rintro e wq193 ⟨rfl, hbc⟩
      have A_q193 := Lib.hid (A_q192.out.below hbc A_q192.out.2.2.2.2.2)
      have B_q193 := Lib.hid (B_q192.out.below hbc B_q192.out.2.2.2.2.2)
      have Z_q193 := Lib.hid (Z_q192.out.trans (hbc.mono Z_q192.out.size))
      dsimp only
      refine hK.out _ _ (hSm.out _ ⟨A_q193.out, B_q193.out⟩) (fun _ => ?_)
      clear hK K hbc
      try simp only [Act.put, List.getElem_toArray, List.getElem_cons_zero, List.getElem_cons_succ, List.setIfInBounds_toArray, List.set_cons_zero, List.set_cons_succ]
      refine wpAnyH_ready (rs := [10]) (by kernel_rfl) (by simp) ?_
      refine AllReadyH.cons rfl (fun K hK => ?_) AllReadyH.nil
      go_simp
      refine (C1.out _).mono ?_
      rintro e wq194 ⟨rfl, hbc⟩
      have A_q194 := Lib.hid (A_q193.out.below hbc A_q193.out.2.2.2.2.2)
      have B_q194 := Lib.hid (B_q193.out.below hbc B_q193.out.2.2.2.2.2)
      have Z_q194 := Lib.hid (Z_q193.out.trans (hbc.mono Z_q193.out.size))
      dsimp only
      refine hK.out _ _ (hSm.out _ ⟨A_q194.out, B_q194.out⟩) (fun _ => ?_)
      clear hK K hbc
      refine wpAnyH_take (i := 11) (v := ?_) rfl (by kernel_rfl) (by kernel_rfl) (by kernel_rfl) (fun _ _ _ h => h) (Or.inl ⟨by rfl, ?_⟩) (hSm.out _ ⟨A_q194.out, B_q194.out⟩) ?_
      rotate_left 1
      next => intro w hSw; rw [hSe] at hSw; obtain ⟨⟨u00, u01, u02, u03, _, _⟩, ⟨u10, u11, u12, u13, _, _⟩⟩ := hSw; go_simp; try with_reducible rfl
      try simp only [Act.put, List.getElem_toArray, List.getElem_cons_zero, List.getElem_cons_succ, List.setIfInBounds_toArray, List.set_cons_zero, List.set_cons_succ]
      refine wpAnyH_done (by kernel_rfl) ?_ _
      go_wp2_with fail
      go_ret
      exact ⟨rfl, Z_q194.out⟩
  · obtain ⟨z0, z1, z2, z3, _, _⟩ := B_q1.out
    go_simp
    refine hK.out _ _ trivial (fun _ => ?_)
    clear hK K z0 z1 z2 z3
    try simp only [Act.put, List.getElem_toArray, List.getElem_cons_zero, List.getElem_cons_succ, List.setIfInBounds_toArray, List.set_cons_zero, List.set_cons_succ]
    refine wpAnyH_ready (rs := [0]) (by kernel_rfl) (by simp) ?_
    refine AllReadyH.cons rfl (fun K hK => ?_) AllReadyH.nil
    obtain ⟨z0, z1, z2, z3, _, _⟩ := A_q1.out
    go_simp
    refine hK.out _ _ trivial (fun _ => ?_)
    clear hK K z0 z1 z2 z3
    try simp only [Act.put, List.getElem_toArray, List.getElem_cons_zero, List.getElem_cons_succ, List.setIfInBounds_toArray, List.set_cons_zero, List.set_cons_succ]
    refine wpAnyH_ready (rs := [1]) (by kernel_rfl) (by simp) ?_
    refine AllReadyH.cons rfl (fun K hK => ?_) AllReadyH.nil
    go_simp
    refine (H1.out _).mono ?_
    rintro e wq10 ⟨rfl, hbc⟩
    have A_q10 := Lib.hid (A_q1.out.below hbc A_q1.out.2.2.2.2.2)
    have B_q10 := Lib.hid (B_q1.out.below hbc B_q1.out.2.2.2.2.2)
    have Z_q10 := Lib.hid (Z_q1.out.trans (hbc.mono Z_q1.out.size))
    dsimp only
    refine hK.out _ _ trivial (fun _ => ?_)
    clear hK K hbc
    try simp only [Act.put, List.getElem_toArray, List.getElem_cons_zero, List.getElem_cons_succ, List.setIfInBounds_toArray, List.set_cons_zero, List.set_cons_succ]
    refine wpAnyH_ready (rs := [3]) (by kernel_rfl) (by simp) ?_
    refine AllReadyH.cons rfl (fun K hK => ?_) AllReadyH.nil
    go_simp
    refine (H2.out _).mono ?_
    rintro e wq11 ⟨rfl, hbc⟩
    have A_q11 := Lib.hid (A_q10.out.below hbc A_q10.out.2.2.2.2.2)
    have B_q11 := Lib.hid (B_q10.out.below hbc B_q10.out.2.2.2.2.2)
    have Z_q11 := Lib.hid (Z_q10.out.trans (hbc.mono Z_q10.out.size))
    dsimp only
    refine hK.out _ _ trivial (fun _ => ?_)
    clear hK K hbc
    try simp only [Act.put, List.getElem_toArray, List.getElem_cons_zero, List.getElem_cons_succ, List.setIfInBounds_toArray, List.set_cons_zero, List.set_cons_succ]
    refine wpAnyH_ready (rs := [4]) (by kernel_rfl) (by simp) ?_
    refine AllReadyH.cons rfl (fun K hK => ?_) AllReadyH.nil
    obtain ⟨z0, z1, z2, z3, zf, _⟩ := A_q11.out
    have zf0 := zf 0
    have zf1 := zf 1
    have zf2 := zf 2
    have zf3 := zf 3
    have A_q12 := Lib.hid (A_q11.out.set4 (.bool CP.neg) (.string CP.mag) (.bool CQ.neg) (.string CQ.mag))
    have B_q12 := Lib.hid (((((B_q11.out).far ⟨ga, 0, none⟩ (.bool CP.neg) ab).far ⟨ga, 1, none⟩ (.string CP.mag) ab).far ⟨ga, 2, none⟩ (.bool CQ.neg) ab).far ⟨ga, 3, none⟩ (.string CQ.mag) ab)
    have Z_q12 := Lib.hid (((((Z_q11.out).setCell (p := ⟨ga, 0, none⟩) le1 (.bool CP.neg)).setCell (p := ⟨ga, 1, none⟩) le1 (.string CP.mag)).setCell (p := ⟨ga, 2, none⟩) le1 (.bool CQ.neg)).setCell (p := ⟨ga, 3, none⟩) le1 (.string CQ.mag))
    go_simp
    refine hK.out _ _ trivial (fun _ => ?_)
    clear hK K z0 z1 z2 z3 zf zf0 zf1 zf2 zf3
    try simp only [Act.put, List.getElem_toArray, List.getElem_cons_zero, List.getElem_cons_succ, List.setIfInBounds_toArray, List.set_cons_zero, List.set_cons_succ]
    refine wpAnyH_ready (rs := [5]) (by kernel_rfl) (by simp) ?_
    refine AllReadyH.cons rfl (fun K hK => ?_) AllReadyH.nil
    obtain ⟨z0, z1, z2, z3, zf, _⟩ := B_q12.out
    have zf0 := zf 0
    have zf1 := zf 1
    have zf2 := zf 2
    have zf3 := zf 3
    have A_q13 := Lib.hid (((((A_q12.out).far ⟨gb, 0, none⟩ (.bool C0.neg) ba).far ⟨gb, 1, none⟩ (.string C0.mag) ba).far ⟨gb, 2, none⟩ (.bool C9.neg) ba).far ⟨gb, 3, none⟩ (.string C9.mag) ba)
    have B_q13 := Lib.hid (B_q12.out.set4 (.bool C0.neg) (.string C0.mag) (.bool C9.neg) (.string C9.mag))
    have Z_q13 := Lib.hid (((((Z_q12.out).setCell (p := ⟨gb, 0, none⟩) le2 (.bool C0.neg)).setCell (p := ⟨gb, 1, none⟩) le2 (.string C0.mag)).setCell (p := ⟨gb, 2, none⟩) le2 (.bool C9.neg)).setCell (p := ⟨gb, 3, none⟩) le2 (.string C9.mag))
    go_simp
    refine hK.out _ _ trivial (fun _ => ?_)
    clear hK K z0 z1 z2 z3 zf zf0 zf1 zf2 zf3
    refine wpAnyH_done (by kernel_rfl) ?_ _
    go_upto_region 2 with (fail)
    obtain ⟨SS, hSe⟩ : ∃ SS : World → Prop, SS = fun W => Box4 W ga (.bool CP.neg) (.string CP.mag) (.bool CQ.neg) (.string CQ.mag) ∧ Box4 W gb (.bool C0.neg) (.string C0.mag) (.bool C9.neg) (.string C9.mag) := ⟨_, rfl⟩
    have hSm : Hid (∀ W, (Box4 W ga (.bool CP.neg) (.string CP.mag) (.bool CQ.neg) (.string CQ.mag) ∧ Box4 W gb (.bool C0.neg) (.string C0.mag) (.bool C9.neg) (.string C9.mag)) → SS W) := Lib.hid (fun W hW => by rw [hSe]; exact hW)
    refine wp_region_held_drew (S := SS) (by kernel_rfl) (hSm.out _ ⟨Box4.drw A_q13.out, Box4.drw B_q13.out⟩) (fun _ => ?_)
    have A_q231 := Lib.hid (Box4.drw A_q13.out)
    have B_q231 := Lib.hid (Box4.drw B_q13.out)
    have Z_q231 := Lib.hid (Z_q13.out.drew)
    refine wpAnyH_take (i := 0) (v := ?_) rfl (by kernel_rfl) (by kernel_rfl) (by kernel_rfl) (fun _ _ _ h => h) (Or.inl ⟨by rfl, ?_⟩) (hSm.out _ ⟨A_q231.out, B_q231.out⟩) ?_
    rotate_left 1
    next => intro w hSw; rw [hSe] at hSw; obtain ⟨⟨u00, u01, u02, u03, _, _⟩, ⟨u10, u11, u12, u13, _, _⟩⟩ := hSw; go_simp; try with_reducible rfl
    try simp only [Act.put, List.getElem_toArray, List.getElem_cons_zero, List.getElem_cons_succ, List.setIfInBounds_toArray, List.set_cons_zero, List.set_cons_succ]
    refine wpAnyH_take (i := 1) (v := ?_) rfl (by kernel_rfl) (by kernel_rfl) (by kernel_rfl) (fun _ _ _ h => h) (Or.inl ⟨by rfl, ?_⟩) (hSm.out _ ⟨A_q231.out, B_q231.out⟩) ?_
    rotate_left 1
    next => intro w hSw; rw [hSe] at hSw; obtain ⟨⟨u00, u01, u02, u03, _, _⟩, ⟨u10, u11, u12, u13, _, _⟩⟩ := hSw; go_simp; try with_reducible rfl
    try simp only [Act.put, List.getElem_toArray, List.getElem_cons_zero, List.getElem_cons_succ, List.setIfInBounds_toArray, List.set_cons_zero, List.set_cons_succ]
    refine wpAnyH_take (i := 2) (v := ?_) rfl (by kernel_rfl) (by kernel_rfl) (by kernel_rfl) (fun _ _ _ h => h) (Or.inl ⟨by rfl, ?_⟩) (hSm.out _ ⟨A_q231.out, B_q231.out⟩) ?_
    rotate_left 1
    next => intro w hSw; rw [hSe] at hSw; obtain ⟨⟨u00, u01, u02, u03, _, _⟩, ⟨u10, u11, u12, u13, _, _⟩⟩ := hSw; go_simp; try with_reducible rfl
    try simp only [Act.put, List.getElem_toArray, List.getElem_cons_zero, List.getElem_cons_succ, List.setIfInBounds_toArray, List.set_cons_zero, List.set_cons_succ]
    refine wpAnyH_take (i := 3) (v := ?_) rfl (by kernel_rfl) (by kernel_rfl) (by kernel_rfl) (fun _ _ _ h => h) (Or.inl ⟨by rfl, ?_⟩) (hSm.out _ ⟨A_q231.out, B_q231.out⟩) ?_
    rotate_left 1
    next => intro w hSw; rw [hSe] at hSw; obtain ⟨⟨u00, u01, u02, u03, _, _⟩, ⟨u10, u11, u12, u13, _, _⟩⟩ := hSw; go_simp; try with_reducible rfl
    try simp only [Act.put, List.getElem_toArray, List.getElem_cons_zero, List.getElem_cons_succ, List.setIfInBounds_toArray, List.set_cons_zero, List.set_cons_succ]
    refine wpAnyH_take (i := 5) (v := ?_) rfl (by kernel_rfl) (by kernel_rfl) (by kernel_rfl) (fun _ _ _ h => h) (Or.inl ⟨by rfl, ?_⟩) (hSm.out _ ⟨A_q231.out, B_q231.out⟩) ?_
    rotate_left 1
    next => intro w hSw; rw [hSe] at hSw; obtain ⟨⟨u00, u01, u02, u03, _, _⟩, ⟨u10, u11, u12, u13, _, _⟩⟩ := hSw; go_simp; try with_reducible rfl
    try simp only [Act.put, List.getElem_toArray, List.getElem_cons_zero, List.getElem_cons_succ, List.setIfInBounds_toArray, List.set_cons_zero, List.set_cons_succ]
    refine wpAnyH_take (i := 6) (v := ?_) rfl (by kernel_rfl) (by kernel_rfl) (by kernel_rfl) (fun _ _ _ h => h) (Or.inl ⟨by rfl, ?_⟩) (hSm.out _ ⟨A_q231.out, B_q231.out⟩) ?_
    rotate_left 1
    next => intro w hSw; rw [hSe] at hSw; obtain ⟨⟨u00, u01, u02, u03, _, _⟩, ⟨u10, u11, u12, u13, _, _⟩⟩ := hSw; go_simp; try with_reducible rfl
    try simp only [Act.put, List.getElem_toArray, List.getElem_cons_zero, List.getElem_cons_succ, List.setIfInBounds_toArray, List.set_cons_zero, List.set_cons_succ]
    refine wpAnyH_take (i := 7) (v := ?_) rfl (by kernel_rfl) (by kernel_rfl) (by kernel_rfl) (fun _ _ _ h => h) (Or.inl ⟨by rfl, ?_⟩) (hSm.out _ ⟨A_q231.out, B_q231.out⟩) ?_
    rotate_left 1
    next => intro w hSw; rw [hSe] at hSw; obtain ⟨⟨u00, u01, u02, u03, _, _⟩, ⟨u10, u11, u12, u13, _, _⟩⟩ := hSw; go_simp; try with_reducible rfl
    try simp only [Act.put, List.getElem_toArray, List.getElem_cons_zero, List.getElem_cons_succ, List.setIfInBounds_toArray, List.set_cons_zero, List.set_cons_succ]
    refine wpAnyH_take (i := 8) (v := ?_) rfl (by kernel_rfl) (by kernel_rfl) (by kernel_rfl) (fun _ _ _ h => h) (Or.inl ⟨by rfl, ?_⟩) (hSm.out _ ⟨A_q231.out, B_q231.out⟩) ?_
    rotate_left 1
    next => intro w hSw; rw [hSe] at hSw; obtain ⟨⟨u00, u01, u02, u03, _, _⟩, ⟨u10, u11, u12, u13, _, _⟩⟩ := hSw; go_simp; try with_reducible rfl
    try simp only [Act.put, List.getElem_toArray, List.getElem_cons_zero, List.getElem_cons_succ, List.setIfInBounds_toArray, List.set_cons_zero, List.set_cons_succ]
    try simp only [Act.put, List.getElem_toArray, List.getElem_cons_zero, List.getElem_cons_succ, List.setIfInBounds_toArray, List.set_cons_zero, List.set_cons_succ]
    refine wpAnyH_ready (rs := [4]) (by kernel_rfl) (by simp) ?_
    refine AllReadyH.cons rfl (fun K hK => ?_) AllReadyH.nil
    go_simp
    refine (M1.out _).mono ?_
    rintro e wq232 ⟨rfl, hbc⟩
    have A_q232 := Lib.hid (A_q231.out.below hbc A_q231.out.2.2.2.2.2)
    have B_q232 := Lib.hid (B_q231.out.below hbc B_q231.out.2.2.2.2.2)
    have Z_q232 := Lib.hid (Z_q231.out.trans (hbc.mono Z_q231.out.size))
    dsimp only
    refine hK.out _ _ (hSm.out _ ⟨A_q232.out, B_q232.out⟩) (fun _ => ?_)
    clear hK K hbc
    try simp only [Act.put, List.getElem_toArray, List.getElem_cons_zero, List.getElem_cons_succ, List.setIfInBounds_toArray, List.set_cons_zero, List.set_cons_succ]
    refine wpAnyH_ready (rs := [9]) (by kernel_rfl) (by simp) ?_
    refine AllReadyH.cons rfl (fun K hK => ?_) AllReadyH.nil
    go_simp
    refine (M2.out _).mono ?_
    rintro e wq233 ⟨rfl, hbc⟩
    have A_q233 := Lib.hid (A_q232.out.below hbc A_q232.out.2.2.2.2.2)
    have B_q233 := Lib.hid (B_q232.out.below hbc B_q232.out.2.2.2.2.2)
    have Z_q233 := Lib.hid (Z_q232.out.trans (hbc.mono Z_q232.out.size))
    dsimp only
    refine hK.out _ _ (hSm.out _ ⟨A_q233.out, B_q233.out⟩) (fun _ => ?_)
    clear hK K hbc
    try simp only [Act.put, List.getElem_toArray, List.getElem_cons_zero, List.getElem_cons_succ, List.setIfInBounds_toArray, List.set_cons_zero, List.set_cons_succ]
    refine wpAnyH_ready (rs := [10]) (by kernel_rfl) (by simp) ?_
    refine AllReadyH.cons rfl (fun K hK => ?_) AllReadyH.nil
    go_simp
    refine (C1.out _).mono ?_
    rintro e wq234 ⟨rfl, hbc⟩
    have A_q234 := Lib.hid (A_q233.out.below hbc A_q233.out.2.2.2.2.2)
    have B_q234 := Lib.hid (B_q233.out.below hbc B_q233.out.2.2.2.2.2)
    have Z_q234 := Lib.hid (Z_q233.out.trans (hbc.mono Z_q233.out.size))
    dsimp only
    refine hK.out _ _ (hSm.out _ ⟨A_q234.out, B_q234.out⟩) (fun _ => ?_)
    clear hK K hbc
    refine wpAnyH_take (i := 11) (v := ?_) rfl (by kernel_rfl) (by kernel_rfl) (by kernel_rfl) (fun _ _ _ h => h) (Or.inl ⟨by rfl, ?_⟩) (hSm.out _ ⟨A_q234.out, B_q234.out⟩) ?_
    rotate_left 1
    next => intro w hSw; rw [hSe] at hSw; obtain ⟨⟨u00, u01, u02, u03, _, _⟩, ⟨u10, u11, u12, u13, _, _⟩⟩ := hSw; go_simp; try with_reducible rfl
    try simp only [Act.put, List.getElem_toArray, List.getElem_cons_zero, List.getElem_cons_succ, List.setIfInBounds_toArray, List.set_cons_zero, List.set_cons_succ]
    refine wpAnyH_done (by kernel_rfl) ?_ _
    go_wp2_with fail
    go_ret
    exact ⟨rfl, Z_q234.out⟩
end Go.Proofs.Ytcafeffgaokiaaa
