/- polynomial.At in values; rational.Compare with 0, Check. -/
import Derived.Test.YteoemijgdcpopaaDoorD36
import Derived.Test.YteoemijgdcpopaaDoorD38
import Derived.Laws.StructEq
namespace Go.Proofs.YteoemijgdcpopaaDoor
open Go.RowKit Go.Shelf
/-- What At hands back. -/
def RetAtI (e : Int → Int) (u v : Int) (E : Nat) (w : World) (en : Ending) (w' : World) : Prop := ∃ P Q, en = .returned (.tuple #[ratV P Q, .int .i64 0]) ∧ Qc P Q ∧ ValP e u v P Q ∧ Bn P E ∧ Bn Q E ∧ Below w.heap.size w w'
theorem atI (w : World) (p : Option Addr) (n c : Nat) (Z : Nat → ZI) (e : Int → Int) (N : Nat) (F : Nat → Int) (B L b : Nat) (ra rb : ZI) (h : PI w p n Z e B L) (hF : IsP N F e) (hL : L ≤ 65) (hB : B ≤ 1000000) (sa : ra.mag.size ≤ 100000000) (sb : rb.mag.size ≤ 100000000) (ha : Bn (valZ ra) b) (hb : Bn (valZ rb) b) (hbb : b ≤ 10000) :
    Calls Tryd.prog 37 #[.slice p n c, .agg #[.bool ra.neg, .string ra.mag, .bool rb.neg, .string rb.mag]] w (RetAtI e (rloN (valZ ra) (valZ rb)) (rloD (valZ ra) (valZ rb)) (B + (b + 1) * L) w) := by
  have hl := h.len
  obtain ⟨hn1, hf1⟩ := h.dg hF
  have hN := dgN_le (fun k => valZ (Z k)) n
  rw [hn1] at hN
  refine (at_any n Z p c ra rb (by omega) h.sz _ rfl h.bn hB N hn1 (by omega) sa sb ha hb hbb _ _ rfl rfl w h.row).mono fun en w' hr => ?_
  obtain ⟨P, Q, rfl, hq, hpq, hbl⟩ := hr
  have hv0 : 0 < rloD (valZ ra) (valZ rb) := (rlo_qc _ _).pos
  have hub := rloN_bn ha (valZ rb)
  have hvb := rloD_bn hb (valZ ra)
  obtain ⟨b1, b2⟩ := hq.bounds (Int.pow_pos hv0) hpq
  have h2 : Bn (rloD (valZ ra) (valZ rb) ^ N) (b * N) := by
    have key : ∀ n : Nat, Bn (rloD (valZ ra) (valZ rb) ^ n) (b * n) := fun n => by
      induction n with
      | zero => rw [Int.pow_zero]; exact Bn.one _
      | succ n ih => rw [Int.pow_succ, Nat.mul_add, Nat.mul_one]; exact ih.mul hvb
    exact key N
  have h1 : (b + 1) * N ≤ (b + 1) * L := Nat.mul_le_mul_left _ (by omega)
  have h3 : b * N ≤ (b + 1) * N := Nat.mul_le_mul_right _ (by omega)
  refine ⟨P, Q, rfl, hq, ?_, Nat.le_trans b1 ((hsN_bn (N := N) h.bn hub hvb N).up (by omega)), Nat.le_trans b2 (h2.up (by omega)), hbl⟩
  refine ValP.of_hs hF ?_
  rw [hpq]
  congr 1
  have key : ∀ t, t ≤ N → hsN (fun k => valZ (Z k)) N (rloN (valZ ra) (valZ rb)) (rloD (valZ ra) (valZ rb)) t = hsN F N (rloN (valZ ra) (valZ rb)) (rloD (valZ ra) (valZ rb)) t := by
    intro t
    induction t with
    | zero => intro _; rfl
    | succ t ih =>
      intro ht
      rw [hsN, hsN, ih (by omega)]
      rw [show F (N - 1 - t) = valZ (Z (N - 1 - t)) from by rw [← hf1]; exact if_pos (by omega)]
  exact key N (Nat.le_refl _)
set_option maxRecDepth 100000 in
set_option maxHeartbeats 8000000 in
theorem cmpR0_any (P Q : Int) {e : Nat} (hq : Qc P Q) (hP : Bn P e) (hQ : Bn Q e) (he : e ≤ 10000000) (w : World) :
    Calls Tryd.prog 38 #[ratV P Q, .agg #[.bool false, .string ⟨#[]⟩, .bool false, .string ⟨#[]⟩]] w fun en w' => en = .returned (.int .i64 (cmpI P 0)) ∧ Below w.heap.size w w' := by
  have h1 := fun W => canonR (canon P) (canon Q) (hP.size _ (by omega)) (hQ.size _ (by omega)) W
  have h2 := fun W => canonR ⟨false, ⟨#[]⟩⟩ ⟨false, ⟨#[]⟩⟩ (by decide) (by decide) W
  simp only [valZ_canon] at h1
  rw [(rlo_self hq).1, (rlo_self hq).2] at h1
  rw [show rloN (valZ ⟨false, ⟨#[]⟩⟩) (valZ ⟨false, ⟨#[]⟩⟩) = 0 from rfl, show rloD (valZ ⟨false, ⟨#[]⟩⟩) (valZ ⟨false, ⟨#[]⟩⟩) = 1 from rfl] at h2
  have m1 := fun W => mulc_any P 1 (hP.size _ (by omega)) ((Bn.one 0).size _ (by decide)) W
  have m2 := fun W => mulc_any 0 Q ((Bn.zero 0).size _ (by decide)) (hQ.size _ (by omega)) W
  have c1 := fun W => cmp_any (canon (P * 1)) (canon (0 * Q)) (by rw [Int.mul_one]; exact hP.size _ (by omega)) (by rw [Int.zero_mul]; exact (Bn.zero 0).size _ (by decide)) W
  simp only [valZ_canon, Int.mul_one, Int.zero_mul] at m1 m2 c1
  have H1 := Lib.hid h1
  have H2 := Lib.hid h2
  have M1 := Lib.hid m1
  have M2 := Lib.hid m2
  have C1 := Lib.hid c1
  unfold RetR at H1 H2
  unfold ratV at H1 H2 ⊢
  generalize cmpI P 0 = res at *
  generalize canon P = CP at *
  generalize canon Q = CQ at *
  generalize canon (0 : Int) = C0 at *
  generalize canon (1 : Int) = C9 at *
  clear hq hP hQ he h1 h2 m1 m2 c1
  go_enter Tryd.func38, Tryd.ntmps38
  go_upto_region 1 with (fail)
  obtain ⟨X, hX, hA, hB, hb⟩ := two_box4 w (.bool CP.neg) (.string CP.mag) (.bool CQ.neg) (.string CQ.mag) 41 41
  rw [hX]
  obtain ⟨ga, hga⟩ : ∃ k, w.heap.size = k := ⟨_, rfl⟩
  obtain ⟨gb, hgb⟩ : ∃ k, w.heap.size + 1 = k := ⟨_, rfl⟩
  have le1 : w.heap.size ≤ ga := by omega
  have le2 : w.heap.size ≤ gb := by omega
  have ab : ga ≠ gb := by omega
  have ba : gb ≠ ga := by omega
  have HA := Lib.hid hA
  have HB := Lib.hid hB
  have Hb := Lib.hid hb
  rw [hga] at HA
  rw [hgb] at HB
  rw [hgb, hga]
  clear hga hgb hX hA hB hb
  refine wp_region_held_drew (S := fun _ => True) (by kernel_rfl) trivial (fun _ => ?_)
  have A_q1 := Lib.hid (Box4.drw HA.out)
  have B_q1 := Lib.hid (Box4.drw HB.out)
  have Z_q1 := Lib.hid (Hb.out.drew)
  try simp only [Act.put, List.getElem_toArray, List.getElem_cons_zero, List.getElem_cons_succ, List.setIfInBounds_toArray, List.set_cons_zero, List.set_cons_succ]
  refine wpAnyH_ready (rs := [0, 2]) (by kernel_rfl) (by simp) ?_
  refine AllReadyH.cons rfl (fun K hK => ?_) (AllReadyH.cons rfl (fun K hK => ?_) AllReadyH.nil)
  · obtain ⟨z0, z1, z2, z3, _, _⟩ := A_q1.out
    go_simp
    refine hK.out _ _ trivial (fun _ => ?_)
    clear hK K z0 z1 z2 z3
    try simp only [Act.put, List.getElem_toArray, List.getElem_cons_zero, List.getElem_cons_succ, List.setIfInBounds_toArray, List.set_cons_zero, List.set_cons_succ]
    refine wpAnyH_ready (rs := [1, 2]) (by kernel_rfl) (by simp) ?_
    refine AllReadyH.cons rfl (fun K hK => ?_) (AllReadyH.cons rfl (fun K hK => ?_) AllReadyH.nil)
    · go_simp
      refine (H1.out _).mono ?_
      rintro e wq2 ⟨rfl, hbc⟩
      have A_q2 := Lib.hid (A_q1.out.below hbc A_q1.out.2.2.2.2.2)
      have B_q2 := Lib.hid (B_q1.out.below hbc B_q1.out.2.2.2.2.2)
      have Z_q2 := Lib.hid (Z_q1.out.trans (hbc.mono Z_q1.out.size))
      dsimp only
      refine hK.out _ _ trivial (fun _ => ?_)
      clear hK K hbc
      try simp only [Act.put, List.getElem_toArray, List.getElem_cons_zero, List.getElem_cons_succ, List.setIfInBounds_toArray, List.set_cons_zero, List.set_cons_succ]
      refine wpAnyH_ready (rs := [2]) (by kernel_rfl) (by simp) ?_
      refine AllReadyH.cons rfl (fun K hK => ?_) AllReadyH.nil
      obtain ⟨z0, z1, z2, z3, _, _⟩ := B_q2.out
      go_simp
      refine hK.out _ _ trivial (fun _ => ?_)
      clear hK K z0 z1 z2 z3
      try simp only [Act.put, List.getElem_toArray, List.getElem_cons_zero, List.getElem_cons_succ, List.setIfInBounds_toArray, List.set_cons_zero, List.set_cons_succ]
      refine wpAnyH_ready (rs := [3]) (by kernel_rfl) (by simp) ?_
      refine AllReadyH.cons rfl (fun K hK => ?_) AllReadyH.nil
      go_simp
      refine (H2.out _).mono ?_
      rintro e wq3 ⟨rfl, hbc⟩
      have A_q3 := Lib.hid (A_q2.out.below hbc A_q2.out.2.2.2.2.2)
      have B_q3 := Lib.hid (B_q2.out.below hbc B_q2.out.2.2.2.2.2)
      have Z_q3 := Lib.hid (Z_q2.out.trans (hbc.mono Z_q2.out.size))
      dsimp only
      refine hK.out _ _ trivial (fun _ => ?_)
      clear hK K hbc
      try simp only [Act.put, List.getElem_toArray, List.getElem_cons_zero, List.getElem_cons_succ, List.setIfInBounds_toArray, List.set_cons_zero, List.set_cons_succ]
      refine wpAnyH_ready (rs := [4]) (by kernel_rfl) (by simp) ?_
      refine AllReadyH.cons rfl (fun K hK => ?_) AllReadyH.nil
      obtain ⟨z0, z1, z2, z3, zf, _⟩ := A_q3.out
      have zf0 := zf 0
      have zf1 := zf 1
      have zf2 := zf 2
      have zf3 := zf 3
      have A_q4 := Lib.hid (A_q3.out.set4 (.bool CP.neg) (.string CP.mag) (.bool CQ.neg) (.string CQ.mag))
      have B_q4 := Lib.hid (((((B_q3.out).far ⟨ga, 0, none⟩ (.bool CP.neg) ab).far ⟨ga, 1, none⟩ (.string CP.mag) ab).far ⟨ga, 2, none⟩ (.bool CQ.neg) ab).far ⟨ga, 3, none⟩ (.string CQ.mag) ab)
      have Z_q4 := Lib.hid (((((Z_q3.out).setCell (p := ⟨ga, 0, none⟩) le1 (.bool CP.neg)).setCell (p := ⟨ga, 1, none⟩) le1 (.string CP.mag)).setCell (p := ⟨ga, 2, none⟩) le1 (.bool CQ.neg)).setCell (p := ⟨ga, 3, none⟩) le1 (.string CQ.mag))
      go_simp
      refine hK.out _ _ trivial (fun _ => ?_)
      clear hK K z0 z1 z2 z3 zf zf0 zf1 zf2 zf3
      try simp only [Act.put, List.getElem_toArray, List.getElem_cons_zero, List.getElem_cons_succ, List.setIfInBounds_toArray, List.set_cons_zero, List.set_cons_succ]
      refine wpAnyH_ready (rs := [5]) (by kernel_rfl) (by simp) ?_
      refine AllReadyH.cons rfl (fun K hK => ?_) AllReadyH.nil
      obtain ⟨z0, z1, z2, z3, zf, _⟩ := B_q4.out
      have zf0 := zf 0
      have zf1 := zf 1
      have zf2 := zf 2
      have zf3 := zf 3
      have A_q5 := Lib.hid (((((A_q4.out).far ⟨gb, 0, none⟩ (.bool C0.neg) ba).far ⟨gb, 1, none⟩ (.string C0.mag) ba).far ⟨gb, 2, none⟩ (.bool C9.neg) ba).far ⟨gb, 3, none⟩ (.string C9.mag) ba)
      have B_q5 := Lib.hid (B_q4.out.set4 (.bool C0.neg) (.string C0.mag) (.bool C9.neg) (.string C9.mag))
      have Z_q5 := Lib.hid (((((Z_q4.out).setCell (p := ⟨gb, 0, none⟩) le2 (.bool C0.neg)).setCell (p := ⟨gb, 1, none⟩) le2 (.string C0.mag)).setCell (p := ⟨gb, 2, none⟩) le2 (.bool C9.neg)).setCell (p := ⟨gb, 3, none⟩) le2 (.string C9.mag))
      go_simp
      refine hK.out _ _ trivial (fun _ => ?_)
      clear hK K z0 z1 z2 z3 zf zf0 zf1 zf2 zf3
      refine wpAnyH_done (by kernel_rfl) ?_ _
      go_upto_region 2 with (fail)
      obtain ⟨SS, hSe⟩ : ∃ SS : World → Prop, SS = fun W => Box4 W ga (.bool CP.neg) (.string CP.mag) (.bool CQ.neg) (.string CQ.mag) ∧ Box4 W gb (.bool C0.neg) (.string C0.mag) (.bool C9.neg) (.string C9.mag) := ⟨_, rfl⟩
      have hSm : Hid (∀ W, (Box4 W ga (.bool CP.neg) (.string CP.mag) (.bool CQ.neg) (.string CQ.mag) ∧ Box4 W gb (.bool C0.neg) (.string C0.mag) (.bool C9.neg) (.string C9.mag)) → SS W) := Lib.hid (fun W hW => by rw [hSe]; exact hW)
      refine wp_region_held_drew (S := SS) (by kernel_rfl) (hSm.out _ ⟨Box4.drw A_q5.out, Box4.drw B_q5.out⟩) (fun _ => ?_)
      have A_q151 := Lib.hid (Box4.drw A_q5.out)
      have B_q151 := Lib.hid (Box4.drw B_q5.out)
      have Z_q151 := Lib.hid (Z_q5.out.drew)
      refine wpAnyH_take (i := 0) (v := ?_) rfl (by kernel_rfl) (by kernel_rfl) (by kernel_rfl) (fun _ _ _ h => h) (Or.inl ⟨by rfl, ?_⟩) (hSm.out _ ⟨A_q151.out, B_q151.out⟩) ?_
      rotate_left 1
      next => intro w hSw; rw [hSe] at hSw; obtain ⟨⟨u00, u01, u02, u03, _, _⟩, ⟨u10, u11, u12, u13, _, _⟩⟩ := hSw; go_simp; try with_reducible rfl
      try simp only [Act.put, List.getElem_toArray, List.getElem_cons_zero, List.getElem_cons_succ, List.setIfInBounds_toArray, List.set_cons_zero, List.set_cons_succ]
      refine wpAnyH_take (i := 1) (v := ?_) rfl (by kernel_rfl) (by kernel_rfl) (by kernel_rfl) (fun _ _ _ h => h) (Or.inl ⟨by rfl, ?_⟩) (hSm.out _ ⟨A_q151.out, B_q151.out⟩) ?_
      rotate_left 1
      next => intro w hSw; rw [hSe] at hSw; obtain ⟨⟨u00, u01, u02, u03, _, _⟩, ⟨u10, u11, u12, u13, _, _⟩⟩ := hSw; go_simp; try with_reducible rfl
      try simp only [Act.put, List.getElem_toArray, List.getElem_cons_zero, List.getElem_cons_succ, List.setIfInBounds_toArray, List.set_cons_zero, List.set_cons_succ]
      refine wpAnyH_take (i := 2) (v := ?_) rfl (by kernel_rfl) (by kernel_rfl) (by kernel_rfl) (fun _ _ _ h => h) (Or.inl ⟨by rfl, ?_⟩) (hSm.out _ ⟨A_q151.out, B_q151.out⟩) ?_
      rotate_left 1
      next => intro w hSw; rw [hSe] at hSw; obtain ⟨⟨u00, u01, u02, u03, _, _⟩, ⟨u10, u11, u12, u13, _, _⟩⟩ := hSw; go_simp; try with_reducible rfl
      try simp only [Act.put, List.getElem_toArray, List.getElem_cons_zero, List.getElem_cons_succ, List.setIfInBounds_toArray, List.set_cons_zero, List.set_cons_succ]
      refine wpAnyH_take (i := 3) (v := ?_) rfl (by kernel_rfl) (by kernel_rfl) (by kernel_rfl) (fun _ _ _ h => h) (Or.inl ⟨by rfl, ?_⟩) (hSm.out _ ⟨A_q151.out, B_q151.out⟩) ?_
      rotate_left 1
      next => intro w hSw; rw [hSe] at hSw; obtain ⟨⟨u00, u01, u02, u03, _, _⟩, ⟨u10, u11, u12, u13, _, _⟩⟩ := hSw; go_simp; try with_reducible rfl
      try simp only [Act.put, List.getElem_toArray, List.getElem_cons_zero, List.getElem_cons_succ, List.setIfInBounds_toArray, List.set_cons_zero, List.set_cons_succ]
      refine wpAnyH_take (i := 5) (v := ?_) rfl (by kernel_rfl) (by kernel_rfl) (by kernel_rfl) (fun _ _ _ h => h) (Or.inl ⟨by rfl, ?_⟩) (hSm.out _ ⟨A_q151.out, B_q151.out⟩) ?_
      rotate_left 1
      next => intro w hSw; rw [hSe] at hSw; obtain ⟨⟨u00, u01, u02, u03, _, _⟩, ⟨u10, u11, u12, u13, _, _⟩⟩ := hSw; go_simp; try with_reducible rfl
      try simp only [Act.put, List.getElem_toArray, List.getElem_cons_zero, List.getElem_cons_succ, List.setIfInBounds_toArray, List.set_cons_zero, List.set_cons_succ]
      refine wpAnyH_take (i := 6) (v := ?_) rfl (by kernel_rfl) (by kernel_rfl) (by kernel_rfl) (fun _ _ _ h => h) (Or.inl ⟨by rfl, ?_⟩) (hSm.out _ ⟨A_q151.out, B_q151.out⟩) ?_
      rotate_left 1
      next => intro w hSw; rw [hSe] at hSw; obtain ⟨⟨u00, u01, u02, u03, _, _⟩, ⟨u10, u11, u12, u13, _, _⟩⟩ := hSw; go_simp; try with_reducible rfl
      try simp only [Act.put, List.getElem_toArray, List.getElem_cons_zero, List.getElem_cons_succ, List.setIfInBounds_toArray, List.set_cons_zero, List.set_cons_succ]
      refine wpAnyH_take (i := 7) (v := ?_) rfl (by kernel_rfl) (by kernel_rfl) (by kernel_rfl) (fun _ _ _ h => h) (Or.inl ⟨by rfl, ?_⟩) (hSm.out _ ⟨A_q151.out, B_q151.out⟩) ?_
      rotate_left 1
      next => intro w hSw; rw [hSe] at hSw; obtain ⟨⟨u00, u01, u02, u03, _, _⟩, ⟨u10, u11, u12, u13, _, _⟩⟩ := hSw; go_simp; try with_reducible rfl
      try simp only [Act.put, List.getElem_toArray, List.getElem_cons_zero, List.getElem_cons_succ, List.setIfInBounds_toArray, List.set_cons_zero, List.set_cons_succ]
      refine wpAnyH_take (i := 8) (v := ?_) rfl (by kernel_rfl) (by kernel_rfl) (by kernel_rfl) (fun _ _ _ h => h) (Or.inl ⟨by rfl, ?_⟩) (hSm.out _ ⟨A_q151.out, B_q151.out⟩) ?_
      rotate_left 1
      next => intro w hSw; rw [hSe] at hSw; obtain ⟨⟨u00, u01, u02, u03, _, _⟩, ⟨u10, u11, u12, u13, _, _⟩⟩ := hSw; go_simp; try with_reducible rfl
      try simp only [Act.put, List.getElem_toArray, List.getElem_cons_zero, List.getElem_cons_succ, List.setIfInBounds_toArray, List.set_cons_zero, List.set_cons_succ]
      try simp only [Act.put, List.getElem_toArray, List.getElem_cons_zero, List.getElem_cons_succ, List.setIfInBounds_toArray, List.set_cons_zero, List.set_cons_succ]
      refine wpAnyH_ready (rs := [4]) (by kernel_rfl) (by simp) ?_
      refine AllReadyH.cons rfl (fun K hK => ?_) AllReadyH.nil
      go_simp
      refine (M1.out _).mono ?_
      rintro e wq152 ⟨rfl, hbc⟩
      have A_q152 := Lib.hid (A_q151.out.below hbc A_q151.out.2.2.2.2.2)
      have B_q152 := Lib.hid (B_q151.out.below hbc B_q151.out.2.2.2.2.2)
      have Z_q152 := Lib.hid (Z_q151.out.trans (hbc.mono Z_q151.out.size))
      dsimp only
      refine hK.out _ _ (hSm.out _ ⟨A_q152.out, B_q152.out⟩) (fun _ => ?_)
      clear hK K hbc
      try simp only [Act.put, List.getElem_toArray, List.getElem_cons_zero, List.getElem_cons_succ, List.setIfInBounds_toArray, List.set_cons_zero, List.set_cons_succ]
      refine wpAnyH_ready (rs := [9]) (by kernel_rfl) (by simp) ?_
      refine AllReadyH.cons rfl (fun K hK => ?_) AllReadyH.nil
      go_simp
      refine (M2.out _).mono ?_
      rintro e wq153 ⟨rfl, hbc⟩
      have A_q153 := Lib.hid (A_q152.out.below hbc A_q152.out.2.2.2.2.2)
      have B_q153 := Lib.hid (B_q152.out.below hbc B_q152.out.2.2.2.2.2)
      have Z_q153 := Lib.hid (Z_q152.out.trans (hbc.mono Z_q152.out.size))
      dsimp only
      refine hK.out _ _ (hSm.out _ ⟨A_q153.out, B_q153.out⟩) (fun _ => ?_)
      clear hK K hbc
      try simp only [Act.put, List.getElem_toArray, List.getElem_cons_zero, List.getElem_cons_succ, List.setIfInBounds_toArray, List.set_cons_zero, List.set_cons_succ]
      refine wpAnyH_ready (rs := [10]) (by kernel_rfl) (by simp) ?_
      refine AllReadyH.cons rfl (fun K hK => ?_) AllReadyH.nil
      go_simp
      refine (C1.out _).mono ?_
      rintro e wq154 ⟨rfl, hbc⟩
      have A_q154 := Lib.hid (A_q153.out.below hbc A_q153.out.2.2.2.2.2)
      have B_q154 := Lib.hid (B_q153.out.below hbc B_q153.out.2.2.2.2.2)
      have Z_q154 := Lib.hid (Z_q153.out.trans (hbc.mono Z_q153.out.size))
      dsimp only
      refine hK.out _ _ (hSm.out _ ⟨A_q154.out, B_q154.out⟩) (fun _ => ?_)
      clear hK K hbc
      refine wpAnyH_take (i := 11) (v := ?_) rfl (by kernel_rfl) (by kernel_rfl) (by kernel_rfl) (fun _ _ _ h => h) (Or.inl ⟨by rfl, ?_⟩) (hSm.out _ ⟨A_q154.out, B_q154.out⟩) ?_
      rotate_left 1
      next => intro w hSw; rw [hSe] at hSw; obtain ⟨⟨u00, u01, u02, u03, _, _⟩, ⟨u10, u11, u12, u13, _, _⟩⟩ := hSw; go_simp; try with_reducible rfl
      try simp only [Act.put, List.getElem_toArray, List.getElem_cons_zero, List.getElem_cons_succ, List.setIfInBounds_toArray, List.set_cons_zero, List.set_cons_succ]
      refine wpAnyH_done (by kernel_rfl) ?_ _
      go_wp2_with fail
      go_ret
      exact ⟨rfl, Z_q154.out⟩
    · obtain ⟨z0, z1, z2, z3, _, _⟩ := B_q1.out
      go_simp
      refine hK.out _ _ trivial (fun _ => ?_)
      clear hK K z0 z1 z2 z3
      try simp only [Act.put, List.getElem_toArray, List.getElem_cons_zero, List.getElem_cons_succ, List.setIfInBounds_toArray, List.set_cons_zero, List.set_cons_succ]
      refine wpAnyH_ready (rs := [1]) (by kernel_rfl) (by simp) ?_
      refine AllReadyH.cons rfl (fun K hK => ?_) AllReadyH.nil
      go_simp
      refine (H1.out _).mono ?_
      rintro e wq6 ⟨rfl, hbc⟩
      have A_q6 := Lib.hid (A_q1.out.below hbc A_q1.out.2.2.2.2.2)
      have B_q6 := Lib.hid (B_q1.out.below hbc B_q1.out.2.2.2.2.2)
      have Z_q6 := Lib.hid (Z_q1.out.trans (hbc.mono Z_q1.out.size))
      dsimp only
      refine hK.out _ _ trivial (fun _ => ?_)
      clear hK K hbc
      try simp only [Act.put, List.getElem_toArray, List.getElem_cons_zero, List.getElem_cons_succ, List.setIfInBounds_toArray, List.set_cons_zero, List.set_cons_succ]
      refine wpAnyH_ready (rs := [3]) (by kernel_rfl) (by simp) ?_
      refine AllReadyH.cons rfl (fun K hK => ?_) AllReadyH.nil
      go_simp
      refine (H2.out _).mono ?_
      rintro e wq7 ⟨rfl, hbc⟩
      have A_q7 := Lib.hid (A_q6.out.below hbc A_q6.out.2.2.2.2.2)
      have B_q7 := Lib.hid (B_q6.out.below hbc B_q6.out.2.2.2.2.2)
      have Z_q7 := Lib.hid (Z_q6.out.trans (hbc.mono Z_q6.out.size))
      dsimp only
      refine hK.out _ _ trivial (fun _ => ?_)
      clear hK K hbc
      try simp only [Act.put, List.getElem_toArray, List.getElem_cons_zero, List.getElem_cons_succ, List.setIfInBounds_toArray, List.set_cons_zero, List.set_cons_succ]
      refine wpAnyH_ready (rs := [4]) (by kernel_rfl) (by simp) ?_
      refine AllReadyH.cons rfl (fun K hK => ?_) AllReadyH.nil
      obtain ⟨z0, z1, z2, z3, zf, _⟩ := A_q7.out
      have zf0 := zf 0
      have zf1 := zf 1
      have zf2 := zf 2
      have zf3 := zf 3
      have A_q8 := Lib.hid (A_q7.out.set4 (.bool CP.neg) (.string CP.mag) (.bool CQ.neg) (.string CQ.mag))
      have B_q8 := Lib.hid (((((B_q7.out).far ⟨ga, 0, none⟩ (.bool CP.neg) ab).far ⟨ga, 1, none⟩ (.string CP.mag) ab).far ⟨ga, 2, none⟩ (.bool CQ.neg) ab).far ⟨ga, 3, none⟩ (.string CQ.mag) ab)
      have Z_q8 := Lib.hid (((((Z_q7.out).setCell (p := ⟨ga, 0, none⟩) le1 (.bool CP.neg)).setCell (p := ⟨ga, 1, none⟩) le1 (.string CP.mag)).setCell (p := ⟨ga, 2, none⟩) le1 (.bool CQ.neg)).setCell (p := ⟨ga, 3, none⟩) le1 (.string CQ.mag))
      go_simp
      refine hK.out _ _ trivial (fun _ => ?_)
      clear hK K z0 z1 z2 z3 zf zf0 zf1 zf2 zf3
      try simp only [Act.put, List.getElem_toArray, List.getElem_cons_zero, List.getElem_cons_succ, List.setIfInBounds_toArray, List.set_cons_zero, List.set_cons_succ]
      refine wpAnyH_ready (rs := [5]) (by kernel_rfl) (by simp) ?_
      refine AllReadyH.cons rfl (fun K hK => ?_) AllReadyH.nil
      obtain ⟨z0, z1, z2, z3, zf, _⟩ := B_q8.out
      have zf0 := zf 0
      have zf1 := zf 1
      have zf2 := zf 2
      have zf3 := zf 3
      have A_q9 := Lib.hid (((((A_q8.out).far ⟨gb, 0, none⟩ (.bool C0.neg) ba).far ⟨gb, 1, none⟩ (.string C0.mag) ba).far ⟨gb, 2, none⟩ (.bool C9.neg) ba).far ⟨gb, 3, none⟩ (.string C9.mag) ba)
      have B_q9 := Lib.hid (B_q8.out.set4 (.bool C0.neg) (.string C0.mag) (.bool C9.neg) (.string C9.mag))
      have Z_q9 := Lib.hid (((((Z_q8.out).setCell (p := ⟨gb, 0, none⟩) le2 (.bool C0.neg)).setCell (p := ⟨gb, 1, none⟩) le2 (.string C0.mag)).setCell (p := ⟨gb, 2, none⟩) le2 (.bool C9.neg)).setCell (p := ⟨gb, 3, none⟩) le2 (.string C9.mag))
      go_simp
      refine hK.out _ _ trivial (fun _ => ?_)
      clear hK K z0 z1 z2 z3 zf zf0 zf1 zf2 zf3
      refine wpAnyH_done (by kernel_rfl) ?_ _
      go_upto_region 2 with (fail)
      obtain ⟨SS, hSe⟩ : ∃ SS : World → Prop, SS = fun W => Box4 W ga (.bool CP.neg) (.string CP.mag) (.bool CQ.neg) (.string CQ.mag) ∧ Box4 W gb (.bool C0.neg) (.string C0.mag) (.bool C9.neg) (.string C9.mag) := ⟨_, rfl⟩
      have hSm : Hid (∀ W, (Box4 W ga (.bool CP.neg) (.string CP.mag) (.bool CQ.neg) (.string CQ.mag) ∧ Box4 W gb (.bool C0.neg) (.string C0.mag) (.bool C9.neg) (.string C9.mag)) → SS W) := Lib.hid (fun W hW => by rw [hSe]; exact hW)
      refine wp_region_held_drew (S := SS) (by kernel_rfl) (hSm.out _ ⟨Box4.drw A_q9.out, Box4.drw B_q9.out⟩) (fun _ => ?_)
      have A_q191 := Lib.hid (Box4.drw A_q9.out)
      have B_q191 := Lib.hid (Box4.drw B_q9.out)
      have Z_q191 := Lib.hid (Z_q9.out.drew)
      refine wpAnyH_take (i := 0) (v := ?_) rfl (by kernel_rfl) (by kernel_rfl) (by kernel_rfl) (fun _ _ _ h => h) (Or.inl ⟨by rfl, ?_⟩) (hSm.out _ ⟨A_q191.out, B_q191.out⟩) ?_
      rotate_left 1
      next => intro w hSw; rw [hSe] at hSw; obtain ⟨⟨u00, u01, u02, u03, _, _⟩, ⟨u10, u11, u12, u13, _, _⟩⟩ := hSw; go_simp; try with_reducible rfl
      try simp only [Act.put, List.getElem_toArray, List.getElem_cons_zero, List.getElem_cons_succ, List.setIfInBounds_toArray, List.set_cons_zero, List.set_cons_succ]
      refine wpAnyH_take (i := 1) (v := ?_) rfl (by kernel_rfl) (by kernel_rfl) (by kernel_rfl) (fun _ _ _ h => h) (Or.inl ⟨by rfl, ?_⟩) (hSm.out _ ⟨A_q191.out, B_q191.out⟩) ?_
      rotate_left 1
      next => intro w hSw; rw [hSe] at hSw; obtain ⟨⟨u00, u01, u02, u03, _, _⟩, ⟨u10, u11, u12, u13, _, _⟩⟩ := hSw; go_simp; try with_reducible rfl
      try simp only [Act.put, List.getElem_toArray, List.getElem_cons_zero, List.getElem_cons_succ, List.setIfInBounds_toArray, List.set_cons_zero, List.set_cons_succ]
      refine wpAnyH_take (i := 2) (v := ?_) rfl (by kernel_rfl) (by kernel_rfl) (by kernel_rfl) (fun _ _ _ h => h) (Or.inl ⟨by rfl, ?_⟩) (hSm.out _ ⟨A_q191.out, B_q191.out⟩) ?_
      rotate_left 1
      next => intro w hSw; rw [hSe] at hSw; obtain ⟨⟨u00, u01, u02, u03, _, _⟩, ⟨u10, u11, u12, u13, _, _⟩⟩ := hSw; go_simp; try with_reducible rfl
      try simp only [Act.put, List.getElem_toArray, List.getElem_cons_zero, List.getElem_cons_succ, List.setIfInBounds_toArray, List.set_cons_zero, List.set_cons_succ]
      refine wpAnyH_take (i := 3) (v := ?_) rfl (by kernel_rfl) (by kernel_rfl) (by kernel_rfl) (fun _ _ _ h => h) (Or.inl ⟨by rfl, ?_⟩) (hSm.out _ ⟨A_q191.out, B_q191.out⟩) ?_
      rotate_left 1
      next => intro w hSw; rw [hSe] at hSw; obtain ⟨⟨u00, u01, u02, u03, _, _⟩, ⟨u10, u11, u12, u13, _, _⟩⟩ := hSw; go_simp; try with_reducible rfl
      try simp only [Act.put, List.getElem_toArray, List.getElem_cons_zero, List.getElem_cons_succ, List.setIfInBounds_toArray, List.set_cons_zero, List.set_cons_succ]
      refine wpAnyH_take (i := 5) (v := ?_) rfl (by kernel_rfl) (by kernel_rfl) (by kernel_rfl) (fun _ _ _ h => h) (Or.inl ⟨by rfl, ?_⟩) (hSm.out _ ⟨A_q191.out, B_q191.out⟩) ?_
      rotate_left 1
      next => intro w hSw; rw [hSe] at hSw; obtain ⟨⟨u00, u01, u02, u03, _, _⟩, ⟨u10, u11, u12, u13, _, _⟩⟩ := hSw; go_simp; try with_reducible rfl
      try simp only [Act.put, List.getElem_toArray, List.getElem_cons_zero, List.getElem_cons_succ, List.setIfInBounds_toArray, List.set_cons_zero, List.set_cons_succ]
      refine wpAnyH_take (i := 6) (v := ?_) rfl (by kernel_rfl) (by kernel_rfl) (by kernel_rfl) (fun _ _ _ h => h) (Or.inl ⟨by rfl, ?_⟩) (hSm.out _ ⟨A_q191.out, B_q191.out⟩) ?_
      rotate_left 1
      next => intro w hSw; rw [hSe] at hSw; obtain ⟨⟨u00, u01, u02, u03, _, _⟩, ⟨u10, u11, u12, u13, _, _⟩⟩ := hSw; go_simp; try with_reducible rfl
      try simp only [Act.put, List.getElem_toArray, List.getElem_cons_zero, List.getElem_cons_succ, List.setIfInBounds_toArray, List.set_cons_zero, List.set_cons_succ]
      refine wpAnyH_take (i := 7) (v := ?_) rfl (by kernel_rfl) (by kernel_rfl) (by kernel_rfl) (fun _ _ _ h => h) (Or.inl ⟨by rfl, ?_⟩) (hSm.out _ ⟨A_q191.out, B_q191.out⟩) ?_
      rotate_left 1
      next => intro w hSw; rw [hSe] at hSw; obtain ⟨⟨u00, u01, u02, u03, _, _⟩, ⟨u10, u11, u12, u13, _, _⟩⟩ := hSw; go_simp; try with_reducible rfl
      try simp only [Act.put, List.getElem_toArray, List.getElem_cons_zero, List.getElem_cons_succ, List.setIfInBounds_toArray, List.set_cons_zero, List.set_cons_succ]
      refine wpAnyH_take (i := 8) (v := ?_) rfl (by kernel_rfl) (by kernel_rfl) (by kernel_rfl) (fun _ _ _ h => h) (Or.inl ⟨by rfl, ?_⟩) (hSm.out _ ⟨A_q191.out, B_q191.out⟩) ?_
      rotate_left 1
      next => intro w hSw; rw [hSe] at hSw; obtain ⟨⟨u00, u01, u02, u03, _, _⟩, ⟨u10, u11, u12, u13, _, _⟩⟩ := hSw; go_simp; try with_reducible rfl
      try simp only [Act.put, List.getElem_toArray, List.getElem_cons_zero, List.getElem_cons_succ, List.setIfInBounds_toArray, List.set_cons_zero, List.set_cons_succ]
      try simp only [Act.put, List.getElem_toArray, List.getElem_cons_zero, List.getElem_cons_succ, List.setIfInBounds_toArray, List.set_cons_zero, List.set_cons_succ]
      refine wpAnyH_ready (rs := [4]) (by kernel_rfl) (by simp) ?_
      refine AllReadyH.cons rfl (fun K hK => ?_) AllReadyH.nil
      go_simp
      refine (M1.out _).mono ?_
      rintro e wq192 ⟨rfl, hbc⟩
      have A_q192 := Lib.hid (A_q191.out.below hbc A_q191.out.2.2.2.2.2)
      have B_q192 := Lib.hid (B_q191.out.below hbc B_q191.out.2.2.2.2.2)
      have Z_q192 := Lib.hid (Z_q191.out.trans (hbc.mono Z_q191.out.size))
      dsimp only
      refine hK.out _ _ (hSm.out _ ⟨A_q192.out, B_q192.out⟩) (fun _ => ?_)
      clear hK K hbc
      try simp only [Act.put, List.getElem_toArray, List.getElem_cons_zero, List.getElem_cons_succ, List.setIfInBounds_toArray, List.set_cons_zero, List.set_cons_succ]
      refine wpAnyH_ready (rs := [9]) (by kernel_rfl) (by simp) ?_
      refine AllReadyH.cons rfl (fun K hK => ?_) AllReadyH.nil
      go_simp
      refine (M2.out _).mono ?_
      rintro e wq193 ⟨rfl, hbc⟩
      have A_q193 := Lib.hid (A_q192.out.below hbc A_q192.out.2.2.2.2.2)
      have B_q193 := Lib.hid (B_q192.out.below hbc B_q192.out.2.2.2.2.2)
      have Z_q193 := Lib.hid (Z_q192.out.trans (hbc.mono Z_q192.out.size))
      dsimp only
      refine hK.out _ _ (hSm.out _ ⟨A_q193.out, B_q193.out⟩) (fun _ => ?_)
      clear hK K hbc
      try simp only [Act.put, List.getElem_toArray, List.getElem_cons_zero, List.getElem_cons_succ, List.setIfInBounds_toArray, List.set_cons_zero, List.set_cons_succ]
      refine wpAnyH_ready (rs := [10]) (by kernel_rfl) (by simp) ?_
      refine AllReadyH.cons rfl (fun K hK => ?_) AllReadyH.nil
      go_simp
      refine (C1.out _).mono ?_
      rintro e wq194 ⟨rfl, hbc⟩
      have A_q194 := Lib.hid (A_q193.out.below hbc A_q193.out.2.2.2.2.2)
      have B_q194 := Lib.hid (B_q193.out.below hbc B_q193.out.2.2.2.2.2)
      have Z_q194 := Lib.hid (Z_q193.out.trans (hbc.mono Z_q193.out.size))
      dsimp only
      refine hK.out _ _ (hSm.out _ ⟨A_q194.out, B_q194.out⟩) (fun _ => ?_)
      clear hK K hbc
      refine wpAnyH_take (i := 11) (v := ?_) rfl (by kernel_rfl) (by kernel_rfl) (by kernel_rfl) (fun _ _ _ h => h) (Or.inl ⟨by rfl, ?_⟩) (hSm.out _ ⟨A_q194.out, B_q194.out⟩) ?_
      rotate_left 1
      next => intro w hSw; rw [hSe] at hSw; obtain ⟨⟨u00, u01, u02, u03, _, _⟩, ⟨u10, u11, u12, u13, _, _⟩⟩ := hSw; go_simp; try with_reducible rfl
      try simp only [Act.put, List.getElem_toArray, List.getElem_cons_zero, List.getElem_cons_succ, List.setIfInBounds_toArray, List.set_cons_zero, List.set_cons_succ]
      refine wpAnyH_done (by kernel_rfl) ?_ _
      go_wp2_with fail
      go_ret
      exact ⟨rfl, Z_q194.out⟩
  · obtain ⟨z0, z1, z2, z3, _, _⟩ := B_q1.out
    go_simp
    refine hK.out _ _ trivial (fun _ => ?_)
    clear hK K z0 z1 z2 z3
    try simp only [Act.put, List.getElem_toArray, List.getElem_cons_zero, List.getElem_cons_succ, List.setIfInBounds_toArray, List.set_cons_zero, List.set_cons_succ]
    refine wpAnyH_ready (rs := [0]) (by kernel_rfl) (by simp) ?_
    refine AllReadyH.cons rfl (fun K hK => ?_) AllReadyH.nil
    obtain ⟨z0, z1, z2, z3, _, _⟩ := A_q1.out
    go_simp
    refine hK.out _ _ trivial (fun _ => ?_)
    clear hK K z0 z1 z2 z3
    try simp only [Act.put, List.getElem_toArray, List.getElem_cons_zero, List.getElem_cons_succ, List.setIfInBounds_toArray, List.set_cons_zero, List.set_cons_succ]
    refine wpAnyH_ready (rs := [1]) (by kernel_rfl) (by simp) ?_
    refine AllReadyH.cons rfl (fun K hK => ?_) AllReadyH.nil
    go_simp
    refine (H1.out _).mono ?_
    rintro e wq10 ⟨rfl, hbc⟩
    have A_q10 := Lib.hid (A_q1.out.below hbc A_q1.out.2.2.2.2.2)
    have B_q10 := Lib.hid (B_q1.out.below hbc B_q1.out.2.2.2.2.2)
    have Z_q10 := Lib.hid (Z_q1.out.trans (hbc.mono Z_q1.out.size))
    dsimp only
    refine hK.out _ _ trivial (fun _ => ?_)
    clear hK K hbc
    try simp only [Act.put, List.getElem_toArray, List.getElem_cons_zero, List.getElem_cons_succ, List.setIfInBounds_toArray, List.set_cons_zero, List.set_cons_succ]
    refine wpAnyH_ready (rs := [3]) (by kernel_rfl) (by simp) ?_
    refine AllReadyH.cons rfl (fun K hK => ?_) AllReadyH.nil
    go_simp
    refine (H2.out _).mono ?_
    rintro e wq11 ⟨rfl, hbc⟩
    have A_q11 := Lib.hid (A_q10.out.below hbc A_q10.out.2.2.2.2.2)
    have B_q11 := Lib.hid (B_q10.out.below hbc B_q10.out.2.2.2.2.2)
    have Z_q11 := Lib.hid (Z_q10.out.trans (hbc.mono Z_q10.out.size))
    dsimp only
    refine hK.out _ _ trivial (fun _ => ?_)
    clear hK K hbc
    try simp only [Act.put, List.getElem_toArray, List.getElem_cons_zero, List.getElem_cons_succ, List.setIfInBounds_toArray, List.set_cons_zero, List.set_cons_succ]
    refine wpAnyH_ready (rs := [4]) (by kernel_rfl) (by simp) ?_
    refine AllReadyH.cons rfl (fun K hK => ?_) AllReadyH.nil
    obtain ⟨z0, z1, z2, z3, zf, _⟩ := A_q11.out
    have zf0 := zf 0
    have zf1 := zf 1
    have zf2 := zf 2
    have zf3 := zf 3
    have A_q12 := Lib.hid (A_q11.out.set4 (.bool CP.neg) (.string CP.mag) (.bool CQ.neg) (.string CQ.mag))
    have B_q12 := Lib.hid (((((B_q11.out).far ⟨ga, 0, none⟩ (.bool CP.neg) ab).far ⟨ga, 1, none⟩ (.string CP.mag) ab).far ⟨ga, 2, none⟩ (.bool CQ.neg) ab).far ⟨ga, 3, none⟩ (.string CQ.mag) ab)
    have Z_q12 := Lib.hid (((((Z_q11.out).setCell (p := ⟨ga, 0, none⟩) le1 (.bool CP.neg)).setCell (p := ⟨ga, 1, none⟩) le1 (.string CP.mag)).setCell (p := ⟨ga, 2, none⟩) le1 (.bool CQ.neg)).setCell (p := ⟨ga, 3, none⟩) le1 (.string CQ.mag))
    go_simp
    refine hK.out _ _ trivial (fun _ => ?_)
    clear hK K z0 z1 z2 z3 zf zf0 zf1 zf2 zf3
    try simp only [Act.put, List.getElem_toArray, List.getElem_cons_zero, List.getElem_cons_succ, List.setIfInBounds_toArray, List.set_cons_zero, List.set_cons_succ]
    refine wpAnyH_ready (rs := [5]) (by kernel_rfl) (by simp) ?_
    refine AllReadyH.cons rfl (fun K hK => ?_) AllReadyH.nil
    obtain ⟨z0, z1, z2, z3, zf, _⟩ := B_q12.out
    have zf0 := zf 0
    have zf1 := zf 1
    have zf2 := zf 2
    have zf3 := zf 3
    have A_q13 := Lib.hid (((((A_q12.out).far ⟨gb, 0, none⟩ (.bool C0.neg) ba).far ⟨gb, 1, none⟩ (.string C0.mag) ba).far ⟨gb, 2, none⟩ (.bool C9.neg) ba).far ⟨gb, 3, none⟩ (.string C9.mag) ba)
    have B_q13 := Lib.hid (B_q12.out.set4 (.bool C0.neg) (.string C0.mag) (.bool C9.neg) (.string C9.mag))
    have Z_q13 := Lib.hid (((((Z_q12.out).setCell (p := ⟨gb, 0, none⟩) le2 (.bool C0.neg)).setCell (p := ⟨gb, 1, none⟩) le2 (.string C0.mag)).setCell (p := ⟨gb, 2, none⟩) le2 (.bool C9.neg)).setCell (p := ⟨gb, 3, none⟩) le2 (.string C9.mag))
    go_simp
    refine hK.out _ _ trivial (fun _ => ?_)
    clear hK K z0 z1 z2 z3 zf zf0 zf1 zf2 zf3
    refine wpAnyH_done (by kernel_rfl) ?_ _
    go_upto_region 2 with (fail)
    obtain ⟨SS, hSe⟩ : ∃ SS : World → Prop, SS = fun W => Box4 W ga (.bool CP.neg) (.string CP.mag) (.bool CQ.neg) (.string CQ.mag) ∧ Box4 W gb (.bool C0.neg) (.string C0.mag) (.bool C9.neg) (.string C9.mag) := ⟨_, rfl⟩
    have hSm : Hid (∀ W, (Box4 W ga (.bool CP.neg) (.string CP.mag) (.bool CQ.neg) (.string CQ.mag) ∧ Box4 W gb (.bool C0.neg) (.string C0.mag) (.bool C9.neg) (.string C9.mag)) → SS W) := Lib.hid (fun W hW => by rw [hSe]; exact hW)
    refine wp_region_held_drew (S := SS) (by kernel_rfl) (hSm.out _ ⟨Box4.drw A_q13.out, Box4.drw B_q13.out⟩) (fun _ => ?_)
    have A_q231 := Lib.hid (Box4.drw A_q13.out)
    have B_q231 := Lib.hid (Box4.drw B_q13.out)
    have Z_q231 := Lib.hid (Z_q13.out.drew)
    refine wpAnyH_take (i := 0) (v := ?_) rfl (by kernel_rfl) (by kernel_rfl) (by kernel_rfl) (fun _ _ _ h => h) (Or.inl ⟨by rfl, ?_⟩) (hSm.out _ ⟨A_q231.out, B_q231.out⟩) ?_
    rotate_left 1
    next => intro w hSw; rw [hSe] at hSw; obtain ⟨⟨u00, u01, u02, u03, _, _⟩, ⟨u10, u11, u12, u13, _, _⟩⟩ := hSw; go_simp; try with_reducible rfl
    try simp only [Act.put, List.getElem_toArray, List.getElem_cons_zero, List.getElem_cons_succ, List.setIfInBounds_toArray, List.set_cons_zero, List.set_cons_succ]
    refine wpAnyH_take (i := 1) (v := ?_) rfl (by kernel_rfl) (by kernel_rfl) (by kernel_rfl) (fun _ _ _ h => h) (Or.inl ⟨by rfl, ?_⟩) (hSm.out _ ⟨A_q231.out, B_q231.out⟩) ?_
    rotate_left 1
    next => intro w hSw; rw [hSe] at hSw; obtain ⟨⟨u00, u01, u02, u03, _, _⟩, ⟨u10, u11, u12, u13, _, _⟩⟩ := hSw; go_simp; try with_reducible rfl
    try simp only [Act.put, List.getElem_toArray, List.getElem_cons_zero, List.getElem_cons_succ, List.setIfInBounds_toArray, List.set_cons_zero, List.set_cons_succ]
    refine wpAnyH_take (i := 2) (v := ?_) rfl (by kernel_rfl) (by kernel_rfl) (by kernel_rfl) (fun _ _ _ h => h) (Or.inl ⟨by rfl, ?_⟩) (hSm.out _ ⟨A_q231.out, B_q231.out⟩) ?_
    rotate_left 1
    next => intro w hSw; rw [hSe] at hSw; obtain ⟨⟨u00, u01, u02, u03, _, _⟩, ⟨u10, u11, u12, u13, _, _⟩⟩ := hSw; go_simp; try with_reducible rfl
    try simp only [Act.put, List.getElem_toArray, List.getElem_cons_zero, List.getElem_cons_succ, List.setIfInBounds_toArray, List.set_cons_zero, List.set_cons_succ]
    refine wpAnyH_take (i := 3) (v := ?_) rfl (by kernel_rfl) (by kernel_rfl) (by kernel_rfl) (fun _ _ _ h => h) (Or.inl ⟨by rfl, ?_⟩) (hSm.out _ ⟨A_q231.out, B_q231.out⟩) ?_
    rotate_left 1
    next => intro w hSw; rw [hSe] at hSw; obtain ⟨⟨u00, u01, u02, u03, _, _⟩, ⟨u10, u11, u12, u13, _, _⟩⟩ := hSw; go_simp; try with_reducible rfl
    try simp only [Act.put, List.getElem_toArray, List.getElem_cons_zero, List.getElem_cons_succ, List.setIfInBounds_toArray, List.set_cons_zero, List.set_cons_succ]
    refine wpAnyH_take (i := 5) (v := ?_) rfl (by kernel_rfl) (by kernel_rfl) (by kernel_rfl) (fun _ _ _ h => h) (Or.inl ⟨by rfl, ?_⟩) (hSm.out _ ⟨A_q231.out, B_q231.out⟩) ?_
    rotate_left 1
    next => intro w hSw; rw [hSe] at hSw; obtain ⟨⟨u00, u01, u02, u03, _, _⟩, ⟨u10, u11, u12, u13, _, _⟩⟩ := hSw; go_simp; try with_reducible rfl
    try simp only [Act.put, List.getElem_toArray, List.getElem_cons_zero, List.getElem_cons_succ, List.setIfInBounds_toArray, List.set_cons_zero, List.set_cons_succ]
    refine wpAnyH_take (i := 6) (v := ?_) rfl (by kernel_rfl) (by kernel_rfl) (by kernel_rfl) (fun _ _ _ h => h) (Or.inl ⟨by rfl, ?_⟩) (hSm.out _ ⟨A_q231.out, B_q231.out⟩) ?_
    rotate_left 1
    next => intro w hSw; rw [hSe] at hSw; obtain ⟨⟨u00, u01, u02, u03, _, _⟩, ⟨u10, u11, u12, u13, _, _⟩⟩ := hSw; go_simp; try with_reducible rfl
    try simp only [Act.put, List.getElem_toArray, List.getElem_cons_zero, List.getElem_cons_succ, List.setIfInBounds_toArray, List.set_cons_zero, List.set_cons_succ]
    refine wpAnyH_take (i := 7) (v := ?_) rfl (by kernel_rfl) (by kernel_rfl) (by kernel_rfl) (fun _ _ _ h => h) (Or.inl ⟨by rfl, ?_⟩) (hSm.out _ ⟨A_q231.out, B_q231.out⟩) ?_
    rotate_left 1
    next => intro w hSw; rw [hSe] at hSw; obtain ⟨⟨u00, u01, u02, u03, _, _⟩, ⟨u10, u11, u12, u13, _, _⟩⟩ := hSw; go_simp; try with_reducible rfl
    try simp only [Act.put, List.getElem_toArray, List.getElem_cons_zero, List.getElem_cons_succ, List.setIfInBounds_toArray, List.set_cons_zero, List.set_cons_succ]
    refine wpAnyH_take (i := 8) (v := ?_) rfl (by kernel_rfl) (by kernel_rfl) (by kernel_rfl) (fun _ _ _ h => h) (Or.inl ⟨by rfl, ?_⟩) (hSm.out _ ⟨A_q231.out, B_q231.out⟩) ?_
    rotate_left 1
    next => intro w hSw; rw [hSe] at hSw; obtain ⟨⟨u00, u01, u02, u03, _, _⟩, ⟨u10, u11, u12, u13, _, _⟩⟩ := hSw; go_simp; try with_reducible rfl
    try simp only [Act.put, List.getElem_toArray, List.getElem_cons_zero, List.getElem_cons_succ, List.setIfInBounds_toArray, List.set_cons_zero, List.set_cons_succ]
    try simp only [Act.put, List.getElem_toArray, List.getElem_cons_zero, List.getElem_cons_succ, List.setIfInBounds_toArray, List.set_cons_zero, List.set_cons_succ]
    refine wpAnyH_ready (rs := [4]) (by kernel_rfl) (by simp) ?_
    refine AllReadyH.cons rfl (fun K hK => ?_) AllReadyH.nil
    go_simp
    refine (M1.out _).mono ?_
    rintro e wq232 ⟨rfl, hbc⟩
    have A_q232 := Lib.hid (A_q231.out.below hbc A_q231.out.2.2.2.2.2)
    have B_q232 := Lib.hid (B_q231.out.below hbc B_q231.out.2.2.2.2.2)
    have Z_q232 := Lib.hid (Z_q231.out.trans (hbc.mono Z_q231.out.size))
    dsimp only
    refine hK.out _ _ (hSm.out _ ⟨A_q232.out, B_q232.out⟩) (fun _ => ?_)
    clear hK K hbc
    try simp only [Act.put, List.getElem_toArray, List.getElem_cons_zero, List.getElem_cons_succ, List.setIfInBounds_toArray, List.set_cons_zero, List.set_cons_succ]
    refine wpAnyH_ready (rs := [9]) (by kernel_rfl) (by simp) ?_
    refine AllReadyH.cons rfl (fun K hK => ?_) AllReadyH.nil
    go_simp
    refine (M2.out _).mono ?_
    rintro e wq233 ⟨rfl, hbc⟩
    have A_q233 := Lib.hid (A_q232.out.below hbc A_q232.out.2.2.2.2.2)
    have B_q233 := Lib.hid (B_q232.out.below hbc B_q232.out.2.2.2.2.2)
    have Z_q233 := Lib.hid (Z_q232.out.trans (hbc.mono Z_q232.out.size))
    dsimp only
    refine hK.out _ _ (hSm.out _ ⟨A_q233.out, B_q233.out⟩) (fun _ => ?_)
    clear hK K hbc
    try simp only [Act.put, List.getElem_toArray, List.getElem_cons_zero, List.getElem_cons_succ, List.setIfInBounds_toArray, List.set_cons_zero, List.set_cons_succ]
    refine wpAnyH_ready (rs := [10]) (by kernel_rfl) (by simp) ?_
    refine AllReadyH.cons rfl (fun K hK => ?_) AllReadyH.nil
    go_simp
    refine (C1.out _).mono ?_
    rintro e wq234 ⟨rfl, hbc⟩
    have A_q234 := Lib.hid (A_q233.out.below hbc A_q233.out.2.2.2.2.2)
    have B_q234 := Lib.hid (B_q233.out.below hbc B_q233.out.2.2.2.2.2)
    have Z_q234 := Lib.hid (Z_q233.out.trans (hbc.mono Z_q233.out.size))
    dsimp only
    refine hK.out _ _ (hSm.out _ ⟨A_q234.out, B_q234.out⟩) (fun _ => ?_)
    clear hK K hbc
    refine wpAnyH_take (i := 11) (v := ?_) rfl (by kernel_rfl) (by kernel_rfl) (by kernel_rfl) (fun _ _ _ h => h) (Or.inl ⟨by rfl, ?_⟩) (hSm.out _ ⟨A_q234.out, B_q234.out⟩) ?_
    rotate_left 1
    next => intro w hSw; rw [hSe] at hSw; obtain ⟨⟨u00, u01, u02, u03, _, _⟩, ⟨u10, u11, u12, u13, _, _⟩⟩ := hSw; go_simp; try with_reducible rfl
    try simp only [Act.put, List.getElem_toArray, List.getElem_cons_zero, List.getElem_cons_succ, List.setIfInBounds_toArray, List.set_cons_zero, List.set_cons_succ]
    refine wpAnyH_done (by kernel_rfl) ?_ _
    go_wp2_with fail
    go_ret
    exact ⟨rfl, Z_q234.out⟩
set_option maxRecDepth 100000 in
set_option maxHeartbeats 8000000 in
theorem chkR_any (P Q : Int) {e : Nat} (hq : Qc P Q) (hP : Bn P e) (hQ : Bn Q e) (he : e ≤ 10000000) (w : World) :
    Calls Tryd.prog 41 #[ratV P Q] w fun en w' => en = .returned (.int .i64 0) ∧ Below w.heap.size w w' := by
  have h1 := fun W => canonR (canon P) (canon Q) (hP.size _ (by omega)) (hQ.size _ (by omega)) W
  simp only [valZ_canon] at h1
  rw [(rlo_self hq).1, (rlo_self hq).2] at h1
  have H1 := Lib.hid h1
  unfold RetR at H1
  unfold ratV at H1 ⊢
  generalize canon P = CP at *
  generalize canon Q = CQ at *
  have q1 : (CP.neg == CP.neg) = true := beq_self_eq_true _
  have q2 : (CP.mag.toList == CP.mag.toList) = true := beq_self_eq_true _
  have q3 : (CQ.neg == CQ.neg) = true := beq_self_eq_true _
  have q4 : (CQ.mag.toList == CQ.mag.toList) = true := beq_self_eq_true _
  clear hq hP hQ he h1
  go_enter Tryd.func41, Tryd.ntmps41
  go_upto_region 1 with (fail)
  have hA := Box4.new w (.bool CP.neg) (.string CP.mag) (.bool CQ.neg) (.string CQ.mag) 41
  have hb := (Below.refl w.heap.size w).alloc (Nat.le_refl _) (.cells #[.bool CP.neg, .string CP.mag, .bool CQ.neg, .string CQ.mag] 41)
  generalize w.alloc (.cells #[.bool CP.neg, .string CP.mag, .bool CQ.neg, .string CQ.mag] 41) = X at *
  obtain ⟨ga, hga⟩ : ∃ k, w.heap.size = k := ⟨_, rfl⟩
  have HA := Lib.hid hA
  have Hb := Lib.hid hb
  rw [hga] at HA
  rw [hga]
  clear hga hA hb
  obtain ⟨SS, hSe⟩ : ∃ SS : World → Prop, SS = fun W => Box4 W ga (.bool CP.neg) (.string CP.mag) (.bool CQ.neg) (.string CQ.mag) := ⟨_, rfl⟩
  have hSm : Hid (∀ W, (Box4 W ga (.bool CP.neg) (.string CP.mag) (.bool CQ.neg) (.string CQ.mag)) → SS W) := Lib.hid (fun W hW => by rw [hSe]; exact hW)
  refine wp_region_held_drew (S := SS) (by kernel_rfl) (hSm.out _ (Box4.drw HA.out)) (fun _ => ?_)
  have A_q1 := Lib.hid (Box4.drw HA.out)
  have Z_q1 := Lib.hid (Hb.out.drew)
  refine wpAnyH_take (i := 0) (v := ?_) rfl (by kernel_rfl) (by kernel_rfl) (by kernel_rfl) (fun _ _ _ h => h) (Or.inl ⟨by rfl, ?_⟩) (hSm.out _ A_q1.out) ?_
  rotate_left 1
  next => intro w hSw; rw [hSe] at hSw; obtain ⟨u00, u01, u02, u03, _, _⟩ := hSw; go_simp; try with_reducible rfl
  try simp only [Act.put, List.getElem_toArray, List.getElem_cons_zero, List.getElem_cons_succ, List.setIfInBounds_toArray, List.set_cons_zero, List.set_cons_succ]
  refine wpAnyH_take (i := 2) (v := ?_) rfl (by kernel_rfl) (by kernel_rfl) (by kernel_rfl) (fun _ _ _ h => h) (Or.inl ⟨by rfl, ?_⟩) (hSm.out _ A_q1.out) ?_
  rotate_left 1
  next => intro w hSw; rw [hSe] at hSw; obtain ⟨u00, u01, u02, u03, _, _⟩ := hSw; go_simp; try with_reducible rfl
  try simp only [Act.put, List.getElem_toArray, List.getElem_cons_zero, List.getElem_cons_succ, List.setIfInBounds_toArray, List.set_cons_zero, List.set_cons_succ]
  try simp only [Act.put, List.getElem_toArray, List.getElem_cons_zero, List.getElem_cons_succ, List.setIfInBounds_toArray, List.set_cons_zero, List.set_cons_succ]
  refine wpAnyH_ready (rs := [1]) (by kernel_rfl) (by simp) ?_
  refine AllReadyH.cons rfl (fun K hK => ?_) AllReadyH.nil
  go_simp
  refine (H1.out _).mono ?_
  rintro e wq2 ⟨rfl, hbc⟩
  have A_q2 := Lib.hid (A_q1.out.below hbc A_q1.out.2.2.2.2.2)
  have Z_q2 := Lib.hid (Z_q1.out.trans (hbc.mono Z_q1.out.size))
  dsimp only
  refine hK.out _ _ (hSm.out _ A_q2.out) (fun _ => ?_)
  clear hK K hbc
  refine wpAnyH_take (i := 3) (v := ?_) rfl (by kernel_rfl) (by kernel_rfl) (by kernel_rfl) (fun _ _ _ h => h) (Or.inl ⟨by rfl, ?_⟩) (hSm.out _ A_q2.out) ?_
  rotate_left 1
  next => intro w hSw; rw [hSe] at hSw; obtain ⟨u00, u01, u02, u03, _, _⟩ := hSw; go_simp; try with_reducible rfl
  try simp only [Act.put, List.getElem_toArray, List.getElem_cons_zero, List.getElem_cons_succ, List.setIfInBounds_toArray, List.set_cons_zero, List.set_cons_succ]
  refine wpAnyH_done (by kernel_rfl) ?_ _
  go_wp2_with fail
  go_ret
  exact ⟨rfl, Z_q2.out⟩
end Go.Proofs.YteoemijgdcpopaaDoor
