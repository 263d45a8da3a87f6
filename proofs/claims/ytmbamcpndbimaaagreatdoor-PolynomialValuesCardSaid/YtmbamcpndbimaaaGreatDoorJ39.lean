/- rational: Add, Mul at any size: the walks. -/
import Derived.Test.YtmbamcpndbimaaaGreatDoorJ38
import Derived.Test.YtmbamcpndbimaaaGreatDoorJ5
namespace Go.Proofs.YtmbamcpndbimaaaGreatDoor
open List renaming getElem_toArray → ny1, getElem_cons_zero → ny2, getElem_cons_succ → ny3, setIfInBounds_toArray → ny4, set_cons_zero → ny5, set_cons_succ → ny6
open Go.RowKit Go.Shelf
theorem four_boxes42 (w : World) (a b c d a' b' c' d' : Value) (t t' u : TypeId) : ∃ V, ((((w.alloc (.cells #[a, b, c, d] t)).alloc (.cells #[a', b', c', d'] t')).alloc (.cells #[.bool false, .string ⟨#[]⟩] u)).alloc (.cells #[.bool false, .string ⟨#[]⟩] u)) = V ∧ Box4 V w.heap.size a b c d ∧ Box4 V (w.heap.size + 1) a' b' c' d' ∧ BoxAt V (w.heap.size + 1 + 1) (.bool false) (.string ⟨#[]⟩) ∧ BoxAt V (w.heap.size + 1 + 1 + 1) (.bool false) (.string ⟨#[]⟩) ∧ Below w.heap.size w V := by
 have hA := Box4.new w a b c d t
 have hA0 := (Below.refl w.heap.size w).alloc (Nat.le_refl _) (.cells #[a, b, c, d] t)
 have hB := Box4.new (w.alloc (.cells #[a, b, c, d] t)) a' b' c' d' t'
 have hB0 := (Below.refl _ (w.alloc (.cells #[a, b, c, d] t))).alloc (Nat.le_refl _) (.cells #[a', b', c', d'] t')
 obtain ⟨V, hV, hC, hD, hb, _⟩ := two_boxes ((w.alloc (.cells #[a, b, c, d] t)).alloc (.cells #[a', b', c', d'] t')) (.bool false) (.string ⟨#[]⟩) (.bool false) (.string ⟨#[]⟩) u
 rw [World.size_alloc] at hB
 rw [World.size_alloc, World.size_alloc] at hC hD
 have hA1 := hA.below hB0 hA.2.2.2.2.2
 exact ⟨V, hV, hA1.below hb hA1.2.2.2.2.2, hB.below hb hB.2.2.2.2.2, hC, hD, (hA0.trans (hB0.mono hA0.size)).trans (hb.mono (Nat.le_trans hA0.size hB0.size))⟩
set_option maxRecDepth 100000 in
set_option maxHeartbeats 8000000 in
theorem sumR (n1 d1 n2 d2 : Int) {e : Nat} (he : e ≤ 10000000) (h1 : Bn n1 e) (h2 : Bn d1 e) (h3 : Bn n2 e) (h4 : Bn d2 e) (w : World) :
  Calls Tryz.prog 100 #[.agg #[.bool (canon n1).neg, .string (canon n1).mag, .bool (canon d1).neg, .string (canon d1).mag], .agg #[.bool (canon n2).neg, .string (canon n2).mag, .bool (canon d2).neg, .string (canon d2).mag]] w fun en w' => en = .returned (.tuple #[.agg #[.bool (canon (n1 * d2 + n2 * d1)).neg, .string (canon (n1 * d2 + n2 * d1)).mag], .agg #[.bool (canon (d1 * d2)).neg, .string (canon (d1 * d2)).mag]]) ∧ Below w.heap.size w w' := by
 have HM1 := lhd (fun W => mulc_any n1 d2 (h1.size _ (by omega)) (h4.size _ (by omega)) W)
 have HM2 := lhd (fun W => mulc_any n2 d1 (h3.size _ (by omega)) (h2.size _ (by omega)) W)
 have HM3 := lhd (fun W => mulc_any d1 d2 (h2.size _ (by omega)) (h4.size _ (by omega)) W)
 have HAd := lhd (fun W => addc_any (n1 * d2) (n2 * d1) ((h1.mul h4).size _ (by omega)) ((h3.mul h2).size _ (by omega)) W)
 generalize canon (n1 * d2 + n2 * d1) = P at *
 generalize canon (d1 * d2) = Q at *
 generalize canon (n1 * d2) = M1 at *
 generalize canon (n2 * d1) = M2 at *
 generalize canon n1 = N1 at *
 generalize canon d1 = D1 at *
 generalize canon n2 = N2 at *
 generalize canon d2 = D2 at *
 clear he h1 h2 h3 h4
 go_enter Tryz.func100, Tryz.ntmps100
 go_upto_region 1 with (fail)
 obtain ⟨X, hX, hA, hB, hC, hD, hb⟩ := four_boxes42 w (.bool N1.neg) (.string N1.mag) (.bool D1.neg) (.string D1.mag) (.bool N2.neg) (.string N2.mag) (.bool D2.neg) (.string D2.mag) 26 26 24
 rw [hX]
 obtain ⟨ga, hga⟩ : ∃ k, w.heap.size = k := ⟨_, rfl⟩
 obtain ⟨gb, hgb⟩ : ∃ k, w.heap.size + 1 = k := ⟨_, rfl⟩
 obtain ⟨gc, hgc⟩ : ∃ k, w.heap.size + 1 + 1 = k := ⟨_, rfl⟩
 obtain ⟨gd, hgd⟩ : ∃ k, w.heap.size + 1 + 1 + 1 = k := ⟨_, rfl⟩
 have le3 : w.heap.size ≤ gc := by omega
 have le4 : w.heap.size ≤ gd := by omega
 have ca : gc ≠ ga := by omega
 have cb : gc ≠ gb := by omega
 have cd : gc ≠ gd := by omega
 have da : gd ≠ ga := by omega
 have db : gd ≠ gb := by omega
 have dc : gd ≠ gc := by omega
 have HA := lhd hA
 have HB := lhd hB
 have HC := lhd hC
 have HD := lhd hD
 have Hb := lhd hb
 rw [hga] at HA
 rw [hgb] at HB
 rw [hgc] at HC
 rw [hgd] at HD
 rw [hgd, hgc, hgb, hga]
 clear hga hgb hgc hgd hX hA hB hC hD hb
 obtain ⟨SS, hSe⟩ : ∃ SS : World → Prop, SS = fun W => Box4 W ga (.bool N1.neg) (.string N1.mag) (.bool D1.neg) (.string D1.mag) ∧ Box4 W gb (.bool N2.neg) (.string N2.mag) (.bool D2.neg) (.string D2.mag) := ⟨_, rfl⟩
 have hSm : Hid (∀ W, (Box4 W ga (.bool N1.neg) (.string N1.mag) (.bool D1.neg) (.string D1.mag) ∧ Box4 W gb (.bool N2.neg) (.string N2.mag) (.bool D2.neg) (.string D2.mag)) → SS W) := lhd (fun W hW => by rw [hSe]; exact hW)
 refine wp_region_held_drew (S := SS) (by kernel_rfl) (hSm.out _ ⟨Box4.drw HA.out, Box4.drw HB.out⟩) (fun _ => ?_)
 have A_q1 := lhd (Box4.drw HA.out)
 have B_q1 := lhd (Box4.drw HB.out)
 have C_q1 := lhd (BoxAt.drw HC.out)
 have D_q1 := lhd (BoxAt.drw HD.out)
 have Z_q1 := lhd (Hb.out.drew)
 refine wpAnyH_take (i := 0) (v := ?_) rfl (by kernel_rfl) (by kernel_rfl) (by kernel_rfl) (fun _ _ _ h => h) (Or.inl ⟨by rfl, ?_⟩) (hSm.out _ ⟨A_q1.out, B_q1.out⟩) ?_
 rotate_left 1
 next => intro w hSw; rw [hSe] at hSw; obtain ⟨⟨u00, u01, u02, u03, _, _⟩, ⟨u10, u11, u12, u13, _, _⟩⟩ := hSw; go_simp; try with_reducible rfl
 try simp only [Act.put, ny1, ny2, ny3, ny4, ny5, ny6]
 refine wpAnyH_take (i := 1) (v := ?_) rfl (by kernel_rfl) (by kernel_rfl) (by kernel_rfl) (fun _ _ _ h => h) (Or.inl ⟨by rfl, ?_⟩) (hSm.out _ ⟨A_q1.out, B_q1.out⟩) ?_
 rotate_left 1
 next => intro w hSw; rw [hSe] at hSw; obtain ⟨⟨u00, u01, u02, u03, _, _⟩, ⟨u10, u11, u12, u13, _, _⟩⟩ := hSw; go_simp; try with_reducible rfl
 try simp only [Act.put, ny1, ny2, ny3, ny4, ny5, ny6]
 refine wpAnyH_take (i := 2) (v := ?_) rfl (by kernel_rfl) (by kernel_rfl) (by kernel_rfl) (fun _ _ _ h => h) (Or.inl ⟨by rfl, ?_⟩) (hSm.out _ ⟨A_q1.out, B_q1.out⟩) ?_
 rotate_left 1
 next => intro w hSw; rw [hSe] at hSw; obtain ⟨⟨u00, u01, u02, u03, _, _⟩, ⟨u10, u11, u12, u13, _, _⟩⟩ := hSw; go_simp; try with_reducible rfl
 try simp only [Act.put, ny1, ny2, ny3, ny4, ny5, ny6]
 refine wpAnyH_take (i := 3) (v := ?_) rfl (by kernel_rfl) (by kernel_rfl) (by kernel_rfl) (fun _ _ _ h => h) (Or.inl ⟨by rfl, ?_⟩) (hSm.out _ ⟨A_q1.out, B_q1.out⟩) ?_
 rotate_left 1
 next => intro w hSw; rw [hSe] at hSw; obtain ⟨⟨u00, u01, u02, u03, _, _⟩, ⟨u10, u11, u12, u13, _, _⟩⟩ := hSw; go_simp; try with_reducible rfl
 try simp only [Act.put, ny1, ny2, ny3, ny4, ny5, ny6]
 refine wpAnyH_take (i := 5) (v := ?_) rfl (by kernel_rfl) (by kernel_rfl) (by kernel_rfl) (fun _ _ _ h => h) (Or.inl ⟨by rfl, ?_⟩) (hSm.out _ ⟨A_q1.out, B_q1.out⟩) ?_
 rotate_left 1
 next => intro w hSw; rw [hSe] at hSw; obtain ⟨⟨u00, u01, u02, u03, _, _⟩, ⟨u10, u11, u12, u13, _, _⟩⟩ := hSw; go_simp; try with_reducible rfl
 try simp only [Act.put, ny1, ny2, ny3, ny4, ny5, ny6]
 refine wpAnyH_take (i := 6) (v := ?_) rfl (by kernel_rfl) (by kernel_rfl) (by kernel_rfl) (fun _ _ _ h => h) (Or.inl ⟨by rfl, ?_⟩) (hSm.out _ ⟨A_q1.out, B_q1.out⟩) ?_
 rotate_left 1
 next => intro w hSw; rw [hSe] at hSw; obtain ⟨⟨u00, u01, u02, u03, _, _⟩, ⟨u10, u11, u12, u13, _, _⟩⟩ := hSw; go_simp; try with_reducible rfl
 try simp only [Act.put, ny1, ny2, ny3, ny4, ny5, ny6]
 refine wpAnyH_take (i := 7) (v := ?_) rfl (by kernel_rfl) (by kernel_rfl) (by kernel_rfl) (fun _ _ _ h => h) (Or.inl ⟨by rfl, ?_⟩) (hSm.out _ ⟨A_q1.out, B_q1.out⟩) ?_
 rotate_left 1
 next => intro w hSw; rw [hSe] at hSw; obtain ⟨⟨u00, u01, u02, u03, _, _⟩, ⟨u10, u11, u12, u13, _, _⟩⟩ := hSw; go_simp; try with_reducible rfl
 try simp only [Act.put, ny1, ny2, ny3, ny4, ny5, ny6]
 refine wpAnyH_take (i := 8) (v := ?_) rfl (by kernel_rfl) (by kernel_rfl) (by kernel_rfl) (fun _ _ _ h => h) (Or.inl ⟨by rfl, ?_⟩) (hSm.out _ ⟨A_q1.out, B_q1.out⟩) ?_
 rotate_left 1
 next => intro w hSw; rw [hSe] at hSw; obtain ⟨⟨u00, u01, u02, u03, _, _⟩, ⟨u10, u11, u12, u13, _, _⟩⟩ := hSw; go_simp; try with_reducible rfl
 try simp only [Act.put, ny1, ny2, ny3, ny4, ny5, ny6]
 refine wpAnyH_take (i := 11) (v := ?_) rfl (by kernel_rfl) (by kernel_rfl) (by kernel_rfl) (fun _ _ _ h => h) (Or.inl ⟨by rfl, ?_⟩) (hSm.out _ ⟨A_q1.out, B_q1.out⟩) ?_
 rotate_left 1
 next => intro w hSw; rw [hSe] at hSw; obtain ⟨⟨u00, u01, u02, u03, _, _⟩, ⟨u10, u11, u12, u13, _, _⟩⟩ := hSw; go_simp; try with_reducible rfl
 try simp only [Act.put, ny1, ny2, ny3, ny4, ny5, ny6]
 refine wpAnyH_take (i := 12) (v := ?_) rfl (by kernel_rfl) (by kernel_rfl) (by kernel_rfl) (fun _ _ _ h => h) (Or.inl ⟨by rfl, ?_⟩) (hSm.out _ ⟨A_q1.out, B_q1.out⟩) ?_
 rotate_left 1
 next => intro w hSw; rw [hSe] at hSw; obtain ⟨⟨u00, u01, u02, u03, _, _⟩, ⟨u10, u11, u12, u13, _, _⟩⟩ := hSw; go_simp; try with_reducible rfl
 try simp only [Act.put, ny1, ny2, ny3, ny4, ny5, ny6]
 refine wpAnyH_take (i := 13) (v := ?_) rfl (by kernel_rfl) (by kernel_rfl) (by kernel_rfl) (fun _ _ _ h => h) (Or.inl ⟨by rfl, ?_⟩) (hSm.out _ ⟨A_q1.out, B_q1.out⟩) ?_
 rotate_left 1
 next => intro w hSw; rw [hSe] at hSw; obtain ⟨⟨u00, u01, u02, u03, _, _⟩, ⟨u10, u11, u12, u13, _, _⟩⟩ := hSw; go_simp; try with_reducible rfl
 try simp only [Act.put, ny1, ny2, ny3, ny4, ny5, ny6]
 refine wpAnyH_take (i := 14) (v := ?_) rfl (by kernel_rfl) (by kernel_rfl) (by kernel_rfl) (fun _ _ _ h => h) (Or.inl ⟨by rfl, ?_⟩) (hSm.out _ ⟨A_q1.out, B_q1.out⟩) ?_
 rotate_left 1
 next => intro w hSw; rw [hSe] at hSw; obtain ⟨⟨u00, u01, u02, u03, _, _⟩, ⟨u10, u11, u12, u13, _, _⟩⟩ := hSw; go_simp; try with_reducible rfl
 try simp only [Act.put, ny1, ny2, ny3, ny4, ny5, ny6]
 refine wpAnyH_ready (rs := [4]) (by kernel_rfl) (by simp) ?_
 refine AllReadyH.cons rfl (fun K hK => ?_) AllReadyH.nil
 go_simp
 refine (HM1.out _).mono ?_
 rintro e wq2 ⟨rfl, hbc⟩
 have A_q2 := lhd (A_q1.out.below hbc A_q1.out.2.2.2.2.2)
 have B_q2 := lhd (B_q1.out.below hbc B_q1.out.2.2.2.2.2)
 have C_q2 := lhd (C_q1.out.below hbc C_q1.out.2.2.2.2)
 have D_q2 := lhd (D_q1.out.below hbc D_q1.out.2.2.2.2)
 have Z_q2 := lhd (Z_q1.out.trans (hbc.mono Z_q1.out.size))
 dsimp only
 refine hK.out _ _ (hSm.out _ ⟨A_q2.out, B_q2.out⟩) (fun _ => ?_)
 clear hK K hbc
 try simp only [Act.put, ny1, ny2, ny3, ny4, ny5, ny6]
 refine wpAnyH_ready (rs := [9]) (by kernel_rfl) (by simp) ?_
 refine AllReadyH.cons rfl (fun K hK => ?_) AllReadyH.nil
 go_simp
 refine (HM2.out _).mono ?_
 rintro e wq3 ⟨rfl, hbc⟩
 have A_q3 := lhd (A_q2.out.below hbc A_q2.out.2.2.2.2.2)
 have B_q3 := lhd (B_q2.out.below hbc B_q2.out.2.2.2.2.2)
 have C_q3 := lhd (C_q2.out.below hbc C_q2.out.2.2.2.2)
 have D_q3 := lhd (D_q2.out.below hbc D_q2.out.2.2.2.2)
 have Z_q3 := lhd (Z_q2.out.trans (hbc.mono Z_q2.out.size))
 dsimp only
 refine hK.out _ _ (hSm.out _ ⟨A_q3.out, B_q3.out⟩) (fun _ => ?_)
 clear hK K hbc
 try simp only [Act.put, ny1, ny2, ny3, ny4, ny5, ny6]
 refine wpAnyH_ready (rs := [10]) (by kernel_rfl) (by simp) ?_
 refine AllReadyH.cons rfl (fun K hK => ?_) AllReadyH.nil
 go_simp
 refine (HAd.out _).mono ?_
 rintro e wq4 ⟨rfl, hbc⟩
 have A_q4 := lhd (A_q3.out.below hbc A_q3.out.2.2.2.2.2)
 have B_q4 := lhd (B_q3.out.below hbc B_q3.out.2.2.2.2.2)
 have C_q4 := lhd (C_q3.out.below hbc C_q3.out.2.2.2.2)
 have D_q4 := lhd (D_q3.out.below hbc D_q3.out.2.2.2.2)
 have Z_q4 := lhd (Z_q3.out.trans (hbc.mono Z_q3.out.size))
 dsimp only
 refine hK.out _ _ (hSm.out _ ⟨A_q4.out, B_q4.out⟩) (fun _ => ?_)
 clear hK K hbc
 try simp only [Act.put, ny1, ny2, ny3, ny4, ny5, ny6]
 refine wpAnyH_ready (rs := [15]) (by kernel_rfl) (by simp) ?_
 refine AllReadyH.cons rfl (fun K hK => ?_) AllReadyH.nil
 go_simp
 refine (HM3.out _).mono ?_
 rintro e wq5 ⟨rfl, hbc⟩
 have A_q5 := lhd (A_q4.out.below hbc A_q4.out.2.2.2.2.2)
 have B_q5 := lhd (B_q4.out.below hbc B_q4.out.2.2.2.2.2)
 have C_q5 := lhd (C_q4.out.below hbc C_q4.out.2.2.2.2)
 have D_q5 := lhd (D_q4.out.below hbc D_q4.out.2.2.2.2)
 have Z_q5 := lhd (Z_q4.out.trans (hbc.mono Z_q4.out.size))
 dsimp only
 refine hK.out _ _ (hSm.out _ ⟨A_q5.out, B_q5.out⟩) (fun _ => ?_)
 clear hK K hbc
 try simp only [Act.put, ny1, ny2, ny3, ny4, ny5, ny6]
 refine wpAnyH_ready (rs := [16]) (by kernel_rfl) (by simp) ?_
 refine AllReadyH.cons rfl (fun K hK => ?_) AllReadyH.nil
 obtain ⟨z0, z1, z2, z3, _⟩ := C_q5.out
 have A_q6 := lhd (((A_q5.out).far ⟨gc, 0, none⟩ (.bool P.neg) ca).far ⟨gc, 1, none⟩ (.string P.mag) ca)
 have B_q6 := lhd (((B_q5.out).far ⟨gc, 0, none⟩ (.bool P.neg) cb).far ⟨gc, 1, none⟩ (.string P.mag) cb)
 have C_q6 := lhd (C_q5.out.set2 (.bool P.neg) (.string P.mag))
 have D_q6 := lhd (((D_q5.out).far ⟨gc, 0, none⟩ (.bool P.neg) cd).far ⟨gc, 1, none⟩ (.string P.mag) cd)
 have Z_q6 := lhd (((Z_q5.out).setCell (p := ⟨gc, 0, none⟩) le3 (.bool P.neg)).setCell (p := ⟨gc, 1, none⟩) le3 (.string P.mag))
 go_simp
 refine hK.out _ _ (hSm.out _ ⟨A_q6.out, B_q6.out⟩) (fun _ => ?_)
 clear hK K z0 z1 z2 z3
 try simp only [Act.put, ny1, ny2, ny3, ny4, ny5, ny6]
 refine wpAnyH_ready (rs := [17]) (by kernel_rfl) (by simp) ?_
 refine AllReadyH.cons rfl (fun K hK => ?_) AllReadyH.nil
 obtain ⟨z0, z1, z2, z3, _⟩ := D_q6.out
 have A_q7 := lhd (((A_q6.out).far ⟨gd, 0, none⟩ (.bool Q.neg) da).far ⟨gd, 1, none⟩ (.string Q.mag) da)
 have B_q7 := lhd (((B_q6.out).far ⟨gd, 0, none⟩ (.bool Q.neg) db).far ⟨gd, 1, none⟩ (.string Q.mag) db)
 have C_q7 := lhd (((C_q6.out).far ⟨gd, 0, none⟩ (.bool Q.neg) dc).far ⟨gd, 1, none⟩ (.string Q.mag) dc)
 have D_q7 := lhd (D_q6.out.set2 (.bool Q.neg) (.string Q.mag))
 have Z_q7 := lhd (((Z_q6.out).setCell (p := ⟨gd, 0, none⟩) le4 (.bool Q.neg)).setCell (p := ⟨gd, 1, none⟩) le4 (.string Q.mag))
 go_simp
 refine hK.out _ _ (hSm.out _ ⟨A_q7.out, B_q7.out⟩) (fun _ => ?_)
 clear hK K z0 z1 z2 z3
 refine wpAnyH_done (by kernel_rfl) ?_ _
 obtain ⟨c0, c1, _⟩ := C_q7.out
 obtain ⟨d0, d1, _⟩ := D_q7.out
 go_wp2_with fail
 refine bodyPost_ret (v := .tuple #[.agg #[.bool P.neg, .string P.mag], .agg #[.bool Q.neg, .string Q.mag]]) ?_ rfl ⟨rfl, Z_q7.out⟩
 simp [results, Tryz.results100, go_sem, c0, c1, d0, d1]
set_option maxRecDepth 100000 in
set_option maxHeartbeats 8000000 in
theorem prodR (n1 d1 n2 d2 : Int) {e : Nat} (he : e ≤ 10000000) (h1 : Bn n1 e) (h2 : Bn d1 e) (h3 : Bn n2 e) (h4 : Bn d2 e) (w : World) :
  Calls Tryz.prog 102 #[.agg #[.bool (canon n1).neg, .string (canon n1).mag, .bool (canon d1).neg, .string (canon d1).mag], .agg #[.bool (canon n2).neg, .string (canon n2).mag, .bool (canon d2).neg, .string (canon d2).mag]] w fun en w' => en = .returned (.tuple #[.agg #[.bool (canon (n1 * n2)).neg, .string (canon (n1 * n2)).mag], .agg #[.bool (canon (d1 * d2)).neg, .string (canon (d1 * d2)).mag]]) ∧ Below w.heap.size w w' := by
 have HM1 := lhd (fun W => mulc_any n1 n2 (h1.size _ (by omega)) (h3.size _ (by omega)) W)
 have HM3 := lhd (fun W => mulc_any d1 d2 (h2.size _ (by omega)) (h4.size _ (by omega)) W)
 generalize canon (n1 * n2) = P at *
 generalize canon (d1 * d2) = Q at *
 generalize canon n1 = N1 at *
 generalize canon d1 = D1 at *
 generalize canon n2 = N2 at *
 generalize canon d2 = D2 at *
 clear he h1 h2 h3 h4
 go_enter Tryz.func102, Tryz.ntmps102
 go_upto_region 1 with (fail)
 obtain ⟨X, hX, hA, hB, hC, hD, hb⟩ := four_boxes42 w (.bool N1.neg) (.string N1.mag) (.bool D1.neg) (.string D1.mag) (.bool N2.neg) (.string N2.mag) (.bool D2.neg) (.string D2.mag) 26 26 24
 rw [hX]
 obtain ⟨ga, hga⟩ : ∃ k, w.heap.size = k := ⟨_, rfl⟩
 obtain ⟨gb, hgb⟩ : ∃ k, w.heap.size + 1 = k := ⟨_, rfl⟩
 obtain ⟨gc, hgc⟩ : ∃ k, w.heap.size + 1 + 1 = k := ⟨_, rfl⟩
 obtain ⟨gd, hgd⟩ : ∃ k, w.heap.size + 1 + 1 + 1 = k := ⟨_, rfl⟩
 have le3 : w.heap.size ≤ gc := by omega
 have le4 : w.heap.size ≤ gd := by omega
 have ca : gc ≠ ga := by omega
 have cb : gc ≠ gb := by omega
 have cd : gc ≠ gd := by omega
 have da : gd ≠ ga := by omega
 have db : gd ≠ gb := by omega
 have dc : gd ≠ gc := by omega
 have HA := lhd hA
 have HB := lhd hB
 have HC := lhd hC
 have HD := lhd hD
 have Hb := lhd hb
 rw [hga] at HA
 rw [hgb] at HB
 rw [hgc] at HC
 rw [hgd] at HD
 rw [hgd, hgc, hgb, hga]
 clear hga hgb hgc hgd hX hA hB hC hD hb
 obtain ⟨SS, hSe⟩ : ∃ SS : World → Prop, SS = fun W => Box4 W ga (.bool N1.neg) (.string N1.mag) (.bool D1.neg) (.string D1.mag) ∧ Box4 W gb (.bool N2.neg) (.string N2.mag) (.bool D2.neg) (.string D2.mag) := ⟨_, rfl⟩
 have hSm : Hid (∀ W, (Box4 W ga (.bool N1.neg) (.string N1.mag) (.bool D1.neg) (.string D1.mag) ∧ Box4 W gb (.bool N2.neg) (.string N2.mag) (.bool D2.neg) (.string D2.mag)) → SS W) := lhd (fun W hW => by rw [hSe]; exact hW)
 refine wp_region_held_drew (S := SS) (by kernel_rfl) (hSm.out _ ⟨Box4.drw HA.out, Box4.drw HB.out⟩) (fun _ => ?_)
 have A_q1 := lhd (Box4.drw HA.out)
 have B_q1 := lhd (Box4.drw HB.out)
 have C_q1 := lhd (BoxAt.drw HC.out)
 have D_q1 := lhd (BoxAt.drw HD.out)
 have Z_q1 := lhd (Hb.out.drew)
 refine wpAnyH_take (i := 0) (v := ?_) rfl (by kernel_rfl) (by kernel_rfl) (by kernel_rfl) (fun _ _ _ h => h) (Or.inl ⟨by rfl, ?_⟩) (hSm.out _ ⟨A_q1.out, B_q1.out⟩) ?_
 rotate_left 1
 next => intro w hSw; rw [hSe] at hSw; obtain ⟨⟨u00, u01, u02, u03, _, _⟩, ⟨u10, u11, u12, u13, _, _⟩⟩ := hSw; go_simp; try with_reducible rfl
 try simp only [Act.put, ny1, ny2, ny3, ny4, ny5, ny6]
 refine wpAnyH_take (i := 1) (v := ?_) rfl (by kernel_rfl) (by kernel_rfl) (by kernel_rfl) (fun _ _ _ h => h) (Or.inl ⟨by rfl, ?_⟩) (hSm.out _ ⟨A_q1.out, B_q1.out⟩) ?_
 rotate_left 1
 next => intro w hSw; rw [hSe] at hSw; obtain ⟨⟨u00, u01, u02, u03, _, _⟩, ⟨u10, u11, u12, u13, _, _⟩⟩ := hSw; go_simp; try with_reducible rfl
 try simp only [Act.put, ny1, ny2, ny3, ny4, ny5, ny6]
 refine wpAnyH_take (i := 2) (v := ?_) rfl (by kernel_rfl) (by kernel_rfl) (by kernel_rfl) (fun _ _ _ h => h) (Or.inl ⟨by rfl, ?_⟩) (hSm.out _ ⟨A_q1.out, B_q1.out⟩) ?_
 rotate_left 1
 next => intro w hSw; rw [hSe] at hSw; obtain ⟨⟨u00, u01, u02, u03, _, _⟩, ⟨u10, u11, u12, u13, _, _⟩⟩ := hSw; go_simp; try with_reducible rfl
 try simp only [Act.put, ny1, ny2, ny3, ny4, ny5, ny6]
 refine wpAnyH_take (i := 3) (v := ?_) rfl (by kernel_rfl) (by kernel_rfl) (by kernel_rfl) (fun _ _ _ h => h) (Or.inl ⟨by rfl, ?_⟩) (hSm.out _ ⟨A_q1.out, B_q1.out⟩) ?_
 rotate_left 1
 next => intro w hSw; rw [hSe] at hSw; obtain ⟨⟨u00, u01, u02, u03, _, _⟩, ⟨u10, u11, u12, u13, _, _⟩⟩ := hSw; go_simp; try with_reducible rfl
 try simp only [Act.put, ny1, ny2, ny3, ny4, ny5, ny6]
 refine wpAnyH_take (i := 5) (v := ?_) rfl (by kernel_rfl) (by kernel_rfl) (by kernel_rfl) (fun _ _ _ h => h) (Or.inl ⟨by rfl, ?_⟩) (hSm.out _ ⟨A_q1.out, B_q1.out⟩) ?_
 rotate_left 1
 next => intro w hSw; rw [hSe] at hSw; obtain ⟨⟨u00, u01, u02, u03, _, _⟩, ⟨u10, u11, u12, u13, _, _⟩⟩ := hSw; go_simp; try with_reducible rfl
 try simp only [Act.put, ny1, ny2, ny3, ny4, ny5, ny6]
 refine wpAnyH_take (i := 6) (v := ?_) rfl (by kernel_rfl) (by kernel_rfl) (by kernel_rfl) (fun _ _ _ h => h) (Or.inl ⟨by rfl, ?_⟩) (hSm.out _ ⟨A_q1.out, B_q1.out⟩) ?_
 rotate_left 1
 next => intro w hSw; rw [hSe] at hSw; obtain ⟨⟨u00, u01, u02, u03, _, _⟩, ⟨u10, u11, u12, u13, _, _⟩⟩ := hSw; go_simp; try with_reducible rfl
 try simp only [Act.put, ny1, ny2, ny3, ny4, ny5, ny6]
 refine wpAnyH_take (i := 7) (v := ?_) rfl (by kernel_rfl) (by kernel_rfl) (by kernel_rfl) (fun _ _ _ h => h) (Or.inl ⟨by rfl, ?_⟩) (hSm.out _ ⟨A_q1.out, B_q1.out⟩) ?_
 rotate_left 1
 next => intro w hSw; rw [hSe] at hSw; obtain ⟨⟨u00, u01, u02, u03, _, _⟩, ⟨u10, u11, u12, u13, _, _⟩⟩ := hSw; go_simp; try with_reducible rfl
 try simp only [Act.put, ny1, ny2, ny3, ny4, ny5, ny6]
 refine wpAnyH_take (i := 8) (v := ?_) rfl (by kernel_rfl) (by kernel_rfl) (by kernel_rfl) (fun _ _ _ h => h) (Or.inl ⟨by rfl, ?_⟩) (hSm.out _ ⟨A_q1.out, B_q1.out⟩) ?_
 rotate_left 1
 next => intro w hSw; rw [hSe] at hSw; obtain ⟨⟨u00, u01, u02, u03, _, _⟩, ⟨u10, u11, u12, u13, _, _⟩⟩ := hSw; go_simp; try with_reducible rfl
 try simp only [Act.put, ny1, ny2, ny3, ny4, ny5, ny6]
 refine wpAnyH_ready (rs := [4]) (by kernel_rfl) (by simp) ?_
 refine AllReadyH.cons rfl (fun K hK => ?_) AllReadyH.nil
 go_simp
 refine (HM1.out _).mono ?_
 rintro e wq2 ⟨rfl, hbc⟩
 have A_q2 := lhd (A_q1.out.below hbc A_q1.out.2.2.2.2.2)
 have B_q2 := lhd (B_q1.out.below hbc B_q1.out.2.2.2.2.2)
 have C_q2 := lhd (C_q1.out.below hbc C_q1.out.2.2.2.2)
 have D_q2 := lhd (D_q1.out.below hbc D_q1.out.2.2.2.2)
 have Z_q2 := lhd (Z_q1.out.trans (hbc.mono Z_q1.out.size))
 dsimp only
 refine hK.out _ _ (hSm.out _ ⟨A_q2.out, B_q2.out⟩) (fun _ => ?_)
 clear hK K hbc
 try simp only [Act.put, ny1, ny2, ny3, ny4, ny5, ny6]
 refine wpAnyH_ready (rs := [9]) (by kernel_rfl) (by simp) ?_
 refine AllReadyH.cons rfl (fun K hK => ?_) AllReadyH.nil
 go_simp
 refine (HM3.out _).mono ?_
 rintro e wq3 ⟨rfl, hbc⟩
 have A_q3 := lhd (A_q2.out.below hbc A_q2.out.2.2.2.2.2)
 have B_q3 := lhd (B_q2.out.below hbc B_q2.out.2.2.2.2.2)
 have C_q3 := lhd (C_q2.out.below hbc C_q2.out.2.2.2.2)
 have D_q3 := lhd (D_q2.out.below hbc D_q2.out.2.2.2.2)
 have Z_q3 := lhd (Z_q2.out.trans (hbc.mono Z_q2.out.size))
 dsimp only
 refine hK.out _ _ (hSm.out _ ⟨A_q3.out, B_q3.out⟩) (fun _ => ?_)
 clear hK K hbc
 try simp only [Act.put, ny1, ny2, ny3, ny4, ny5, ny6]
 refine wpAnyH_ready (rs := [10]) (by kernel_rfl) (by simp) ?_
 refine AllReadyH.cons rfl (fun K hK => ?_) AllReadyH.nil
 obtain ⟨z0, z1, z2, z3, _⟩ := C_q3.out
 have A_q4 := lhd (((A_q3.out).far ⟨gc, 0, none⟩ (.bool P.neg) ca).far ⟨gc, 1, none⟩ (.string P.mag) ca)
 have B_q4 := lhd (((B_q3.out).far ⟨gc, 0, none⟩ (.bool P.neg) cb).far ⟨gc, 1, none⟩ (.string P.mag) cb)
 have C_q4 := lhd (C_q3.out.set2 (.bool P.neg) (.string P.mag))
 have D_q4 := lhd (((D_q3.out).far ⟨gc, 0, none⟩ (.bool P.neg) cd).far ⟨gc, 1, none⟩ (.string P.mag) cd)
 have Z_q4 := lhd (((Z_q3.out).setCell (p := ⟨gc, 0, none⟩) le3 (.bool P.neg)).setCell (p := ⟨gc, 1, none⟩) le3 (.string P.mag))
 go_simp
 refine hK.out _ _ (hSm.out _ ⟨A_q4.out, B_q4.out⟩) (fun _ => ?_)
 clear hK K z0 z1 z2 z3
 try simp only [Act.put, ny1, ny2, ny3, ny4, ny5, ny6]
 refine wpAnyH_ready (rs := [11]) (by kernel_rfl) (by simp) ?_
 refine AllReadyH.cons rfl (fun K hK => ?_) AllReadyH.nil
 obtain ⟨z0, z1, z2, z3, _⟩ := D_q4.out
 have A_q5 := lhd (((A_q4.out).far ⟨gd, 0, none⟩ (.bool Q.neg) da).far ⟨gd, 1, none⟩ (.string Q.mag) da)
 have B_q5 := lhd (((B_q4.out).far ⟨gd, 0, none⟩ (.bool Q.neg) db).far ⟨gd, 1, none⟩ (.string Q.mag) db)
 have C_q5 := lhd (((C_q4.out).far ⟨gd, 0, none⟩ (.bool Q.neg) dc).far ⟨gd, 1, none⟩ (.string Q.mag) dc)
 have D_q5 := lhd (D_q4.out.set2 (.bool Q.neg) (.string Q.mag))
 have Z_q5 := lhd (((Z_q4.out).setCell (p := ⟨gd, 0, none⟩) le4 (.bool Q.neg)).setCell (p := ⟨gd, 1, none⟩) le4 (.string Q.mag))
 go_simp
 refine hK.out _ _ (hSm.out _ ⟨A_q5.out, B_q5.out⟩) (fun _ => ?_)
 clear hK K z0 z1 z2 z3
 refine wpAnyH_done (by kernel_rfl) ?_ _
 obtain ⟨c0, c1, _⟩ := C_q5.out
 obtain ⟨d0, d1, _⟩ := D_q5.out
 go_wp2_with fail
 refine bodyPost_ret (v := .tuple #[.agg #[.bool P.neg, .string P.mag], .agg #[.bool Q.neg, .string Q.mag]]) ?_ rfl ⟨rfl, Z_q5.out⟩
 simp [results, Tryz.results102, go_sem, c0, c1, d0, d1]
end Go.Proofs.YtmbamcpndbimaaaGreatDoor
