/- rational.do, Add, Mul at any size: the walks. -/
import Derived.Test.YtmbamcpndbimaaaGreatDoorJ39
namespace Go.Proofs.YtmbamcpndbimaaaGreatDoor
open List renaming getElem_toArray → ny1, getElem_cons_zero → ny2, getElem_cons_succ → ny3, setIfInBounds_toArray → ny4, set_cons_zero → ny5, set_cons_succ → ny6
open Go.RowKit Go.Shelf
theorem rloN_bn {n : Int} {e : Nat} (h : Bn n e) (d : Int) : Bn (rloN n d) e := by
 unfold rloN
 split
 ·exact Bn.zero _
 ·refine Nat.le_trans (Int.natAbs_ediv_le_natAbs _ _) ?_
  split
  ·rw [Int.natAbs_neg]; exact h
  ·exact h
theorem rloD_bn {d : Int} {e : Nat} (h : Bn d e) (n : Int) : Bn (rloD n d) e := by
 unfold rloD
 split
 ·exact Bn.one _
 ·refine Nat.le_trans (Int.natAbs_ediv_le_natAbs _ _) ?_
  split
  ·rw [Int.natAbs_neg]; exact h
  ·exact h
set_option maxRecDepth 100000 in
set_option maxHeartbeats 8000000 in
theorem doAdd (a1 a2 b1 b2 : ZI) {e : Nat} (he : e ≤ 10000000) (s1 : a1.mag.size ≤ 100000000) (s2 : a2.mag.size ≤ 100000000) (s3 : b1.mag.size ≤ 100000000) (s4 : b2.mag.size ≤ 100000000) (h1 : Bn (valZ a1) e) (h2 : Bn (valZ a2) e) (h3 : Bn (valZ b1) e) (h4 : Bn (valZ b2) e) (n1 d1 n2 d2 : Int) (e1 : rloN (valZ a1) (valZ a2) = n1) (e2 : rloD (valZ a1) (valZ a2) = d1) (e3 : rloN (valZ b1) (valZ b2) = n2) (e4 : rloD (valZ b1) (valZ b2) = d2) (w : World) :
  Calls Tryz.prog 46 #[.int .i64 0, .agg #[.bool a1.neg, .string a1.mag, .bool a2.neg, .string a2.mag], .agg #[.bool b1.neg, .string b1.mag, .bool b2.neg, .string b2.mag]] w (RetR (rloN (n1 * d2 + n2 * d1) (d1 * d2)) (rloD (n1 * d2 + n2 * d1) (d1 * d2)) w) := by
 have b1' : Bn n1 e := by rw [← e1]; exact rloN_bn h1 _
 have b2' : Bn d1 e := by rw [← e2]; exact rloD_bn h2 _
 have b3' : Bn n2 e := by rw [← e3]; exact rloN_bn h3 _
 have b4' : Bn d2 e := by rw [← e4]; exact rloD_bn h4 _
 have hc1 := fun W => canonR a1 a2 s1 s2 W
 have hc2 := fun W => canonR b1 b2 s3 s4 W
 have hf := fun W => sumR n1 d1 n2 d2 he b1' b2' b3' b4' W
 have hl := fun W => lowZ_any (canon (n1 * d2 + n2 * d1)) (canon (d1 * d2)) (((b1'.mul b4').add ((b3'.mul b2').up (by omega))).size _ (by omega)) ((b2'.mul b4').size _ (by omega)) W
 rw [e1, e2] at hc1
 rw [e3, e4] at hc2
 rw [valZ_canon, valZ_canon] at hl
 have HC1 := lhd hc1
 have HC2 := lhd hc2
 have HF := lhd hf
 have HL := lhd hl
 have HT := lhd (fun W => table_any W)
 unfold RetR ratV at HC1 HC2 HL ⊢
 generalize canon (rloN (n1 * d2 + n2 * d1) (d1 * d2)) = P at *
 generalize canon (rloD (n1 * d2 + n2 * d1) (d1 * d2)) = Q at *
 generalize canon (n1 * d2 + n2 * d1) = S1 at *
 generalize canon (d1 * d2) = S2 at *
 generalize canon n1 = N1 at *
 generalize canon d1 = D1 at *
 generalize canon n2 = N2 at *
 generalize canon d2 = D2 at *
 clear he s1 s2 s3 s4 h1 h2 h3 h4 e1 e2 e3 e4 b1' b2' b3' b4' hc1 hc2 hf hl
 go_enter Tryz.func46, Tryz.ntmps46
 go_upto_region 1 with (fail)
 obtain ⟨X, hX, hA, hB, hC, hb⟩ := three_box4 w (.bool a1.neg) (.string a1.mag) (.bool a2.neg) (.string a2.mag) (.bool b1.neg) (.string b1.mag) (.bool b2.neg) (.string b2.mag) 26 26 26
 rw [hX]
 obtain ⟨ga, hga⟩ : ∃ k, w.heap.size = k := ⟨_, rfl⟩
 obtain ⟨gb, hgb⟩ : ∃ k, w.heap.size + 1 = k := ⟨_, rfl⟩
 obtain ⟨gc, hgc⟩ : ∃ k, w.heap.size + 1 + 1 = k := ⟨_, rfl⟩
 have le3 : w.heap.size ≤ gc := by omega
 have ca : gc ≠ ga := by omega
 have cb : gc ≠ gb := by omega
 have HA := lhd hA
 have HB := lhd hB
 have HC := lhd hC
 have Hb := lhd hb
 rw [hga] at HA
 rw [hgb] at HB
 rw [hgc] at HC
 rw [hgc, hgb, hga]
 clear hga hgb hgc hX hA hB hC hb
 have i0 : ∀ w, (Instr.index 100 (.agg #[.func (.func 100) #[] #[], .func (.func 101) #[] #[], .func (.func 102) #[] #[], .func (.func 103) #[] #[]]) (.int .i64 0)).run Tryz.prog w = .ok (.agg #[.func (.func 100) #[] #[]]) w := fun _ => by kernel_rfl
 have i1 : ∀ w, (Instr.field 99 (.agg #[.func (.func 100) #[] #[]]) 0).run Tryz.prog w = .ok (.func (.func 100) #[] #[]) w := fun _ => by kernel_rfl
 obtain ⟨SS, hSe⟩ : ∃ SS : World → Prop, SS = fun W => Box4 W ga (.bool a1.neg) (.string a1.mag) (.bool a2.neg) (.string a2.mag) ∧ Box4 W gb (.bool b1.neg) (.string b1.mag) (.bool b2.neg) (.string b2.mag) := ⟨_, rfl⟩
 have hSm : Hid (∀ W, (Box4 W ga (.bool a1.neg) (.string a1.mag) (.bool a2.neg) (.string a2.mag) ∧ Box4 W gb (.bool b1.neg) (.string b1.mag) (.bool b2.neg) (.string b2.mag)) → SS W) := lhd (fun W hW => by rw [hSe]; exact hW)
 refine wp_region_held_drew (S := SS) (by kernel_rfl) (hSm.out _ ⟨Box4.drw HA.out, Box4.drw HB.out⟩) (fun _ => ?_)
 have A_q1 := lhd (Box4.drw HA.out)
 have B_q1 := lhd (Box4.drw HB.out)
 have C_q1 := lhd (Box4.drw HC.out)
 have Z_q1 := lhd (Hb.out.drew)
 refine wpAnyH_take (i := 1) (v := ?_) rfl (by kernel_rfl) (by kernel_rfl) (by kernel_rfl) (fun _ _ _ h => h) (Or.inl ⟨by rfl, ?_⟩) (hSm.out _ ⟨A_q1.out, B_q1.out⟩) ?_
 rotate_left 1
 next => intro w hSw; rw [hSe] at hSw; obtain ⟨⟨u00, u01, u02, u03, _, _⟩, ⟨u10, u11, u12, u13, _, _⟩⟩ := hSw; go_simp; try with_reducible rfl
 try simp only [Act.put, ny1, ny2, ny3, ny4, ny5, ny6]
 refine wpAnyH_take (i := 4) (v := ?_) rfl (by kernel_rfl) (by kernel_rfl) (by kernel_rfl) (fun _ _ _ h => h) (Or.inl ⟨by rfl, ?_⟩) (hSm.out _ ⟨A_q1.out, B_q1.out⟩) ?_
 rotate_left 1
 next => intro w hSw; rw [hSe] at hSw; obtain ⟨⟨u00, u01, u02, u03, _, _⟩, ⟨u10, u11, u12, u13, _, _⟩⟩ := hSw; go_simp; try with_reducible rfl
 try simp only [Act.put, ny1, ny2, ny3, ny4, ny5, ny6]
 refine wpAnyH_take (i := 6) (v := ?_) rfl (by kernel_rfl) (by kernel_rfl) (by kernel_rfl) (fun _ _ _ h => h) (Or.inl ⟨by rfl, ?_⟩) (hSm.out _ ⟨A_q1.out, B_q1.out⟩) ?_
 rotate_left 1
 next => intro w hSw; rw [hSe] at hSw; obtain ⟨⟨u00, u01, u02, u03, _, _⟩, ⟨u10, u11, u12, u13, _, _⟩⟩ := hSw; go_simp; try with_reducible rfl
 try simp only [Act.put, ny1, ny2, ny3, ny4, ny5, ny6]
 refine wpAnyH_ready (rs := [0]) (by kernel_rfl) (by simp) ?_
 refine AllReadyH.cons rfl (fun K hK => ?_) AllReadyH.nil
 go_simp
 refine (HT.out _).mono ?_
 rintro e wq2 ⟨rfl, hbc⟩
 have A_q2 := lhd (A_q1.out.below hbc A_q1.out.2.2.2.2.2)
 have B_q2 := lhd (B_q1.out.below hbc B_q1.out.2.2.2.2.2)
 have C_q2 := lhd (C_q1.out.below hbc C_q1.out.2.2.2.2.2)
 have Z_q2 := lhd (Z_q1.out.trans (hbc.mono Z_q1.out.size))
 dsimp only
 refine hK.out _ _ (hSm.out _ ⟨A_q2.out, B_q2.out⟩) (fun _ => ?_)
 clear hK K hbc
 refine wpAnyH_take (i := 2) (v := ?_) rfl (by kernel_rfl) (by kernel_rfl) (by kernel_rfl) (fun _ _ _ h => h) (Or.inl ⟨by rfl, ?_⟩) (hSm.out _ ⟨A_q2.out, B_q2.out⟩) ?_
 rotate_left 1
 next => intro w hSw; rw [hSe] at hSw; obtain ⟨⟨u00, u01, u02, u03, _, _⟩, ⟨u10, u11, u12, u13, _, _⟩⟩ := hSw; go_simp; try with_reducible rfl
 try simp only [Act.put, ny1, ny2, ny3, ny4, ny5, ny6]
 refine wpAnyH_take (i := 3) (v := ?_) rfl (by kernel_rfl) (by kernel_rfl) (by kernel_rfl) (fun _ _ _ h => h) (Or.inl ⟨by rfl, ?_⟩) (hSm.out _ ⟨A_q2.out, B_q2.out⟩) ?_
 rotate_left 1
 next => intro w hSw; rw [hSe] at hSw; obtain ⟨⟨u00, u01, u02, u03, _, _⟩, ⟨u10, u11, u12, u13, _, _⟩⟩ := hSw; go_simp; try with_reducible rfl
 try simp only [Act.put, ny1, ny2, ny3, ny4, ny5, ny6]
 refine wpAnyH_ready (rs := [5]) (by kernel_rfl) (by simp) ?_
 refine AllReadyH.cons rfl (fun K hK => ?_) AllReadyH.nil
 go_simp
 refine (HC1.out _).mono ?_
 rintro e wq3 ⟨rfl, hbc⟩
 have A_q3 := lhd (A_q2.out.below hbc A_q2.out.2.2.2.2.2)
 have B_q3 := lhd (B_q2.out.below hbc B_q2.out.2.2.2.2.2)
 have C_q3 := lhd (C_q2.out.below hbc C_q2.out.2.2.2.2.2)
 have Z_q3 := lhd (Z_q2.out.trans (hbc.mono Z_q2.out.size))
 dsimp only
 refine hK.out _ _ (hSm.out _ ⟨A_q3.out, B_q3.out⟩) (fun _ => ?_)
 clear hK K hbc
 try simp only [Act.put, ny1, ny2, ny3, ny4, ny5, ny6]
 refine wpAnyH_ready (rs := [7]) (by kernel_rfl) (by simp) ?_
 refine AllReadyH.cons rfl (fun K hK => ?_) AllReadyH.nil
 go_simp
 refine (HC2.out _).mono ?_
 rintro e wq4 ⟨rfl, hbc⟩
 have A_q4 := lhd (A_q3.out.below hbc A_q3.out.2.2.2.2.2)
 have B_q4 := lhd (B_q3.out.below hbc B_q3.out.2.2.2.2.2)
 have C_q4 := lhd (C_q3.out.below hbc C_q3.out.2.2.2.2.2)
 have Z_q4 := lhd (Z_q3.out.trans (hbc.mono Z_q3.out.size))
 dsimp only
 refine hK.out _ _ (hSm.out _ ⟨A_q4.out, B_q4.out⟩) (fun _ => ?_)
 clear hK K hbc
 try simp only [Act.put, ny1, ny2, ny3, ny4, ny5, ny6]
 refine wpAnyH_ready (rs := [8]) (by kernel_rfl) (by simp) ?_
 refine AllReadyH.cons rfl (fun K hK => ?_) AllReadyH.nil
 go_simp
 refine (HF.out _).mono ?_
 rintro e wq5 ⟨rfl, hbc⟩
 have A_q5 := lhd (A_q4.out.below hbc A_q4.out.2.2.2.2.2)
 have B_q5 := lhd (B_q4.out.below hbc B_q4.out.2.2.2.2.2)
 have C_q5 := lhd (C_q4.out.below hbc C_q4.out.2.2.2.2.2)
 have Z_q5 := lhd (Z_q4.out.trans (hbc.mono Z_q4.out.size))
 dsimp only
 refine hK.out _ _ (hSm.out _ ⟨A_q5.out, B_q5.out⟩) (fun _ => ?_)
 clear hK K hbc
 refine wpAnyH_take (i := 9) (v := ?_) rfl (by kernel_rfl) (by kernel_rfl) (by kernel_rfl) (fun _ _ _ h => h) (Or.inl ⟨by rfl, ?_⟩) (hSm.out _ ⟨A_q5.out, B_q5.out⟩) ?_
 rotate_left 1
 next => intro w hSw; rw [hSe] at hSw; obtain ⟨⟨u00, u01, u02, u03, _, _⟩, ⟨u10, u11, u12, u13, _, _⟩⟩ := hSw; go_simp; try with_reducible rfl
 try simp only [Act.put, ny1, ny2, ny3, ny4, ny5, ny6]
 refine wpAnyH_take (i := 10) (v := ?_) rfl (by kernel_rfl) (by kernel_rfl) (by kernel_rfl) (fun _ _ _ h => h) (Or.inl ⟨by rfl, ?_⟩) (hSm.out _ ⟨A_q5.out, B_q5.out⟩) ?_
 rotate_left 1
 next => intro w hSw; rw [hSe] at hSw; obtain ⟨⟨u00, u01, u02, u03, _, _⟩, ⟨u10, u11, u12, u13, _, _⟩⟩ := hSw; go_simp; try with_reducible rfl
 try simp only [Act.put, ny1, ny2, ny3, ny4, ny5, ny6]
 refine wpAnyH_ready (rs := [11]) (by kernel_rfl) (by simp) ?_
 refine AllReadyH.cons rfl (fun K hK => ?_) AllReadyH.nil
 go_simp
 refine (HL.out _).mono ?_
 rintro e wq6 ⟨rfl, hbc⟩
 have A_q6 := lhd (A_q5.out.below hbc A_q5.out.2.2.2.2.2)
 have B_q6 := lhd (B_q5.out.below hbc B_q5.out.2.2.2.2.2)
 have C_q6 := lhd (C_q5.out.below hbc C_q5.out.2.2.2.2.2)
 have Z_q6 := lhd (Z_q5.out.trans (hbc.mono Z_q5.out.size))
 dsimp only
 refine hK.out _ _ (hSm.out _ ⟨A_q6.out, B_q6.out⟩) (fun _ => ?_)
 clear hK K hbc
 try simp only [Act.put, ny1, ny2, ny3, ny4, ny5, ny6]
 refine wpAnyH_ready (rs := [12]) (by kernel_rfl) (by simp) ?_
 refine AllReadyH.cons rfl (fun K hK => ?_) AllReadyH.nil
 obtain ⟨z0, z1, z2, z3, zf, _⟩ := C_q6.out
 have zf0 := zf 0
 have zf1 := zf 1
 have zf2 := zf 2
 have zf3 := zf 3
 have A_q7 := lhd (((((A_q6.out).far ⟨gc, 0, none⟩ (.bool P.neg) ca).far ⟨gc, 1, none⟩ (.string P.mag) ca).far ⟨gc, 2, none⟩ (.bool Q.neg) ca).far ⟨gc, 3, none⟩ (.string Q.mag) ca)
 have B_q7 := lhd (((((B_q6.out).far ⟨gc, 0, none⟩ (.bool P.neg) cb).far ⟨gc, 1, none⟩ (.string P.mag) cb).far ⟨gc, 2, none⟩ (.bool Q.neg) cb).far ⟨gc, 3, none⟩ (.string Q.mag) cb)
 have C_q7 := lhd (C_q6.out.set4 (.bool P.neg) (.string P.mag) (.bool Q.neg) (.string Q.mag))
 have Z_q7 := lhd (((((Z_q6.out).setCell (p := ⟨gc, 0, none⟩) le3 (.bool P.neg)).setCell (p := ⟨gc, 1, none⟩) le3 (.string P.mag)).setCell (p := ⟨gc, 2, none⟩) le3 (.bool Q.neg)).setCell (p := ⟨gc, 3, none⟩) le3 (.string Q.mag))
 go_simp
 refine hK.out _ _ (hSm.out _ ⟨A_q7.out, B_q7.out⟩) (fun _ => ?_)
 clear hK K z0 z1 z2 z3 zf zf0 zf1 zf2 zf3
 refine wpAnyH_done (by kernel_rfl) ?_ _
 obtain ⟨c0, c1, c2, c3, c4, _⟩ := C_q7.out
 clear c4
 go_wp2_with fail
 refine bodyPost_ret (v := .agg #[.bool P.neg, .string P.mag, .bool Q.neg, .string Q.mag]) ?_ rfl ⟨rfl, Z_q7.out⟩
 simp [results, Tryz.results46, go_sem, c0, c1, c2, c3]
set_option maxRecDepth 100000 in
set_option maxHeartbeats 8000000 in
theorem rAdd_any (a1 a2 b1 b2 : ZI) {e : Nat} (he : e ≤ 10000000) (s1 : a1.mag.size ≤ 100000000) (s2 : a2.mag.size ≤ 100000000) (s3 : b1.mag.size ≤ 100000000) (s4 : b2.mag.size ≤ 100000000) (h1 : Bn (valZ a1) e) (h2 : Bn (valZ a2) e) (h3 : Bn (valZ b1) e) (h4 : Bn (valZ b2) e) (n1 d1 n2 d2 : Int) (e1 : rloN (valZ a1) (valZ a2) = n1) (e2 : rloD (valZ a1) (valZ a2) = d1) (e3 : rloN (valZ b1) (valZ b2) = n2) (e4 : rloD (valZ b1) (valZ b2) = d2) (w : World) :
  Calls Tryz.prog 22 #[.agg #[.bool a1.neg, .string a1.mag, .bool a2.neg, .string a2.mag], .agg #[.bool b1.neg, .string b1.mag, .bool b2.neg, .string b2.mag]] w (RetR (rloN (n1 * d2 + n2 * d1) (d1 * d2)) (rloD (n1 * d2 + n2 * d1) (d1 * d2)) w) := by
 have HD := lhd (fun W => doAdd a1 a2 b1 b2 he s1 s2 s3 s4 h1 h2 h3 h4 n1 d1 n2 d2 e1 e2 e3 e4 W)
 unfold RetR ratV at HD ⊢
 generalize canon (rloN (n1 * d2 + n2 * d1) (d1 * d2)) = P at *
 generalize canon (rloD (n1 * d2 + n2 * d1) (d1 * d2)) = Q at *
 clear he s1 s2 s3 s4 h1 h2 h3 h4 e1 e2 e3 e4
 go_enter Tryz.func22, Tryz.ntmps22
 go_wp2_with fail
 obtain ⟨X, hX, _, _, hC, hb⟩ := three_box4 w (.bool a1.neg) (.string a1.mag) (.bool a2.neg) (.string a2.mag) (.bool b1.neg) (.string b1.mag) (.bool b2.neg) (.string b2.mag) 26 26 26
 rw [hX]
 obtain ⟨gc, hgc⟩ : ∃ k, w.heap.size + 1 + 1 = k := ⟨_, rfl⟩
 have le3 : w.heap.size ≤ gc := by omega
 rw [hgc] at hC ⊢
 clear hX hgc
 refine (HD.out _).mono ?_
 rintro e W ⟨rfl, hbc⟩
 dsimp only
 have HC := lhd (hC.below hbc hC.2.2.2.2.2)
 have Hb := lhd (hb.trans (hbc.mono hb.size))
 clear hC hb hbc
 obtain ⟨c0, c1, c2, c3, c4, _⟩ := HC.out
 have f0 := c4 0
 have f1 := c4 1
 have f2 := c4 2
 have f3 := c4 3
 clear c4
 go_wp2_with fail
 refine bodyPost_ret (v := .agg #[.bool P.neg, .string P.mag, .bool Q.neg, .string Q.mag]) ?_ rfl ⟨rfl, ?_⟩
 ·simp [results, Tryz.results22, go_sem, c0, c1, c2, c3]
 ·exact (((Hb.out.setCell le3 _).setCell le3 _).setCell le3 _).setCell le3 _
set_option maxRecDepth 100000 in
set_option maxHeartbeats 8000000 in
theorem doMul (a1 a2 b1 b2 : ZI) {e : Nat} (he : e ≤ 10000000) (s1 : a1.mag.size ≤ 100000000) (s2 : a2.mag.size ≤ 100000000) (s3 : b1.mag.size ≤ 100000000) (s4 : b2.mag.size ≤ 100000000) (h1 : Bn (valZ a1) e) (h2 : Bn (valZ a2) e) (h3 : Bn (valZ b1) e) (h4 : Bn (valZ b2) e) (n1 d1 n2 d2 : Int) (e1 : rloN (valZ a1) (valZ a2) = n1) (e2 : rloD (valZ a1) (valZ a2) = d1) (e3 : rloN (valZ b1) (valZ b2) = n2) (e4 : rloD (valZ b1) (valZ b2) = d2) (w : World) :
  Calls Tryz.prog 46 #[.int .i64 2, .agg #[.bool a1.neg, .string a1.mag, .bool a2.neg, .string a2.mag], .agg #[.bool b1.neg, .string b1.mag, .bool b2.neg, .string b2.mag]] w (RetR (rloN (n1 * n2) (d1 * d2)) (rloD (n1 * n2) (d1 * d2)) w) := by
 have b1' : Bn n1 e := by rw [← e1]; exact rloN_bn h1 _
 have b2' : Bn d1 e := by rw [← e2]; exact rloD_bn h2 _
 have b3' : Bn n2 e := by rw [← e3]; exact rloN_bn h3 _
 have b4' : Bn d2 e := by rw [← e4]; exact rloD_bn h4 _
 have hc1 := fun W => canonR a1 a2 s1 s2 W
 have hc2 := fun W => canonR b1 b2 s3 s4 W
 have hf := fun W => prodR n1 d1 n2 d2 he b1' b2' b3' b4' W
 have hl := fun W => lowZ_any (canon (n1 * n2)) (canon (d1 * d2)) ((b1'.mul b3').size _ (by omega)) ((b2'.mul b4').size _ (by omega)) W
 rw [e1, e2] at hc1
 rw [e3, e4] at hc2
 rw [valZ_canon, valZ_canon] at hl
 have HC1 := lhd hc1
 have HC2 := lhd hc2
 have HF := lhd hf
 have HL := lhd hl
 have HT := lhd (fun W => table_any W)
 unfold RetR ratV at HC1 HC2 HL ⊢
 generalize canon (rloN (n1 * n2) (d1 * d2)) = P at *
 generalize canon (rloD (n1 * n2) (d1 * d2)) = Q at *
 generalize canon (n1 * n2) = S1 at *
 generalize canon (d1 * d2) = S2 at *
 generalize canon n1 = N1 at *
 generalize canon d1 = D1 at *
 generalize canon n2 = N2 at *
 generalize canon d2 = D2 at *
 clear he s1 s2 s3 s4 h1 h2 h3 h4 e1 e2 e3 e4 b1' b2' b3' b4' hc1 hc2 hf hl
 go_enter Tryz.func46, Tryz.ntmps46
 go_upto_region 1 with (fail)
 obtain ⟨X, hX, hA, hB, hC, hb⟩ := three_box4 w (.bool a1.neg) (.string a1.mag) (.bool a2.neg) (.string a2.mag) (.bool b1.neg) (.string b1.mag) (.bool b2.neg) (.string b2.mag) 26 26 26
 rw [hX]
 obtain ⟨ga, hga⟩ : ∃ k, w.heap.size = k := ⟨_, rfl⟩
 obtain ⟨gb, hgb⟩ : ∃ k, w.heap.size + 1 = k := ⟨_, rfl⟩
 obtain ⟨gc, hgc⟩ : ∃ k, w.heap.size + 1 + 1 = k := ⟨_, rfl⟩
 have le3 : w.heap.size ≤ gc := by omega
 have ca : gc ≠ ga := by omega
 have cb : gc ≠ gb := by omega
 have HA := lhd hA
 have HB := lhd hB
 have HC := lhd hC
 have Hb := lhd hb
 rw [hga] at HA
 rw [hgb] at HB
 rw [hgc] at HC
 rw [hgc, hgb, hga]
 clear hga hgb hgc hX hA hB hC hb
 have i0 : ∀ w, (Instr.index 100 (.agg #[.func (.func 100) #[] #[], .func (.func 101) #[] #[], .func (.func 102) #[] #[], .func (.func 103) #[] #[]]) (.int .i64 2)).run Tryz.prog w = .ok (.agg #[.func (.func 102) #[] #[]]) w := fun _ => by kernel_rfl
 have i1 : ∀ w, (Instr.field 99 (.agg #[.func (.func 102) #[] #[]]) 0).run Tryz.prog w = .ok (.func (.func 102) #[] #[]) w := fun _ => by kernel_rfl
 obtain ⟨SS, hSe⟩ : ∃ SS : World → Prop, SS = fun W => Box4 W ga (.bool a1.neg) (.string a1.mag) (.bool a2.neg) (.string a2.mag) ∧ Box4 W gb (.bool b1.neg) (.string b1.mag) (.bool b2.neg) (.string b2.mag) := ⟨_, rfl⟩
 have hSm : Hid (∀ W, (Box4 W ga (.bool a1.neg) (.string a1.mag) (.bool a2.neg) (.string a2.mag) ∧ Box4 W gb (.bool b1.neg) (.string b1.mag) (.bool b2.neg) (.string b2.mag)) → SS W) := lhd (fun W hW => by rw [hSe]; exact hW)
 refine wp_region_held_drew (S := SS) (by kernel_rfl) (hSm.out _ ⟨Box4.drw HA.out, Box4.drw HB.out⟩) (fun _ => ?_)
 have A_q1 := lhd (Box4.drw HA.out)
 have B_q1 := lhd (Box4.drw HB.out)
 have C_q1 := lhd (Box4.drw HC.out)
 have Z_q1 := lhd (Hb.out.drew)
 refine wpAnyH_take (i := 1) (v := ?_) rfl (by kernel_rfl) (by kernel_rfl) (by kernel_rfl) (fun _ _ _ h => h) (Or.inl ⟨by rfl, ?_⟩) (hSm.out _ ⟨A_q1.out, B_q1.out⟩) ?_
 rotate_left 1
 next => intro w hSw; rw [hSe] at hSw; obtain ⟨⟨u00, u01, u02, u03, _, _⟩, ⟨u10, u11, u12, u13, _, _⟩⟩ := hSw; go_simp; try with_reducible rfl
 try simp only [Act.put, ny1, ny2, ny3, ny4, ny5, ny6]
 refine wpAnyH_take (i := 4) (v := ?_) rfl (by kernel_rfl) (by kernel_rfl) (by kernel_rfl) (fun _ _ _ h => h) (Or.inl ⟨by rfl, ?_⟩) (hSm.out _ ⟨A_q1.out, B_q1.out⟩) ?_
 rotate_left 1
 next => intro w hSw; rw [hSe] at hSw; obtain ⟨⟨u00, u01, u02, u03, _, _⟩, ⟨u10, u11, u12, u13, _, _⟩⟩ := hSw; go_simp; try with_reducible rfl
 try simp only [Act.put, ny1, ny2, ny3, ny4, ny5, ny6]
 refine wpAnyH_take (i := 6) (v := ?_) rfl (by kernel_rfl) (by kernel_rfl) (by kernel_rfl) (fun _ _ _ h => h) (Or.inl ⟨by rfl, ?_⟩) (hSm.out _ ⟨A_q1.out, B_q1.out⟩) ?_
 rotate_left 1
 next => intro w hSw; rw [hSe] at hSw; obtain ⟨⟨u00, u01, u02, u03, _, _⟩, ⟨u10, u11, u12, u13, _, _⟩⟩ := hSw; go_simp; try with_reducible rfl
 try simp only [Act.put, ny1, ny2, ny3, ny4, ny5, ny6]
 refine wpAnyH_ready (rs := [0]) (by kernel_rfl) (by simp) ?_
 refine AllReadyH.cons rfl (fun K hK => ?_) AllReadyH.nil
 go_simp
 refine (HT.out _).mono ?_
 rintro e wq2 ⟨rfl, hbc⟩
 have A_q2 := lhd (A_q1.out.below hbc A_q1.out.2.2.2.2.2)
 have B_q2 := lhd (B_q1.out.below hbc B_q1.out.2.2.2.2.2)
 have C_q2 := lhd (C_q1.out.below hbc C_q1.out.2.2.2.2.2)
 have Z_q2 := lhd (Z_q1.out.trans (hbc.mono Z_q1.out.size))
 dsimp only
 refine hK.out _ _ (hSm.out _ ⟨A_q2.out, B_q2.out⟩) (fun _ => ?_)
 clear hK K hbc
 refine wpAnyH_take (i := 2) (v := ?_) rfl (by kernel_rfl) (by kernel_rfl) (by kernel_rfl) (fun _ _ _ h => h) (Or.inl ⟨by rfl, ?_⟩) (hSm.out _ ⟨A_q2.out, B_q2.out⟩) ?_
 rotate_left 1
 next => intro w hSw; rw [hSe] at hSw; obtain ⟨⟨u00, u01, u02, u03, _, _⟩, ⟨u10, u11, u12, u13, _, _⟩⟩ := hSw; go_simp; try with_reducible rfl
 try simp only [Act.put, ny1, ny2, ny3, ny4, ny5, ny6]
 refine wpAnyH_take (i := 3) (v := ?_) rfl (by kernel_rfl) (by kernel_rfl) (by kernel_rfl) (fun _ _ _ h => h) (Or.inl ⟨by rfl, ?_⟩) (hSm.out _ ⟨A_q2.out, B_q2.out⟩) ?_
 rotate_left 1
 next => intro w hSw; rw [hSe] at hSw; obtain ⟨⟨u00, u01, u02, u03, _, _⟩, ⟨u10, u11, u12, u13, _, _⟩⟩ := hSw; go_simp; try with_reducible rfl
 try simp only [Act.put, ny1, ny2, ny3, ny4, ny5, ny6]
 refine wpAnyH_ready (rs := [5]) (by kernel_rfl) (by simp) ?_
 refine AllReadyH.cons rfl (fun K hK => ?_) AllReadyH.nil
 go_simp
 refine (HC1.out _).mono ?_
 rintro e wq3 ⟨rfl, hbc⟩
 have A_q3 := lhd (A_q2.out.below hbc A_q2.out.2.2.2.2.2)
 have B_q3 := lhd (B_q2.out.below hbc B_q2.out.2.2.2.2.2)
 have C_q3 := lhd (C_q2.out.below hbc C_q2.out.2.2.2.2.2)
 have Z_q3 := lhd (Z_q2.out.trans (hbc.mono Z_q2.out.size))
 dsimp only
 refine hK.out _ _ (hSm.out _ ⟨A_q3.out, B_q3.out⟩) (fun _ => ?_)
 clear hK K hbc
 try simp only [Act.put, ny1, ny2, ny3, ny4, ny5, ny6]
 refine wpAnyH_ready (rs := [7]) (by kernel_rfl) (by simp) ?_
 refine AllReadyH.cons rfl (fun K hK => ?_) AllReadyH.nil
 go_simp
 refine (HC2.out _).mono ?_
 rintro e wq4 ⟨rfl, hbc⟩
 have A_q4 := lhd (A_q3.out.below hbc A_q3.out.2.2.2.2.2)
 have B_q4 := lhd (B_q3.out.below hbc B_q3.out.2.2.2.2.2)
 have C_q4 := lhd (C_q3.out.below hbc C_q3.out.2.2.2.2.2)
 have Z_q4 := lhd (Z_q3.out.trans (hbc.mono Z_q3.out.size))
 dsimp only
 refine hK.out _ _ (hSm.out _ ⟨A_q4.out, B_q4.out⟩) (fun _ => ?_)
 clear hK K hbc
 try simp only [Act.put, ny1, ny2, ny3, ny4, ny5, ny6]
 refine wpAnyH_ready (rs := [8]) (by kernel_rfl) (by simp) ?_
 refine AllReadyH.cons rfl (fun K hK => ?_) AllReadyH.nil
 go_simp
 refine (HF.out _).mono ?_
 rintro e wq5 ⟨rfl, hbc⟩
 have A_q5 := lhd (A_q4.out.below hbc A_q4.out.2.2.2.2.2)
 have B_q5 := lhd (B_q4.out.below hbc B_q4.out.2.2.2.2.2)
 have C_q5 := lhd (C_q4.out.below hbc C_q4.out.2.2.2.2.2)
 have Z_q5 := lhd (Z_q4.out.trans (hbc.mono Z_q4.out.size))
 dsimp only
 refine hK.out _ _ (hSm.out _ ⟨A_q5.out, B_q5.out⟩) (fun _ => ?_)
 clear hK K hbc
 refine wpAnyH_take (i := 9) (v := ?_) rfl (by kernel_rfl) (by kernel_rfl) (by kernel_rfl) (fun _ _ _ h => h) (Or.inl ⟨by rfl, ?_⟩) (hSm.out _ ⟨A_q5.out, B_q5.out⟩) ?_
 rotate_left 1
 next => intro w hSw; rw [hSe] at hSw; obtain ⟨⟨u00, u01, u02, u03, _, _⟩, ⟨u10, u11, u12, u13, _, _⟩⟩ := hSw; go_simp; try with_reducible rfl
 try simp only [Act.put, ny1, ny2, ny3, ny4, ny5, ny6]
 refine wpAnyH_take (i := 10) (v := ?_) rfl (by kernel_rfl) (by kernel_rfl) (by kernel_rfl) (fun _ _ _ h => h) (Or.inl ⟨by rfl, ?_⟩) (hSm.out _ ⟨A_q5.out, B_q5.out⟩) ?_
 rotate_left 1
 next => intro w hSw; rw [hSe] at hSw; obtain ⟨⟨u00, u01, u02, u03, _, _⟩, ⟨u10, u11, u12, u13, _, _⟩⟩ := hSw; go_simp; try with_reducible rfl
 try simp only [Act.put, ny1, ny2, ny3, ny4, ny5, ny6]
 refine wpAnyH_ready (rs := [11]) (by kernel_rfl) (by simp) ?_
 refine AllReadyH.cons rfl (fun K hK => ?_) AllReadyH.nil
 go_simp
 refine (HL.out _).mono ?_
 rintro e wq6 ⟨rfl, hbc⟩
 have A_q6 := lhd (A_q5.out.below hbc A_q5.out.2.2.2.2.2)
 have B_q6 := lhd (B_q5.out.below hbc B_q5.out.2.2.2.2.2)
 have C_q6 := lhd (C_q5.out.below hbc C_q5.out.2.2.2.2.2)
 have Z_q6 := lhd (Z_q5.out.trans (hbc.mono Z_q5.out.size))
 dsimp only
 refine hK.out _ _ (hSm.out _ ⟨A_q6.out, B_q6.out⟩) (fun _ => ?_)
 clear hK K hbc
 try simp only [Act.put, ny1, ny2, ny3, ny4, ny5, ny6]
 refine wpAnyH_ready (rs := [12]) (by kernel_rfl) (by simp) ?_
 refine AllReadyH.cons rfl (fun K hK => ?_) AllReadyH.nil
 obtain ⟨z0, z1, z2, z3, zf, _⟩ := C_q6.out
 have zf0 := zf 0
 have zf1 := zf 1
 have zf2 := zf 2
 have zf3 := zf 3
 have A_q7 := lhd (((((A_q6.out).far ⟨gc, 0, none⟩ (.bool P.neg) ca).far ⟨gc, 1, none⟩ (.string P.mag) ca).far ⟨gc, 2, none⟩ (.bool Q.neg) ca).far ⟨gc, 3, none⟩ (.string Q.mag) ca)
 have B_q7 := lhd (((((B_q6.out).far ⟨gc, 0, none⟩ (.bool P.neg) cb).far ⟨gc, 1, none⟩ (.string P.mag) cb).far ⟨gc, 2, none⟩ (.bool Q.neg) cb).far ⟨gc, 3, none⟩ (.string Q.mag) cb)
 have C_q7 := lhd (C_q6.out.set4 (.bool P.neg) (.string P.mag) (.bool Q.neg) (.string Q.mag))
 have Z_q7 := lhd (((((Z_q6.out).setCell (p := ⟨gc, 0, none⟩) le3 (.bool P.neg)).setCell (p := ⟨gc, 1, none⟩) le3 (.string P.mag)).setCell (p := ⟨gc, 2, none⟩) le3 (.bool Q.neg)).setCell (p := ⟨gc, 3, none⟩) le3 (.string Q.mag))
 go_simp
 refine hK.out _ _ (hSm.out _ ⟨A_q7.out, B_q7.out⟩) (fun _ => ?_)
 clear hK K z0 z1 z2 z3 zf zf0 zf1 zf2 zf3
 refine wpAnyH_done (by kernel_rfl) ?_ _
 obtain ⟨c0, c1, c2, c3, c4, _⟩ := C_q7.out
 clear c4
 go_wp2_with fail
 refine bodyPost_ret (v := .agg #[.bool P.neg, .string P.mag, .bool Q.neg, .string Q.mag]) ?_ rfl ⟨rfl, Z_q7.out⟩
 simp [results, Tryz.results46, go_sem, c0, c1, c2, c3]
set_option maxRecDepth 100000 in
set_option maxHeartbeats 8000000 in
theorem rMul_any (a1 a2 b1 b2 : ZI) {e : Nat} (he : e ≤ 10000000) (s1 : a1.mag.size ≤ 100000000) (s2 : a2.mag.size ≤ 100000000) (s3 : b1.mag.size ≤ 100000000) (s4 : b2.mag.size ≤ 100000000) (h1 : Bn (valZ a1) e) (h2 : Bn (valZ a2) e) (h3 : Bn (valZ b1) e) (h4 : Bn (valZ b2) e) (n1 d1 n2 d2 : Int) (e1 : rloN (valZ a1) (valZ a2) = n1) (e2 : rloD (valZ a1) (valZ a2) = d1) (e3 : rloN (valZ b1) (valZ b2) = n2) (e4 : rloD (valZ b1) (valZ b2) = d2) (w : World) :
  Calls Tryz.prog 23 #[.agg #[.bool a1.neg, .string a1.mag, .bool a2.neg, .string a2.mag], .agg #[.bool b1.neg, .string b1.mag, .bool b2.neg, .string b2.mag]] w (RetR (rloN (n1 * n2) (d1 * d2)) (rloD (n1 * n2) (d1 * d2)) w) := by
 have HD := lhd (fun W => doMul a1 a2 b1 b2 he s1 s2 s3 s4 h1 h2 h3 h4 n1 d1 n2 d2 e1 e2 e3 e4 W)
 unfold RetR ratV at HD ⊢
 generalize canon (rloN (n1 * n2) (d1 * d2)) = P at *
 generalize canon (rloD (n1 * n2) (d1 * d2)) = Q at *
 clear he s1 s2 s3 s4 h1 h2 h3 h4 e1 e2 e3 e4
 go_enter Tryz.func23, Tryz.ntmps23
 go_wp2_with fail
 obtain ⟨X, hX, _, _, hC, hb⟩ := three_box4 w (.bool a1.neg) (.string a1.mag) (.bool a2.neg) (.string a2.mag) (.bool b1.neg) (.string b1.mag) (.bool b2.neg) (.string b2.mag) 26 26 26
 rw [hX]
 obtain ⟨gc, hgc⟩ : ∃ k, w.heap.size + 1 + 1 = k := ⟨_, rfl⟩
 have le3 : w.heap.size ≤ gc := by omega
 rw [hgc] at hC ⊢
 clear hX hgc
 refine (HD.out _).mono ?_
 rintro e W ⟨rfl, hbc⟩
 dsimp only
 have HC := lhd (hC.below hbc hC.2.2.2.2.2)
 have Hb := lhd (hb.trans (hbc.mono hb.size))
 clear hC hb hbc
 obtain ⟨c0, c1, c2, c3, c4, _⟩ := HC.out
 have f0 := c4 0
 have f1 := c4 1
 have f2 := c4 2
 have f3 := c4 3
 clear c4
 go_wp2_with fail
 refine bodyPost_ret (v := .agg #[.bool P.neg, .string P.mag, .bool Q.neg, .string Q.mag]) ?_ rfl ⟨rfl, ?_⟩
 ·simp [results, Tryz.results23, go_sem, c0, c1, c2, c3]
 ·exact (((Hb.out.setCell le3 _).setCell le3 _).setCell le3 _).setCell le3 _
end Go.Proofs.YtmbamcpndbimaaaGreatDoor
