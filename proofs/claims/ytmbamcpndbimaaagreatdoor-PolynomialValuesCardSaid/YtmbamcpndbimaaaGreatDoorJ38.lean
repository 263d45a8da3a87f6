/- rational: canonical, Add, Mul, Of at any size: the walks. -/
import Derived.Test.YtmbamcpndbimaaaGreatDoorJ37
namespace Go.Proofs.YtmbamcpndbimaaaGreatDoor
open List renaming getElem_toArray → ny1, getElem_cons_zero → ny2, getElem_cons_succ → ny3, setIfInBounds_toArray → ny4, set_cons_zero → ny5, set_cons_succ → ny6
open Go.RowKit Go.Shelf
theorem Box4.set4 {w : World} {g : Nat} {a b c d : Value} (h : Box4 w g a b c d) (x y z u : Value) : Box4 ((((w.setCell ⟨g, 0, none⟩ x).setCell ⟨g, 1, none⟩ y).setCell ⟨g, 2, none⟩ z).setCell ⟨g, 3, none⟩ u) g x y z u := by
 obtain ⟨h1, h2, h3, h4, h5, h6⟩ := h
 have ne : ∀ i j : Nat, i ≠ j → ∀ (W : World) (v : Value), (W.setCell ⟨g, i, none⟩ v).cell? ⟨g, j, none⟩ = W.cell? ⟨g, j, none⟩ := fun i j hij W v => World.cell?_setCell_other _ _ _ _ (by intro h; injection h with _ h; omega)
 refine ⟨?_, ?_, ?_, ?_, fun j => ?_, by simpa using h6⟩
 ·rw [ne 3 0 (by decide), ne 2 0 (by decide), ne 1 0 (by decide)]; exact World.cell?_setCell_same _ _ _ h1
 ·rw [ne 3 1 (by decide), ne 2 1 (by decide)]; exact World.cell?_setCell_same (u := b) _ _ _ (by rw [ne 0 1 (by decide)]; exact h2)
 ·rw [ne 3 2 (by decide)]; exact World.cell?_setCell_same (u := c) _ _ _ (by rw [ne 1 2 (by decide), ne 0 2 (by decide)]; exact h3)
 ·exact World.cell?_setCell_same (u := d) _ _ _ (by rw [ne 2 3 (by decide), ne 1 3 (by decide), ne 0 3 (by decide)]; exact h4)
 ·rw [World.frozen?_setCell, World.frozen?_setCell, World.frozen?_setCell, World.frozen?_setCell]; exact h5 j
set_option maxRecDepth 100000 in
set_option maxHeartbeats 8000000 in
theorem table_any (w : World) : Calls Tryz.prog 78 #[] w fun e w' => e = .returned (.agg #[.func (.func 100) #[] #[], .func (.func 101) #[] #[], .func (.func 102) #[] #[], .func (.func 103) #[] #[]]) ∧ Below w.heap.size w w' := by
 go_enter Tryz.func78, Tryz.ntmps78
 go_upto_region 2 with (fail)
 have hA := Box4.new w Value.nilFunc Value.nilFunc Value.nilFunc Value.nilFunc 100
 have hb := (Below.refl w.heap.size w).alloc (Nat.le_refl _) (.cells #[Value.nilFunc, Value.nilFunc, Value.nilFunc, Value.nilFunc] 100)
 have hB := Box4.new (w.alloc (.cells #[Value.nilFunc, Value.nilFunc, Value.nilFunc, Value.nilFunc] 100)) Value.nilFunc Value.nilFunc Value.nilFunc Value.nilFunc 100
 have hA := hA.below ((Below.refl _ _).alloc (Nat.le_refl _) (.cells #[Value.nilFunc, Value.nilFunc, Value.nilFunc, Value.nilFunc] 100)) hA.2.2.2.2.2
 have hb := hb.alloc hb.size (.cells #[Value.nilFunc, Value.nilFunc, Value.nilFunc, Value.nilFunc] 100)
 rw [World.size_alloc] at hB
 obtain ⟨ga, hga⟩ : ∃ k, w.heap.size = k := ⟨_, rfl⟩
 obtain ⟨gb, hgb⟩ : ∃ k, w.heap.size + 1 = k := ⟨_, rfl⟩
 have le1 : w.heap.size ≤ ga := by omega
 have le2 : w.heap.size ≤ gb := by omega
 have ab : ¬ ga = gb := by omega
 have ba : ¬ gb = ga := by omega
 have Hb := lhd hb
 rw [hgb] at hB
 rw [hga] at hA
 rw [hgb, hga]
 clear hga hgb hb
 generalize (w.alloc (.cells #[Value.nilFunc, Value.nilFunc, Value.nilFunc, Value.nilFunc] 100)).alloc (.cells #[Value.nilFunc, Value.nilFunc, Value.nilFunc, Value.nilFunc] 100) = V at *
 obtain ⟨a0, a1, a2, a3, a4, _⟩ := hA
 obtain ⟨b0, b1, b2, b3, b4, _⟩ := hB
 have x0 := a4 0
 have x1 := a4 1
 have x2 := a4 2
 have x3 := a4 3
 have y0 := b4 0
 have y1 := b4 1
 have y2 := b4 2
 have y3 := b4 3
 clear a4 b4
 have hsf := fun (a : Addr) (f : Nat) (w : World) => run_store Tryz.prog w a (.func (.func f) #[] #[]) .plain rfl
 go_wp2_with fail
 refine bodyPost_ret (v := .agg #[.func (.func 100) #[] #[], .func (.func 101) #[] #[], .func (.func 102) #[] #[], .func (.func 103) #[] #[]]) ?_ rfl ⟨rfl, ?_⟩
 ·simp [results, Tryz.results78, go_sem, a0, a1, a2, a3]
 ·exact (((((((Hb.out.setCell le2 _).setCell le2 _).setCell le2 _).setCell le2 _).setCell le1 _).setCell le1 _).setCell le1 _).setCell le1 _
theorem two_box4 (w : World) (a b c d : Value) (t u : TypeId) : ∃ V, ((w.alloc (.cells #[a, b, c, d] t)).alloc (.cells #[.bool false, .string ⟨#[]⟩, .bool false, .string ⟨#[]⟩] u)) = V ∧ Box4 V w.heap.size a b c d ∧ Box4 V (w.heap.size + 1) (.bool false) (.string ⟨#[]⟩) (.bool false) (.string ⟨#[]⟩) ∧ Below w.heap.size w V := by
 have hA := Box4.new w a b c d t
 have hB := Box4.new (w.alloc (.cells #[a, b, c, d] t)) (.bool false) (.string ⟨#[]⟩) (.bool false) (.string ⟨#[]⟩) u
 rw [World.size_alloc] at hB
 have hb := (Below.refl w.heap.size w).alloc (Nat.le_refl _) (.cells #[a, b, c, d] t)
 exact ⟨_, rfl, hA.below ((Below.refl _ _).alloc (Nat.le_refl _) _) hA.2.2.2.2.2, hB, hb.alloc hb.size _⟩
theorem three_box4 (w : World) (a b c d a' b' c' d' : Value) (t t' u : TypeId) : ∃ V, (((w.alloc (.cells #[a, b, c, d] t)).alloc (.cells #[a', b', c', d'] t')).alloc (.cells #[.bool false, .string ⟨#[]⟩, .bool false, .string ⟨#[]⟩] u)) = V ∧ Box4 V w.heap.size a b c d ∧ Box4 V (w.heap.size + 1) a' b' c' d' ∧ Box4 V (w.heap.size + 1 + 1) (.bool false) (.string ⟨#[]⟩) (.bool false) (.string ⟨#[]⟩) ∧ Below w.heap.size w V := by
 have hA := Box4.new w a b c d t
 obtain ⟨V, hV, hB, hC, hb⟩ := two_box4 (w.alloc (.cells #[a, b, c, d] t)) a' b' c' d' t' u
 rw [World.size_alloc] at hB hC
 have h0 := (Below.refl w.heap.size w).alloc (Nat.le_refl _) (.cells #[a, b, c, d] t)
 exact ⟨V, hV, hA.below hb hA.2.2.2.2.2, hB, hC, h0.trans (hb.mono h0.size)⟩
set_option maxRecDepth 100000 in
set_option maxHeartbeats 8000000 in
theorem canonR (a b : ZI) (ha : a.mag.size ≤ 100000000) (hb : b.mag.size ≤ 100000000) (w : World) :
  Calls Tryz.prog 79 #[.agg #[.bool a.neg, .string a.mag, .bool b.neg, .string b.mag]] w (RetR (rloN (valZ a) (valZ b)) (rloD (valZ a) (valZ b)) w) := by
 have HL := lhd (fun W => lowZ_any a b ha hb W)
 unfold RetR ratV at HL ⊢
 generalize canon (rloN (valZ a) (valZ b)) = P at *
 generalize canon (rloD (valZ a) (valZ b)) = Q at *
 clear ha hb
 go_enter Tryz.func79, Tryz.ntmps79
 go_wp2_with fail
 obtain ⟨V, hV, hA, hC, hb⟩ := two_box4 w (.bool a.neg) (.string a.mag) (.bool b.neg) (.string b.mag) 26 26
 rw [hV]
 obtain ⟨gc, hgc⟩ : ∃ k, w.heap.size + 1 = k := ⟨_, rfl⟩
 have le3 : w.heap.size ≤ gc := by omega
 rw [hgc] at hC ⊢
 clear hV hgc hA
 refine (HL.out _).mono ?_
 rintro e W ⟨rfl, hbc⟩
 dsimp only
 have HC := lhd (hC.below hbc hC.2.2.2.2.2)
 have Hb := lhd (hb.trans (hbc.mono hb.size))
 clear hC hb hbc
 obtain ⟨c0, c1, c2, c3, c4, _⟩ := HC.out
 have f0 := c4 0
 have f1 := c4 1
 have f2 := c4 2
 have f3 := c4 3
 clear c4
 go_wp2_with fail
 refine bodyPost_ret (v := .agg #[.bool P.neg, .string P.mag, .bool Q.neg, .string Q.mag]) ?_ rfl ⟨rfl, ?_⟩
 ·simp [results, Tryz.results79, go_sem, c0, c1, c2, c3]
 ·exact (((Hb.out.setCell le3 _).setCell le3 _).setCell le3 _).setCell le3 _
set_option maxRecDepth 100000 in
set_option maxHeartbeats 8000000 in
theorem ofR (a : ZI) (ha : a.mag.size ≤ 100000000) (w : World) :
  Calls Tryz.prog 20 #[.agg #[.bool a.neg, .string a.mag]] w (RetR (rloN (valZ a) 1) (rloD (valZ a) 1) w) := by
 have hl := fun W => lowZ_any a (canon 1) ha ((Bn.one 0).size _ (by decide)) W
 rw [valZ_canon] at hl
 have HL := lhd hl
 have HO := lhd (fun W => of_any 1 (by decide) (by decide) W)
 unfold RetR ratV at HL ⊢
 generalize canon (rloN (valZ a) 1) = P at *
 generalize canon (rloD (valZ a) 1) = Q at *
 generalize canon (1 : Int) = C1 at *
 clear ha hl
 go_enter Tryz.func20, Tryz.ntmps20
 go_upto_region 1 with (fail)
 have hA := BoxAt.new w (.bool a.neg) (.string a.mag) 24
 have hb := (Below.refl w.heap.size w).alloc (Nat.le_refl _) (.cells #[.bool a.neg, .string a.mag] 24)
 have hC := Box4.new (w.alloc (.cells #[.bool a.neg, .string a.mag] 24)) (.bool false) (.string ⟨#[]⟩) (.bool false) (.string ⟨#[]⟩) 26
 have hA := hA.alloc (.cells #[.bool false, .string ⟨#[]⟩, .bool false, .string ⟨#[]⟩] 26)
 have hb := hb.alloc hb.size (.cells #[.bool false, .string ⟨#[]⟩, .bool false, .string ⟨#[]⟩] 26)
 rw [World.size_alloc] at hC
 obtain ⟨ga, hga⟩ : ∃ k, w.heap.size = k := ⟨_, rfl⟩
 obtain ⟨gc, hgc⟩ : ∃ k, w.heap.size + 1 = k := ⟨_, rfl⟩
 have le3 : w.heap.size ≤ gc := by omega
 have ca : gc ≠ ga := by omega
 have HA := lhd hA
 have HC := lhd hC
 have Hb := lhd hb
 rw [hga] at HA
 rw [hgc] at HC
 rw [hgc, hga]
 clear hga hgc hb hA hC
 generalize (w.alloc (.cells #[.bool a.neg, .string a.mag] 24)).alloc (.cells #[.bool false, .string ⟨#[]⟩, .bool false, .string ⟨#[]⟩] 26) = X at *
 refine wp_region_held_drew (S := fun _ => True) (by kernel_rfl) trivial (fun _ => ?_)
 have A_q1 := lhd (BoxAt.drw HA.out)
 have C_q1 := lhd (Box4.drw HC.out)
 have Z_q1 := lhd (Hb.out.drew)
 try simp only [Act.put, ny1, ny2, ny3, ny4, ny5, ny6]
 refine wpAnyH_ready (rs := [0, 1]) (by kernel_rfl) (by simp) ?_
 refine AllReadyH.cons rfl (fun K hK => ?_) (AllReadyH.cons rfl (fun K hK => ?_) AllReadyH.nil)
 ·obtain ⟨z0, z1, _, _, _⟩ := A_q1.out
  go_simp
  refine hK.out _ _ trivial (fun _ => ?_)
  clear hK K z0 z1
  try simp only [Act.put, ny1, ny2, ny3, ny4, ny5, ny6]
  refine wpAnyH_ready (rs := [1]) (by kernel_rfl) (by simp) ?_
  refine AllReadyH.cons rfl (fun K hK => ?_) AllReadyH.nil
  go_simp
  refine (HO.out _).mono ?_
  rintro e wq2 ⟨rfl, hbc⟩
  have A_q2 := lhd (A_q1.out.below hbc A_q1.out.2.2.2.2)
  have C_q2 := lhd (C_q1.out.below hbc C_q1.out.2.2.2.2.2)
  have Z_q2 := lhd (Z_q1.out.trans (hbc.mono Z_q1.out.size))
  dsimp only
  refine hK.out _ _ trivial (fun _ => ?_)
  clear hK K hbc
  try simp only [Act.put, ny1, ny2, ny3, ny4, ny5, ny6]
  refine wpAnyH_ready (rs := [2]) (by kernel_rfl) (by simp) ?_
  refine AllReadyH.cons rfl (fun K hK => ?_) AllReadyH.nil
  go_simp
  refine (HL.out _).mono ?_
  rintro e wq3 ⟨rfl, hbc⟩
  have A_q3 := lhd (A_q2.out.below hbc A_q2.out.2.2.2.2)
  have C_q3 := lhd (C_q2.out.below hbc C_q2.out.2.2.2.2.2)
  have Z_q3 := lhd (Z_q2.out.trans (hbc.mono Z_q2.out.size))
  dsimp only
  refine hK.out _ _ trivial (fun _ => ?_)
  clear hK K hbc
  try simp only [Act.put, ny1, ny2, ny3, ny4, ny5, ny6]
  refine wpAnyH_ready (rs := [3]) (by kernel_rfl) (by simp) ?_
  refine AllReadyH.cons rfl (fun K hK => ?_) AllReadyH.nil
  obtain ⟨z0, z1, z2, z3, zf, _⟩ := C_q3.out
  have zf0 := zf 0
  have zf1 := zf 1
  have zf2 := zf 2
  have zf3 := zf 3
  have A_q4 := lhd (((((A_q3.out).far ⟨gc, 0, none⟩ (.bool P.neg) ca).far ⟨gc, 1, none⟩ (.string P.mag) ca).far ⟨gc, 2, none⟩ (.bool Q.neg) ca).far ⟨gc, 3, none⟩ (.string Q.mag) ca)
  have C_q4 := lhd (C_q3.out.set4 (.bool P.neg) (.string P.mag) (.bool Q.neg) (.string Q.mag))
  have Z_q4 := lhd (((((Z_q3.out).setCell (p := ⟨gc, 0, none⟩) le3 (.bool P.neg)).setCell (p := ⟨gc, 1, none⟩) le3 (.string P.mag)).setCell (p := ⟨gc, 2, none⟩) le3 (.bool Q.neg)).setCell (p := ⟨gc, 3, none⟩) le3 (.string Q.mag))
  go_simp
  refine hK.out _ _ trivial (fun _ => ?_)
  clear hK K z0 z1 z2 z3 zf zf0 zf1 zf2 zf3
  refine wpAnyH_done (by kernel_rfl) ?_ _
  have HC := C_q4
  have Hb := Z_q4
  obtain ⟨c0, c1, c2, c3, c4, _⟩ := HC.out
  clear c4
  go_wp2_with fail
  refine bodyPost_ret (v := .agg #[.bool P.neg, .string P.mag, .bool Q.neg, .string Q.mag]) ?_ rfl ⟨rfl, Hb.out⟩
  simp [results, Tryz.results20, go_sem, c0, c1, c2, c3]
 ·go_simp
  refine (HO.out _).mono ?_
  rintro e wq5 ⟨rfl, hbc⟩
  have A_q5 := lhd (A_q1.out.below hbc A_q1.out.2.2.2.2)
  have C_q5 := lhd (C_q1.out.below hbc C_q1.out.2.2.2.2.2)
  have Z_q5 := lhd (Z_q1.out.trans (hbc.mono Z_q1.out.size))
  dsimp only
  refine hK.out _ _ trivial (fun _ => ?_)
  clear hK K hbc
  try simp only [Act.put, ny1, ny2, ny3, ny4, ny5, ny6]
  refine wpAnyH_ready (rs := [0]) (by kernel_rfl) (by simp) ?_
  refine AllReadyH.cons rfl (fun K hK => ?_) AllReadyH.nil
  obtain ⟨z0, z1, _, _, _⟩ := A_q5.out
  go_simp
  refine hK.out _ _ trivial (fun _ => ?_)
  clear hK K z0 z1
  try simp only [Act.put, ny1, ny2, ny3, ny4, ny5, ny6]
  refine wpAnyH_ready (rs := [2]) (by kernel_rfl) (by simp) ?_
  refine AllReadyH.cons rfl (fun K hK => ?_) AllReadyH.nil
  go_simp
  refine (HL.out _).mono ?_
  rintro e wq6 ⟨rfl, hbc⟩
  have A_q6 := lhd (A_q5.out.below hbc A_q5.out.2.2.2.2)
  have C_q6 := lhd (C_q5.out.below hbc C_q5.out.2.2.2.2.2)
  have Z_q6 := lhd (Z_q5.out.trans (hbc.mono Z_q5.out.size))
  dsimp only
  refine hK.out _ _ trivial (fun _ => ?_)
  clear hK K hbc
  try simp only [Act.put, ny1, ny2, ny3, ny4, ny5, ny6]
  refine wpAnyH_ready (rs := [3]) (by kernel_rfl) (by simp) ?_
  refine AllReadyH.cons rfl (fun K hK => ?_) AllReadyH.nil
  obtain ⟨z0, z1, z2, z3, zf, _⟩ := C_q6.out
  have zf0 := zf 0
  have zf1 := zf 1
  have zf2 := zf 2
  have zf3 := zf 3
  have A_q7 := lhd (((((A_q6.out).far ⟨gc, 0, none⟩ (.bool P.neg) ca).far ⟨gc, 1, none⟩ (.string P.mag) ca).far ⟨gc, 2, none⟩ (.bool Q.neg) ca).far ⟨gc, 3, none⟩ (.string Q.mag) ca)
  have C_q7 := lhd (C_q6.out.set4 (.bool P.neg) (.string P.mag) (.bool Q.neg) (.string Q.mag))
  have Z_q7 := lhd (((((Z_q6.out).setCell (p := ⟨gc, 0, none⟩) le3 (.bool P.neg)).setCell (p := ⟨gc, 1, none⟩) le3 (.string P.mag)).setCell (p := ⟨gc, 2, none⟩) le3 (.bool Q.neg)).setCell (p := ⟨gc, 3, none⟩) le3 (.string Q.mag))
  go_simp
  refine hK.out _ _ trivial (fun _ => ?_)
  clear hK K z0 z1 z2 z3 zf zf0 zf1 zf2 zf3
  refine wpAnyH_done (by kernel_rfl) ?_ _
  have HC := C_q7
  have Hb := Z_q7
  obtain ⟨c0, c1, c2, c3, c4, _⟩ := HC.out
  clear c4
  go_wp2_with fail
  refine bodyPost_ret (v := .agg #[.bool P.neg, .string P.mag, .bool Q.neg, .string Q.mag]) ?_ rfl ⟨rfl, Hb.out⟩
  simp [results, Tryz.results20, go_sem, c0, c1, c2, c3]
end Go.Proofs.YtmbamcpndbimaaaGreatDoor
