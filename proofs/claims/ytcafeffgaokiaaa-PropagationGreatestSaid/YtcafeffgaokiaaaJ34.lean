/- rational.lowest at any size: the walks. -/
import Derived.Test.YtcafeffgaokiaaaJ16
import Derived.Test.YtcafeffgaokiaaaJ29
namespace Go.Proofs.Ytcafeffgaokiaaa
open Go.RowKit Go.Shelf
theorem Box4.far {w : World} {g : Nat} {a b c d : Value} (h : Box4 w g a b c d) (p : Addr) (v : Value) (hp : p.block ≠ g) : Box4 (w.setCell p v) g a b c d := by
  obtain ⟨h1, h2, h3, h4, h5, h6⟩ := h
  have key : ∀ j, (w.setCell p v).cell? ⟨g, j, none⟩ = w.cell? ⟨g, j, none⟩ := fun j => World.cell?_setCell_other _ _ _ _ (by intro h; rw [h] at hp; exact hp rfl)
  exact ⟨by rw [key]; exact h1, by rw [key]; exact h2, by rw [key]; exact h3, by rw [key]; exact h4, fun j => by rw [World.frozen?_setCell]; exact h5 j, by simpa using h6⟩
theorem BoxAt.drw {w : World} {g : Nat} {a b : Value} (h : BoxAt w g a b) : BoxAt w.drew g a b := h
theorem Box4.drw {w : World} {g : Nat} {a b c d : Value} (h : Box4 w g a b c d) : Box4 w.drew g a b c d := h
set_option maxRecDepth 100000 in
set_option maxHeartbeats 8000000 in
theorem lowP_walk (N D G Q1 R1 Q2 R2 : ZI) (cN : Int) (hcN : (cN == 0) = false) (w : World) (hc1 : ∀ W, Calls Try.prog 52 #[.agg #[.bool D.neg, .string D.mag], .agg #[.bool false, .string ⟨#[]⟩]] W fun e w' => e = .returned (.int .i64 1) ∧ Below W.heap.size W w') (hc2 : ∀ W, Calls Try.prog 52 #[.agg #[.bool N.neg, .string N.mag], .agg #[.bool false, .string ⟨#[]⟩]] W fun e w' => e = .returned (.int .i64 cN) ∧ Below W.heap.size W w') (hg : ∀ W, Calls Try.prog 104 #[.agg #[.bool N.neg, .string N.mag], .agg #[.bool D.neg, .string D.mag]] W (RetZ G W)) (hq1 : ∀ W, Calls Try.prog 105 #[.agg #[.bool N.neg, .string N.mag], .agg #[.bool G.neg, .string G.mag]] W (RetDiv Q1 R1 W)) (hq2 : ∀ W, Calls Try.prog 105 #[.agg #[.bool D.neg, .string D.mag], .agg #[.bool G.neg, .string G.mag]] W (RetDiv Q2 R2 W)) :
    Calls Try.prog 77 #[.agg #[.bool N.neg, .string N.mag], .agg #[.bool D.neg, .string D.mag]] w fun e w' => e = .returned (.agg #[.bool Q1.neg, .string Q1.mag, .bool Q2.neg, .string Q2.mag]) ∧ Below w.heap.size w w' := by
  have Hc1 := Lib.hid hc1
  have Hc2 := Lib.hid hc2
  have Hg := Lib.hid hg
  have Hq1 := Lib.hid hq1
  have Hq2 := Lib.hid hq2
  have hcN2 : ¬ cN = 0 := by simpa using hcN
  clear hc1 hc2 hg hq1 hq2
  go_enter Try.func77, Try.ntmps77
  go_wp2_with fail
  obtain ⟨W, hW, hA, hB, hb0, hs0⟩ := two_boxes w (.bool N.neg) (.string N.mag) (.bool D.neg) (.string D.mag) 48
  rw [hW]
  have hC : Box4 (W.alloc (.cells #[.bool false, .string ⟨#[]⟩, .bool false, .string ⟨#[]⟩] 50)) (w.heap.size + 1 + 1) (.bool false) (.string ⟨#[]⟩) (.bool false) (.string ⟨#[]⟩) := by rw [← hs0]; exact Box4.new _ _ _ _ _ _
  have hb1 := hb0.alloc (by omega) (.cells #[.bool false, .string ⟨#[]⟩, .bool false, .string ⟨#[]⟩] 50)
  have hs1 : w.heap.size + 1 + 1 + 1 ≤ (W.alloc (.cells #[.bool false, .string ⟨#[]⟩, .bool false, .string ⟨#[]⟩] 50)).heap.size := by simp [hs0]
  have hA := hA.alloc (.cells #[.bool false, .string ⟨#[]⟩, .bool false, .string ⟨#[]⟩] 50)
  have hB := hB.alloc (.cells #[.bool false, .string ⟨#[]⟩, .bool false, .string ⟨#[]⟩] 50)
  generalize hV : (W.alloc (.cells #[.bool false, .string ⟨#[]⟩, .bool false, .string ⟨#[]⟩] 50)) = V at *
  have HA := Lib.hid hA
  have HB := Lib.hid hB
  have HC := Lib.hid hC
  have Hb0 := Lib.hid hb1
  obtain ⟨a0, a1, _, _, _⟩ := hA
  obtain ⟨b0, b1, _, _, _⟩ := hB
  clear hC hb0 hb1 hs0 hs1 hW hV
  refine (Hc1.out _).mono ?_
  rintro e wa ⟨rfl, hbc⟩
  dsimp only
  have HA := Lib.hid (HA.out.below hbc HA.out.2.2.2.2)
  have HB := Lib.hid (HB.out.below hbc HB.out.2.2.2.2)
  have HC := Lib.hid (HC.out.below hbc HC.out.2.2.2.2.2)
  have Hb0 := Lib.hid (Hb0.out.trans (hbc.mono Hb0.out.size))
  clear hbc
  obtain ⟨a0, a1, _, _, _⟩ := HA.out
  obtain ⟨b0, b1, _, _, _⟩ := HB.out
  go_wp2_with fail
  refine (Hc2.out _).mono ?_
  rintro e wb ⟨rfl, hbc⟩
  dsimp only
  have HA := Lib.hid (HA.out.below hbc HA.out.2.2.2.2)
  have HB := Lib.hid (HB.out.below hbc HB.out.2.2.2.2)
  have HC := Lib.hid (HC.out.below hbc HC.out.2.2.2.2.2)
  have Hb0 := Lib.hid (Hb0.out.trans (hbc.mono Hb0.out.size))
  clear hbc
  go_upto_region 6 with (fail)
  obtain ⟨ga, hga⟩ : ∃ k, w.heap.size = k := ⟨_, rfl⟩
  obtain ⟨gb, hgb⟩ : ∃ k, w.heap.size + 1 = k := ⟨_, rfl⟩
  obtain ⟨gc, hgc⟩ : ∃ k, w.heap.size + 1 + 1 = k := ⟨_, rfl⟩
  have le1 : w.heap.size ≤ ga := by omega
  have le2 : w.heap.size ≤ gb := by omega
  have le3 : w.heap.size ≤ gc := by omega
  have ab : ga ≠ gb := by omega
  have ac : ga ≠ gc := by omega
  have ba : gb ≠ ga := by omega
  have bc : gb ≠ gc := by omega
  rw [hgc] at HC
  rw [hgb] at HB
  rw [hga] at HA
  rw [hgc, hgb, hga]
  clear hga hgb hgc
  obtain ⟨a0, a1, _, _, _⟩ := HA.out
  obtain ⟨b0, b1, _, _, _⟩ := HB.out
  go_wp2_with fail
  refine (Hg.out _).mono ?_
  rintro e wc ⟨rfl, hbc⟩
  dsimp only
  have HA := Lib.hid (HA.out.below hbc HA.out.2.2.2.2)
  have HB := Lib.hid (HB.out.below hbc HB.out.2.2.2.2)
  have HC := Lib.hid (HC.out.below hbc HC.out.2.2.2.2.2)
  have Hb0 := Lib.hid (Hb0.out.trans (hbc.mono Hb0.out.size))
  clear hbc
  obtain ⟨a0, a1, _, _, _⟩ := HA.out
  obtain ⟨b0, b1, _, _, _⟩ := HB.out
  go_wp2_with fail
  have hG := BoxAt.new wc (.bool G.neg) (.string G.mag) 48
  have hbc := (Below.refl wc.heap.size wc).alloc (Nat.le_refl _) (.cells #[.bool G.neg, .string G.mag] 48)
  have HA := Lib.hid (HA.out.below hbc HA.out.2.2.2.2)
  have HB := Lib.hid (HB.out.below hbc HB.out.2.2.2.2)
  have HC := Lib.hid (HC.out.below hbc HC.out.2.2.2.2.2)
  have Hb0 := Lib.hid (Hb0.out.trans (hbc.mono Hb0.out.size))
  clear hbc
  generalize wc.alloc (.cells #[.bool G.neg, .string G.mag] 48) = wd at *
  have HG := Lib.hid hG
  clear hG
  refine (Hq1.out _).mono ?_
  rintro e we ⟨rfl, hbc⟩
  dsimp only
  have HG := Lib.hid (HG.out.below hbc HG.out.2.2.2.2)
  have HA := Lib.hid (HA.out.below hbc HA.out.2.2.2.2)
  have HB := Lib.hid (HB.out.below hbc HB.out.2.2.2.2)
  have HC := Lib.hid (HC.out.below hbc HC.out.2.2.2.2.2)
  have Hb0 := Lib.hid (Hb0.out.trans (hbc.mono Hb0.out.size))
  clear hbc
  obtain ⟨a0, a1, _, _, _⟩ := HA.out
  obtain ⟨b0, b1, _, _, _⟩ := HB.out
  obtain ⟨g0, g1, _, _, _⟩ := HG.out
  go_wp2_with fail
  obtain ⟨X, hX, hP, _, hbc, hsX⟩ := two_boxes we (.bool Q1.neg) (.string Q1.mag) (.bool R1.neg) (.string R1.mag) 48
  rw [hX]
  have HP := Lib.hid hP
  have nP : we.heap.size ≠ gc := by have := HC.out.2.2.2.2.2; omega
  have HA := Lib.hid (HA.out.below hbc HA.out.2.2.2.2)
  have HB := Lib.hid (HB.out.below hbc HB.out.2.2.2.2)
  have HC := Lib.hid (HC.out.below hbc HC.out.2.2.2.2.2)
  have Hb0 := Lib.hid (Hb0.out.trans (hbc.mono Hb0.out.size))
  clear hbc
  clear hX hP hsX
  refine (Hq2.out _).mono ?_
  rintro e wf ⟨rfl, hbc⟩
  dsimp only
  have HP := Lib.hid (HP.out.below hbc HP.out.2.2.2.2)
  have HA := Lib.hid (HA.out.below hbc HA.out.2.2.2.2)
  have HB := Lib.hid (HB.out.below hbc HB.out.2.2.2.2)
  have HC := Lib.hid (HC.out.below hbc HC.out.2.2.2.2.2)
  have Hb0 := Lib.hid (Hb0.out.trans (hbc.mono Hb0.out.size))
  clear hbc
  have nQ : wf.heap.size ≠ gc := by have := HC.out.2.2.2.2.2; omega
  clear a0 a1 b0 b1 g0 g1 HG
  go_upto_region 9 with (fail)
  obtain ⟨Y, hY, hQ, _, hbc, hsY⟩ := two_boxes wf (.bool Q2.neg) (.string Q2.mag) (.bool R2.neg) (.string R2.mag) 48
  rw [hY]
  have HP := Lib.hid (HP.out.below hbc HP.out.2.2.2.2)
  have HA := Lib.hid (HA.out.below hbc HA.out.2.2.2.2)
  have HB := Lib.hid (HB.out.below hbc HB.out.2.2.2.2)
  have HC := Lib.hid (HC.out.below hbc HC.out.2.2.2.2.2)
  have Hb0 := Lib.hid (Hb0.out.trans (hbc.mono Hb0.out.size))
  clear hbc
  obtain ⟨p0, p1, _, _, hp⟩ := HP.out
  obtain ⟨c0, c1, c2, c3, c4, hc⟩ := HC.out
  obtain ⟨q0, q1, _, _, hq⟩ := hQ
  have f0 := c4 0
  have f1 := c4 1
  have f2 := c4 2
  have f3 := c4 3
  clear c4 hY hsY
  go_wp2_with fail
  refine bodyPost_ret (v := .agg #[.bool Q1.neg, .string Q1.mag, .bool Q2.neg, .string Q2.mag]) ?_ rfl ⟨rfl, ?_⟩
  · simp [results, Try.results77, go_sem, c0, c1, c2, c3]
  · exact (((Hb0.out.setCell le3 _).setCell le3 _).setCell le3 _).setCell le3 _
set_option maxRecDepth 100000 in
set_option maxHeartbeats 8000000 in
theorem lowN_walk (N D N2 D2 G Q1 R1 Q2 R2 : ZI) (cN : Int) (hcN : (cN == 0) = false) (w : World) (hc1 : ∀ W, Calls Try.prog 52 #[.agg #[.bool D.neg, .string D.mag], .agg #[.bool false, .string ⟨#[]⟩]] W fun e w' => e = .returned (.int .i64 (-1)) ∧ Below W.heap.size W w') (hc2 : ∀ W, Calls Try.prog 52 #[.agg #[.bool N.neg, .string N.mag], .agg #[.bool false, .string ⟨#[]⟩]] W fun e w' => e = .returned (.int .i64 cN) ∧ Below W.heap.size W w') (hn1 : ∀ W, Calls Try.prog 103 #[.agg #[.bool N.neg, .string N.mag]] W (RetZ N2 W)) (hn2 : ∀ W, Calls Try.prog 103 #[.agg #[.bool D.neg, .string D.mag]] W (RetZ D2 W)) (hg : ∀ W, Calls Try.prog 104 #[.agg #[.bool N2.neg, .string N2.mag], .agg #[.bool D2.neg, .string D2.mag]] W (RetZ G W)) (hq1 : ∀ W, Calls Try.prog 105 #[.agg #[.bool N2.neg, .string N2.mag], .agg #[.bool G.neg, .string G.mag]] W (RetDiv Q1 R1 W)) (hq2 : ∀ W, Calls Try.prog 105 #[.agg #[.bool D2.neg, .string D2.mag], .agg #[.bool G.neg, .string G.mag]] W (RetDiv Q2 R2 W)) :
    Calls Try.prog 77 #[.agg #[.bool N.neg, .string N.mag], .agg #[.bool D.neg, .string D.mag]] w fun e w' => e = .returned (.agg #[.bool Q1.neg, .string Q1.mag, .bool Q2.neg, .string Q2.mag]) ∧ Below w.heap.size w w' := by
  have Hc1 := Lib.hid hc1
  have Hc2 := Lib.hid hc2
  have Hg := Lib.hid hg
  have Hq1 := Lib.hid hq1
  have Hq2 := Lib.hid hq2
  have Hn1 := Lib.hid hn1
  have Hn2 := Lib.hid hn2
  have hcN2 : ¬ cN = 0 := by simpa using hcN
  clear hc1 hc2 hg hq1 hq2 hn1 hn2
  go_enter Try.func77, Try.ntmps77
  go_wp2_with fail
  obtain ⟨W, hW, hA, hB, hb0, hs0⟩ := two_boxes w (.bool N.neg) (.string N.mag) (.bool D.neg) (.string D.mag) 48
  rw [hW]
  have hC : Box4 (W.alloc (.cells #[.bool false, .string ⟨#[]⟩, .bool false, .string ⟨#[]⟩] 50)) (w.heap.size + 1 + 1) (.bool false) (.string ⟨#[]⟩) (.bool false) (.string ⟨#[]⟩) := by rw [← hs0]; exact Box4.new _ _ _ _ _ _
  have hb1 := hb0.alloc (by omega) (.cells #[.bool false, .string ⟨#[]⟩, .bool false, .string ⟨#[]⟩] 50)
  have hs1 : w.heap.size + 1 + 1 + 1 ≤ (W.alloc (.cells #[.bool false, .string ⟨#[]⟩, .bool false, .string ⟨#[]⟩] 50)).heap.size := by simp [hs0]
  have hA := hA.alloc (.cells #[.bool false, .string ⟨#[]⟩, .bool false, .string ⟨#[]⟩] 50)
  have hB := hB.alloc (.cells #[.bool false, .string ⟨#[]⟩, .bool false, .string ⟨#[]⟩] 50)
  generalize hV : (W.alloc (.cells #[.bool false, .string ⟨#[]⟩, .bool false, .string ⟨#[]⟩] 50)) = V at *
  have HA := Lib.hid hA
  have HB := Lib.hid hB
  have HC := Lib.hid hC
  have Hb0 := Lib.hid hb1
  obtain ⟨a0, a1, _, _, _⟩ := hA
  obtain ⟨b0, b1, _, _, _⟩ := hB
  clear hC hb0 hb1 hs0 hs1 hW hV
  refine (Hc1.out _).mono ?_
  rintro e wa ⟨rfl, hbc⟩
  dsimp only
  have HA := Lib.hid (HA.out.below hbc HA.out.2.2.2.2)
  have HB := Lib.hid (HB.out.below hbc HB.out.2.2.2.2)
  have HC := Lib.hid (HC.out.below hbc HC.out.2.2.2.2.2)
  have Hb0 := Lib.hid (Hb0.out.trans (hbc.mono Hb0.out.size))
  clear hbc
  obtain ⟨a0, a1, _, _, _⟩ := HA.out
  obtain ⟨b0, b1, _, _, _⟩ := HB.out
  go_wp2_with fail
  refine (Hc2.out _).mono ?_
  rintro e wb ⟨rfl, hbc⟩
  dsimp only
  have HA := Lib.hid (HA.out.below hbc HA.out.2.2.2.2)
  have HB := Lib.hid (HB.out.below hbc HB.out.2.2.2.2)
  have HC := Lib.hid (HC.out.below hbc HC.out.2.2.2.2.2)
  have Hb0 := Lib.hid (Hb0.out.trans (hbc.mono Hb0.out.size))
  clear hbc
  go_upto_region 5 with (fail)
  clear a0 a1 b0 b1
  obtain ⟨ga, hga⟩ : ∃ k, w.heap.size = k := ⟨_, rfl⟩
  obtain ⟨gb, hgb⟩ : ∃ k, w.heap.size + 1 = k := ⟨_, rfl⟩
  obtain ⟨gc, hgc⟩ : ∃ k, w.heap.size + 1 + 1 = k := ⟨_, rfl⟩
  have le1 : w.heap.size ≤ ga := by omega
  have le2 : w.heap.size ≤ gb := by omega
  have le3 : w.heap.size ≤ gc := by omega
  have ab : ga ≠ gb := by omega
  have ac : ga ≠ gc := by omega
  have ba : gb ≠ ga := by omega
  have bc : gb ≠ gc := by omega
  rw [hgc] at HC
  rw [hgb] at HB
  rw [hga] at HA
  rw [hgc, hgb, hga]
  clear hga hgb hgc
  refine wp_region_held_drew (S := fun _ => True) (by kernel_rfl) trivial (fun _ => ?_)
  have A_q1 := Lib.hid (BoxAt.drw HA.out)
  have B_q1 := Lib.hid (BoxAt.drw HB.out)
  have C_q1 := Lib.hid (Box4.drw HC.out)
  have Z_q1 := Lib.hid (Hb0.out.drew)
  try simp only [Act.put, List.getElem_toArray, List.getElem_cons_zero, List.getElem_cons_succ, List.setIfInBounds_toArray, List.set_cons_zero, List.set_cons_succ]
  refine wpAnyH_ready (rs := [0, 2]) (by kernel_rfl) (by simp) ?_
  refine AllReadyH.cons rfl (fun K hK => ?_) (AllReadyH.cons rfl (fun K hK => ?_) AllReadyH.nil)
  · obtain ⟨z0, z1, _, _, _⟩ := A_q1.out
    go_simp
    refine hK.out _ _ trivial (fun _ => ?_)
    clear hK K z0 z1
    try simp only [Act.put, List.getElem_toArray, List.getElem_cons_zero, List.getElem_cons_succ, List.setIfInBounds_toArray, List.set_cons_zero, List.set_cons_succ]
    refine wpAnyH_ready (rs := [1, 2]) (by kernel_rfl) (by simp) ?_
    refine AllReadyH.cons rfl (fun K hK => ?_) (AllReadyH.cons rfl (fun K hK => ?_) AllReadyH.nil)
    · go_simp
      refine (Hn1.out _).mono ?_
      rintro e wq2 ⟨rfl, hbc⟩
      have A_q2 := Lib.hid (A_q1.out.below hbc A_q1.out.2.2.2.2)
      have B_q2 := Lib.hid (B_q1.out.below hbc B_q1.out.2.2.2.2)
      have C_q2 := Lib.hid (C_q1.out.below hbc C_q1.out.2.2.2.2.2)
      have Z_q2 := Lib.hid (Z_q1.out.trans (hbc.mono Z_q1.out.size))
      dsimp only
      refine hK.out _ _ trivial (fun _ => ?_)
      clear hK K hbc
      try simp only [Act.put, List.getElem_toArray, List.getElem_cons_zero, List.getElem_cons_succ, List.setIfInBounds_toArray, List.set_cons_zero, List.set_cons_succ]
      refine wpAnyH_ready (rs := [2]) (by kernel_rfl) (by simp) ?_
      refine AllReadyH.cons rfl (fun K hK => ?_) AllReadyH.nil
      obtain ⟨z0, z1, _, _, _⟩ := B_q2.out
      go_simp
      refine hK.out _ _ trivial (fun _ => ?_)
      clear hK K z0 z1
      try simp only [Act.put, List.getElem_toArray, List.getElem_cons_zero, List.getElem_cons_succ, List.setIfInBounds_toArray, List.set_cons_zero, List.set_cons_succ]
      refine wpAnyH_ready (rs := [3]) (by kernel_rfl) (by simp) ?_
      refine AllReadyH.cons rfl (fun K hK => ?_) AllReadyH.nil
      go_simp
      refine (Hn2.out _).mono ?_
      rintro e wq3 ⟨rfl, hbc⟩
      have A_q3 := Lib.hid (A_q2.out.below hbc A_q2.out.2.2.2.2)
      have B_q3 := Lib.hid (B_q2.out.below hbc B_q2.out.2.2.2.2)
      have C_q3 := Lib.hid (C_q2.out.below hbc C_q2.out.2.2.2.2.2)
      have Z_q3 := Lib.hid (Z_q2.out.trans (hbc.mono Z_q2.out.size))
      dsimp only
      refine hK.out _ _ trivial (fun _ => ?_)
      clear hK K hbc
      try simp only [Act.put, List.getElem_toArray, List.getElem_cons_zero, List.getElem_cons_succ, List.setIfInBounds_toArray, List.set_cons_zero, List.set_cons_succ]
      refine wpAnyH_ready (rs := [4]) (by kernel_rfl) (by simp) ?_
      refine AllReadyH.cons rfl (fun K hK => ?_) AllReadyH.nil
      obtain ⟨z0, z1, z2, z3, _⟩ := A_q3.out
      have A_q4 := Lib.hid (A_q3.out.set2 (.bool N2.neg) (.string N2.mag))
      have B_q4 := Lib.hid (((B_q3.out).far ⟨ga, 0, none⟩ (.bool N2.neg) ab).far ⟨ga, 1, none⟩ (.string N2.mag) ab)
      have C_q4 := Lib.hid (((C_q3.out).far ⟨ga, 0, none⟩ (.bool N2.neg) ac).far ⟨ga, 1, none⟩ (.string N2.mag) ac)
      have Z_q4 := Lib.hid (((Z_q3.out).setCell (p := ⟨ga, 0, none⟩) le1 (.bool N2.neg)).setCell (p := ⟨ga, 1, none⟩) le1 (.string N2.mag))
      go_simp
      refine hK.out _ _ trivial (fun _ => ?_)
      clear hK K z0 z1 z2 z3
      try simp only [Act.put, List.getElem_toArray, List.getElem_cons_zero, List.getElem_cons_succ, List.setIfInBounds_toArray, List.set_cons_zero, List.set_cons_succ]
      refine wpAnyH_ready (rs := [5]) (by kernel_rfl) (by simp) ?_
      refine AllReadyH.cons rfl (fun K hK => ?_) AllReadyH.nil
      obtain ⟨z0, z1, z2, z3, _⟩ := B_q4.out
      have A_q5 := Lib.hid (((A_q4.out).far ⟨gb, 0, none⟩ (.bool D2.neg) ba).far ⟨gb, 1, none⟩ (.string D2.mag) ba)
      have B_q5 := Lib.hid (B_q4.out.set2 (.bool D2.neg) (.string D2.mag))
      have C_q5 := Lib.hid (((C_q4.out).far ⟨gb, 0, none⟩ (.bool D2.neg) bc).far ⟨gb, 1, none⟩ (.string D2.mag) bc)
      have Z_q5 := Lib.hid (((Z_q4.out).setCell (p := ⟨gb, 0, none⟩) le2 (.bool D2.neg)).setCell (p := ⟨gb, 1, none⟩) le2 (.string D2.mag))
      go_simp
      refine hK.out _ _ trivial (fun _ => ?_)
      clear hK K z0 z1 z2 z3
      refine wpAnyH_done (by kernel_rfl) ?_ _
      obtain ⟨HA, HB, HC, Hb0⟩ : Hid (BoxAt _ ga (.bool N2.neg) (.string N2.mag)) ∧ Hid (BoxAt _ gb (.bool D2.neg) (.string D2.mag)) ∧ Hid (Box4 _ gc (.bool false) (.string ⟨#[]⟩) (.bool false) (.string ⟨#[]⟩)) ∧ Hid (Below w.heap.size w _) := ⟨A_q5, B_q5, C_q5, Z_q5⟩
      obtain ⟨a0, a1, _, _, _⟩ := HA.out
      obtain ⟨b0, b1, _, _, _⟩ := HB.out
      go_wp2_with fail
      refine (Hg.out _).mono ?_
      rintro e wc ⟨rfl, hbc⟩
      dsimp only
      have HA := Lib.hid (HA.out.below hbc HA.out.2.2.2.2)
      have HB := Lib.hid (HB.out.below hbc HB.out.2.2.2.2)
      have HC := Lib.hid (HC.out.below hbc HC.out.2.2.2.2.2)
      have Hb0 := Lib.hid (Hb0.out.trans (hbc.mono Hb0.out.size))
      clear hbc
      obtain ⟨a0, a1, _, _, _⟩ := HA.out
      obtain ⟨b0, b1, _, _, _⟩ := HB.out
      go_wp2_with fail
      have hG := BoxAt.new wc (.bool G.neg) (.string G.mag) 48
      have hbc := (Below.refl wc.heap.size wc).alloc (Nat.le_refl _) (.cells #[.bool G.neg, .string G.mag] 48)
      have HA := Lib.hid (HA.out.below hbc HA.out.2.2.2.2)
      have HB := Lib.hid (HB.out.below hbc HB.out.2.2.2.2)
      have HC := Lib.hid (HC.out.below hbc HC.out.2.2.2.2.2)
      have Hb0 := Lib.hid (Hb0.out.trans (hbc.mono Hb0.out.size))
      clear hbc
      generalize wc.alloc (.cells #[.bool G.neg, .string G.mag] 48) = wd at *
      have HG := Lib.hid hG
      clear hG
      refine (Hq1.out _).mono ?_
      rintro e we ⟨rfl, hbc⟩
      dsimp only
      have HG := Lib.hid (HG.out.below hbc HG.out.2.2.2.2)
      have HA := Lib.hid (HA.out.below hbc HA.out.2.2.2.2)
      have HB := Lib.hid (HB.out.below hbc HB.out.2.2.2.2)
      have HC := Lib.hid (HC.out.below hbc HC.out.2.2.2.2.2)
      have Hb0 := Lib.hid (Hb0.out.trans (hbc.mono Hb0.out.size))
      clear hbc
      obtain ⟨a0, a1, _, _, _⟩ := HA.out
      obtain ⟨b0, b1, _, _, _⟩ := HB.out
      obtain ⟨g0, g1, _, _, _⟩ := HG.out
      go_wp2_with fail
      obtain ⟨X, hX, hP, _, hbc, hsX⟩ := two_boxes we (.bool Q1.neg) (.string Q1.mag) (.bool R1.neg) (.string R1.mag) 48
      rw [hX]
      have HP := Lib.hid hP
      have nP : we.heap.size ≠ gc := by have := HC.out.2.2.2.2.2; omega
      have HA := Lib.hid (HA.out.below hbc HA.out.2.2.2.2)
      have HB := Lib.hid (HB.out.below hbc HB.out.2.2.2.2)
      have HC := Lib.hid (HC.out.below hbc HC.out.2.2.2.2.2)
      have Hb0 := Lib.hid (Hb0.out.trans (hbc.mono Hb0.out.size))
      clear hbc
      clear hX hP hsX
      refine (Hq2.out _).mono ?_
      rintro e wf ⟨rfl, hbc⟩
      dsimp only
      have HP := Lib.hid (HP.out.below hbc HP.out.2.2.2.2)
      have HA := Lib.hid (HA.out.below hbc HA.out.2.2.2.2)
      have HB := Lib.hid (HB.out.below hbc HB.out.2.2.2.2)
      have HC := Lib.hid (HC.out.below hbc HC.out.2.2.2.2.2)
      have Hb0 := Lib.hid (Hb0.out.trans (hbc.mono Hb0.out.size))
      clear hbc
      have nQ : wf.heap.size ≠ gc := by have := HC.out.2.2.2.2.2; omega
      clear a0 a1 b0 b1 g0 g1 HG
      go_upto_region 9 with (fail)
      obtain ⟨Y, hY, hQ, _, hbc, hsY⟩ := two_boxes wf (.bool Q2.neg) (.string Q2.mag) (.bool R2.neg) (.string R2.mag) 48
      rw [hY]
      have HP := Lib.hid (HP.out.below hbc HP.out.2.2.2.2)
      have HA := Lib.hid (HA.out.below hbc HA.out.2.2.2.2)
      have HB := Lib.hid (HB.out.below hbc HB.out.2.2.2.2)
      have HC := Lib.hid (HC.out.below hbc HC.out.2.2.2.2.2)
      have Hb0 := Lib.hid (Hb0.out.trans (hbc.mono Hb0.out.size))
      clear hbc
      obtain ⟨p0, p1, _, _, hp⟩ := HP.out
      obtain ⟨c0, c1, c2, c3, c4, hc⟩ := HC.out
      obtain ⟨q0, q1, _, _, hq⟩ := hQ
      have f0 := c4 0
      have f1 := c4 1
      have f2 := c4 2
      have f3 := c4 3
      clear c4 hY hsY
      go_wp2_with fail
      refine bodyPost_ret (v := .agg #[.bool Q1.neg, .string Q1.mag, .bool Q2.neg, .string Q2.mag]) ?_ rfl ⟨rfl, ?_⟩
      · simp [results, Try.results77, go_sem, c0, c1, c2, c3]
      · exact (((Hb0.out.setCell le3 _).setCell le3 _).setCell le3 _).setCell le3 _
    · obtain ⟨z0, z1, _, _, _⟩ := B_q1.out
      go_simp
      refine hK.out _ _ trivial (fun _ => ?_)
      clear hK K z0 z1
      try simp only [Act.put, List.getElem_toArray, List.getElem_cons_zero, List.getElem_cons_succ, List.setIfInBounds_toArray, List.set_cons_zero, List.set_cons_succ]
      refine wpAnyH_ready (rs := [1]) (by kernel_rfl) (by simp) ?_
      refine AllReadyH.cons rfl (fun K hK => ?_) AllReadyH.nil
      go_simp
      refine (Hn1.out _).mono ?_
      rintro e wq6 ⟨rfl, hbc⟩
      have A_q6 := Lib.hid (A_q1.out.below hbc A_q1.out.2.2.2.2)
      have B_q6 := Lib.hid (B_q1.out.below hbc B_q1.out.2.2.2.2)
      have C_q6 := Lib.hid (C_q1.out.below hbc C_q1.out.2.2.2.2.2)
      have Z_q6 := Lib.hid (Z_q1.out.trans (hbc.mono Z_q1.out.size))
      dsimp only
      refine hK.out _ _ trivial (fun _ => ?_)
      clear hK K hbc
      try simp only [Act.put, List.getElem_toArray, List.getElem_cons_zero, List.getElem_cons_succ, List.setIfInBounds_toArray, List.set_cons_zero, List.set_cons_succ]
      refine wpAnyH_ready (rs := [3]) (by kernel_rfl) (by simp) ?_
      refine AllReadyH.cons rfl (fun K hK => ?_) AllReadyH.nil
      go_simp
      refine (Hn2.out _).mono ?_
      rintro e wq7 ⟨rfl, hbc⟩
      have A_q7 := Lib.hid (A_q6.out.below hbc A_q6.out.2.2.2.2)
      have B_q7 := Lib.hid (B_q6.out.below hbc B_q6.out.2.2.2.2)
      have C_q7 := Lib.hid (C_q6.out.below hbc C_q6.out.2.2.2.2.2)
      have Z_q7 := Lib.hid (Z_q6.out.trans (hbc.mono Z_q6.out.size))
      dsimp only
      refine hK.out _ _ trivial (fun _ => ?_)
      clear hK K hbc
      try simp only [Act.put, List.getElem_toArray, List.getElem_cons_zero, List.getElem_cons_succ, List.setIfInBounds_toArray, List.set_cons_zero, List.set_cons_succ]
      refine wpAnyH_ready (rs := [4]) (by kernel_rfl) (by simp) ?_
      refine AllReadyH.cons rfl (fun K hK => ?_) AllReadyH.nil
      obtain ⟨z0, z1, z2, z3, _⟩ := A_q7.out
      have A_q8 := Lib.hid (A_q7.out.set2 (.bool N2.neg) (.string N2.mag))
      have B_q8 := Lib.hid (((B_q7.out).far ⟨ga, 0, none⟩ (.bool N2.neg) ab).far ⟨ga, 1, none⟩ (.string N2.mag) ab)
      have C_q8 := Lib.hid (((C_q7.out).far ⟨ga, 0, none⟩ (.bool N2.neg) ac).far ⟨ga, 1, none⟩ (.string N2.mag) ac)
      have Z_q8 := Lib.hid (((Z_q7.out).setCell (p := ⟨ga, 0, none⟩) le1 (.bool N2.neg)).setCell (p := ⟨ga, 1, none⟩) le1 (.string N2.mag))
      go_simp
      refine hK.out _ _ trivial (fun _ => ?_)
      clear hK K z0 z1 z2 z3
      try simp only [Act.put, List.getElem_toArray, List.getElem_cons_zero, List.getElem_cons_succ, List.setIfInBounds_toArray, List.set_cons_zero, List.set_cons_succ]
      refine wpAnyH_ready (rs := [5]) (by kernel_rfl) (by simp) ?_
      refine AllReadyH.cons rfl (fun K hK => ?_) AllReadyH.nil
      obtain ⟨z0, z1, z2, z3, _⟩ := B_q8.out
      have A_q9 := Lib.hid (((A_q8.out).far ⟨gb, 0, none⟩ (.bool D2.neg) ba).far ⟨gb, 1, none⟩ (.string D2.mag) ba)
      have B_q9 := Lib.hid (B_q8.out.set2 (.bool D2.neg) (.string D2.mag))
      have C_q9 := Lib.hid (((C_q8.out).far ⟨gb, 0, none⟩ (.bool D2.neg) bc).far ⟨gb, 1, none⟩ (.string D2.mag) bc)
      have Z_q9 := Lib.hid (((Z_q8.out).setCell (p := ⟨gb, 0, none⟩) le2 (.bool D2.neg)).setCell (p := ⟨gb, 1, none⟩) le2 (.string D2.mag))
      go_simp
      refine hK.out _ _ trivial (fun _ => ?_)
      clear hK K z0 z1 z2 z3
      refine wpAnyH_done (by kernel_rfl) ?_ _
      obtain ⟨HA, HB, HC, Hb0⟩ : Hid (BoxAt _ ga (.bool N2.neg) (.string N2.mag)) ∧ Hid (BoxAt _ gb (.bool D2.neg) (.string D2.mag)) ∧ Hid (Box4 _ gc (.bool false) (.string ⟨#[]⟩) (.bool false) (.string ⟨#[]⟩)) ∧ Hid (Below w.heap.size w _) := ⟨A_q9, B_q9, C_q9, Z_q9⟩
      obtain ⟨a0, a1, _, _, _⟩ := HA.out
      obtain ⟨b0, b1, _, _, _⟩ := HB.out
      go_wp2_with fail
      refine (Hg.out _).mono ?_
      rintro e wc ⟨rfl, hbc⟩
      dsimp only
      have HA := Lib.hid (HA.out.below hbc HA.out.2.2.2.2)
      have HB := Lib.hid (HB.out.below hbc HB.out.2.2.2.2)
      have HC := Lib.hid (HC.out.below hbc HC.out.2.2.2.2.2)
      have Hb0 := Lib.hid (Hb0.out.trans (hbc.mono Hb0.out.size))
      clear hbc
      obtain ⟨a0, a1, _, _, _⟩ := HA.out
      obtain ⟨b0, b1, _, _, _⟩ := HB.out
      go_wp2_with fail
      have hG := BoxAt.new wc (.bool G.neg) (.string G.mag) 48
      have hbc := (Below.refl wc.heap.size wc).alloc (Nat.le_refl _) (.cells #[.bool G.neg, .string G.mag] 48)
      have HA := Lib.hid (HA.out.below hbc HA.out.2.2.2.2)
      have HB := Lib.hid (HB.out.below hbc HB.out.2.2.2.2)
      have HC := Lib.hid (HC.out.below hbc HC.out.2.2.2.2.2)
      have Hb0 := Lib.hid (Hb0.out.trans (hbc.mono Hb0.out.size))
      clear hbc
      generalize wc.alloc (.cells #[.bool G.neg, .string G.mag] 48) = wd at *
      have HG := Lib.hid hG
      clear hG
      refine (Hq1.out _).mono ?_
      rintro e we ⟨rfl, hbc⟩
      dsimp only
      have HG := Lib.hid (HG.out.below hbc HG.out.2.2.2.2)
      have HA := Lib.hid (HA.out.below hbc HA.out.2.2.2.2)
      have HB := Lib.hid (HB.out.below hbc HB.out.2.2.2.2)
      have HC := Lib.hid (HC.out.below hbc HC.out.2.2.2.2.2)
      have Hb0 := Lib.hid (Hb0.out.trans (hbc.mono Hb0.out.size))
      clear hbc
      obtain ⟨a0, a1, _, _, _⟩ := HA.out
      obtain ⟨b0, b1, _, _, _⟩ := HB.out
      obtain ⟨g0, g1, _, _, _⟩ := HG.out
      go_wp2_with fail
      obtain ⟨X, hX, hP, _, hbc, hsX⟩ := two_boxes we (.bool Q1.neg) (.string Q1.mag) (.bool R1.neg) (.string R1.mag) 48
      rw [hX]
      have HP := Lib.hid hP
      have nP : we.heap.size ≠ gc := by have := HC.out.2.2.2.2.2; omega
      have HA := Lib.hid (HA.out.below hbc HA.out.2.2.2.2)
      have HB := Lib.hid (HB.out.below hbc HB.out.2.2.2.2)
      have HC := Lib.hid (HC.out.below hbc HC.out.2.2.2.2.2)
      have Hb0 := Lib.hid (Hb0.out.trans (hbc.mono Hb0.out.size))
      clear hbc
      clear hX hP hsX
      refine (Hq2.out _).mono ?_
      rintro e wf ⟨rfl, hbc⟩
      dsimp only
      have HP := Lib.hid (HP.out.below hbc HP.out.2.2.2.2)
      have HA := Lib.hid (HA.out.below hbc HA.out.2.2.2.2)
      have HB := Lib.hid (HB.out.below hbc HB.out.2.2.2.2)
      have HC := Lib.hid (HC.out.below hbc HC.out.2.2.2.2.2)
      have Hb0 := Lib.hid (Hb0.out.trans (hbc.mono Hb0.out.size))
      clear hbc
      have nQ : wf.heap.size ≠ gc := by have := HC.out.2.2.2.2.2; omega
      clear a0 a1 b0 b1 g0 g1 HG
      go_upto_region 9 with (fail)
      obtain ⟨Y, hY, hQ, _, hbc, hsY⟩ := two_boxes wf (.bool Q2.neg) (.string Q2.mag) (.bool R2.neg) (.string R2.mag) 48
      rw [hY]
      have HP := Lib.hid (HP.out.below hbc HP.out.2.2.2.2)
      have HA := Lib.hid (HA.out.below hbc HA.out.2.2.2.2)
      have HB := Lib.hid (HB.out.below hbc HB.out.2.2.2.2)
      have HC := Lib.hid (HC.out.below hbc HC.out.2.2.2.2.2)
      have Hb0 := Lib.hid (Hb0.out.trans (hbc.mono Hb0.out.size))
      clear hbc
      obtain ⟨p0, p1, _, _, hp⟩ := HP.out
      obtain ⟨c0, c1, c2, c3, c4, hc⟩ := HC.out
      obtain ⟨q0, q1, _, _, hq⟩ := hQ
      have f0 := c4 0
      have f1 := c4 1
      have f2 := c4 2
      have f3 := c4 3
      clear c4 hY hsY
      go_wp2_with fail
      refine bodyPost_ret (v := .agg #[.bool Q1.neg, .string Q1.mag, .bool Q2.neg, .string Q2.mag]) ?_ rfl ⟨rfl, ?_⟩
      · simp [results, Try.results77, go_sem, c0, c1, c2, c3]
      · exact (((Hb0.out.setCell le3 _).setCell le3 _).setCell le3 _).setCell le3 _
  · obtain ⟨z0, z1, _, _, _⟩ := B_q1.out
    go_simp
    refine hK.out _ _ trivial (fun _ => ?_)
    clear hK K z0 z1
    try simp only [Act.put, List.getElem_toArray, List.getElem_cons_zero, List.getElem_cons_succ, List.setIfInBounds_toArray, List.set_cons_zero, List.set_cons_succ]
    refine wpAnyH_ready (rs := [0]) (by kernel_rfl) (by simp) ?_
    refine AllReadyH.cons rfl (fun K hK => ?_) AllReadyH.nil
    obtain ⟨z0, z1, _, _, _⟩ := A_q1.out
    go_simp
    refine hK.out _ _ trivial (fun _ => ?_)
    clear hK K z0 z1
    try simp only [Act.put, List.getElem_toArray, List.getElem_cons_zero, List.getElem_cons_succ, List.setIfInBounds_toArray, List.set_cons_zero, List.set_cons_succ]
    refine wpAnyH_ready (rs := [1]) (by kernel_rfl) (by simp) ?_
    refine AllReadyH.cons rfl (fun K hK => ?_) AllReadyH.nil
    go_simp
    refine (Hn1.out _).mono ?_
    rintro e wq10 ⟨rfl, hbc⟩
    have A_q10 := Lib.hid (A_q1.out.below hbc A_q1.out.2.2.2.2)
    have B_q10 := Lib.hid (B_q1.out.below hbc B_q1.out.2.2.2.2)
    have C_q10 := Lib.hid (C_q1.out.below hbc C_q1.out.2.2.2.2.2)
    have Z_q10 := Lib.hid (Z_q1.out.trans (hbc.mono Z_q1.out.size))
    dsimp only
    refine hK.out _ _ trivial (fun _ => ?_)
    clear hK K hbc
    try simp only [Act.put, List.getElem_toArray, List.getElem_cons_zero, List.getElem_cons_succ, List.setIfInBounds_toArray, List.set_cons_zero, List.set_cons_succ]
    refine wpAnyH_ready (rs := [3]) (by kernel_rfl) (by simp) ?_
    refine AllReadyH.cons rfl (fun K hK => ?_) AllReadyH.nil
    go_simp
    refine (Hn2.out _).mono ?_
    rintro e wq11 ⟨rfl, hbc⟩
    have A_q11 := Lib.hid (A_q10.out.below hbc A_q10.out.2.2.2.2)
    have B_q11 := Lib.hid (B_q10.out.below hbc B_q10.out.2.2.2.2)
    have C_q11 := Lib.hid (C_q10.out.below hbc C_q10.out.2.2.2.2.2)
    have Z_q11 := Lib.hid (Z_q10.out.trans (hbc.mono Z_q10.out.size))
    dsimp only
    refine hK.out _ _ trivial (fun _ => ?_)
    clear hK K hbc
    try simp only [Act.put, List.getElem_toArray, List.getElem_cons_zero, List.getElem_cons_succ, List.setIfInBounds_toArray, List.set_cons_zero, List.set_cons_succ]
    refine wpAnyH_ready (rs := [4]) (by kernel_rfl) (by simp) ?_
    refine AllReadyH.cons rfl (fun K hK => ?_) AllReadyH.nil
    obtain ⟨z0, z1, z2, z3, _⟩ := A_q11.out
    have A_q12 := Lib.hid (A_q11.out.set2 (.bool N2.neg) (.string N2.mag))
    have B_q12 := Lib.hid (((B_q11.out).far ⟨ga, 0, none⟩ (.bool N2.neg) ab).far ⟨ga, 1, none⟩ (.string N2.mag) ab)
    have C_q12 := Lib.hid (((C_q11.out).far ⟨ga, 0, none⟩ (.bool N2.neg) ac).far ⟨ga, 1, none⟩ (.string N2.mag) ac)
    have Z_q12 := Lib.hid (((Z_q11.out).setCell (p := ⟨ga, 0, none⟩) le1 (.bool N2.neg)).setCell (p := ⟨ga, 1, none⟩) le1 (.string N2.mag))
    go_simp
    refine hK.out _ _ trivial (fun _ => ?_)
    clear hK K z0 z1 z2 z3
    try simp only [Act.put, List.getElem_toArray, List.getElem_cons_zero, List.getElem_cons_succ, List.setIfInBounds_toArray, List.set_cons_zero, List.set_cons_succ]
    refine wpAnyH_ready (rs := [5]) (by kernel_rfl) (by simp) ?_
    refine AllReadyH.cons rfl (fun K hK => ?_) AllReadyH.nil
    obtain ⟨z0, z1, z2, z3, _⟩ := B_q12.out
    have A_q13 := Lib.hid (((A_q12.out).far ⟨gb, 0, none⟩ (.bool D2.neg) ba).far ⟨gb, 1, none⟩ (.string D2.mag) ba)
    have B_q13 := Lib.hid (B_q12.out.set2 (.bool D2.neg) (.string D2.mag))
    have C_q13 := Lib.hid (((C_q12.out).far ⟨gb, 0, none⟩ (.bool D2.neg) bc).far ⟨gb, 1, none⟩ (.string D2.mag) bc)
    have Z_q13 := Lib.hid (((Z_q12.out).setCell (p := ⟨gb, 0, none⟩) le2 (.bool D2.neg)).setCell (p := ⟨gb, 1, none⟩) le2 (.string D2.mag))
    go_simp
    refine hK.out _ _ trivial (fun _ => ?_)
    clear hK K z0 z1 z2 z3
    refine wpAnyH_done (by kernel_rfl) ?_ _
    obtain ⟨HA, HB, HC, Hb0⟩ : Hid (BoxAt _ ga (.bool N2.neg) (.string N2.mag)) ∧ Hid (BoxAt _ gb (.bool D2.neg) (.string D2.mag)) ∧ Hid (Box4 _ gc (.bool false) (.string ⟨#[]⟩) (.bool false) (.string ⟨#[]⟩)) ∧ Hid (Below w.heap.size w _) := ⟨A_q13, B_q13, C_q13, Z_q13⟩
    obtain ⟨a0, a1, _, _, _⟩ := HA.out
    obtain ⟨b0, b1, _, _, _⟩ := HB.out
    go_wp2_with fail
    refine (Hg.out _).mono ?_
    rintro e wc ⟨rfl, hbc⟩
    dsimp only
    have HA := Lib.hid (HA.out.below hbc HA.out.2.2.2.2)
    have HB := Lib.hid (HB.out.below hbc HB.out.2.2.2.2)
    have HC := Lib.hid (HC.out.below hbc HC.out.2.2.2.2.2)
    have Hb0 := Lib.hid (Hb0.out.trans (hbc.mono Hb0.out.size))
    clear hbc
    obtain ⟨a0, a1, _, _, _⟩ := HA.out
    obtain ⟨b0, b1, _, _, _⟩ := HB.out
    go_wp2_with fail
    have hG := BoxAt.new wc (.bool G.neg) (.string G.mag) 48
    have hbc := (Below.refl wc.heap.size wc).alloc (Nat.le_refl _) (.cells #[.bool G.neg, .string G.mag] 48)
    have HA := Lib.hid (HA.out.below hbc HA.out.2.2.2.2)
    have HB := Lib.hid (HB.out.below hbc HB.out.2.2.2.2)
    have HC := Lib.hid (HC.out.below hbc HC.out.2.2.2.2.2)
    have Hb0 := Lib.hid (Hb0.out.trans (hbc.mono Hb0.out.size))
    clear hbc
    generalize wc.alloc (.cells #[.bool G.neg, .string G.mag] 48) = wd at *
    have HG := Lib.hid hG
    clear hG
    refine (Hq1.out _).mono ?_
    rintro e we ⟨rfl, hbc⟩
    dsimp only
    have HG := Lib.hid (HG.out.below hbc HG.out.2.2.2.2)
    have HA := Lib.hid (HA.out.below hbc HA.out.2.2.2.2)
    have HB := Lib.hid (HB.out.below hbc HB.out.2.2.2.2)
    have HC := Lib.hid (HC.out.below hbc HC.out.2.2.2.2.2)
    have Hb0 := Lib.hid (Hb0.out.trans (hbc.mono Hb0.out.size))
    clear hbc
    obtain ⟨a0, a1, _, _, _⟩ := HA.out
    obtain ⟨b0, b1, _, _, _⟩ := HB.out
    obtain ⟨g0, g1, _, _, _⟩ := HG.out
    go_wp2_with fail
    obtain ⟨X, hX, hP, _, hbc, hsX⟩ := two_boxes we (.bool Q1.neg) (.string Q1.mag) (.bool R1.neg) (.string R1.mag) 48
    rw [hX]
    have HP := Lib.hid hP
    have nP : we.heap.size ≠ gc := by have := HC.out.2.2.2.2.2; omega
    have HA := Lib.hid (HA.out.below hbc HA.out.2.2.2.2)
    have HB := Lib.hid (HB.out.below hbc HB.out.2.2.2.2)
    have HC := Lib.hid (HC.out.below hbc HC.out.2.2.2.2.2)
    have Hb0 := Lib.hid (Hb0.out.trans (hbc.mono Hb0.out.size))
    clear hbc
    clear hX hP hsX
    refine (Hq2.out _).mono ?_
    rintro e wf ⟨rfl, hbc⟩
    dsimp only
    have HP := Lib.hid (HP.out.below hbc HP.out.2.2.2.2)
    have HA := Lib.hid (HA.out.below hbc HA.out.2.2.2.2)
    have HB := Lib.hid (HB.out.below hbc HB.out.2.2.2.2)
    have HC := Lib.hid (HC.out.below hbc HC.out.2.2.2.2.2)
    have Hb0 := Lib.hid (Hb0.out.trans (hbc.mono Hb0.out.size))
    clear hbc
    have nQ : wf.heap.size ≠ gc := by have := HC.out.2.2.2.2.2; omega
    clear a0 a1 b0 b1 g0 g1 HG
    go_upto_region 9 with (fail)
    obtain ⟨Y, hY, hQ, _, hbc, hsY⟩ := two_boxes wf (.bool Q2.neg) (.string Q2.mag) (.bool R2.neg) (.string R2.mag) 48
    rw [hY]
    have HP := Lib.hid (HP.out.below hbc HP.out.2.2.2.2)
    have HA := Lib.hid (HA.out.below hbc HA.out.2.2.2.2)
    have HB := Lib.hid (HB.out.below hbc HB.out.2.2.2.2)
    have HC := Lib.hid (HC.out.below hbc HC.out.2.2.2.2.2)
    have Hb0 := Lib.hid (Hb0.out.trans (hbc.mono Hb0.out.size))
    clear hbc
    obtain ⟨p0, p1, _, _, hp⟩ := HP.out
    obtain ⟨c0, c1, c2, c3, c4, hc⟩ := HC.out
    obtain ⟨q0, q1, _, _, hq⟩ := hQ
    have f0 := c4 0
    have f1 := c4 1
    have f2 := c4 2
    have f3 := c4 3
    clear c4 hY hsY
    go_wp2_with fail
    refine bodyPost_ret (v := .agg #[.bool Q1.neg, .string Q1.mag, .bool Q2.neg, .string Q2.mag]) ?_ rfl ⟨rfl, ?_⟩
    · simp [results, Try.results77, go_sem, c0, c1, c2, c3]
    · exact (((Hb0.out.setCell le3 _).setCell le3 _).setCell le3 _).setCell le3 _
set_option maxRecDepth 100000 in
set_option maxHeartbeats 8000000 in
theorem low0_walk (N D : ZI) (w : World) (hc1 : ∀ W, Calls Try.prog 52 #[.agg #[.bool D.neg, .string D.mag], .agg #[.bool false, .string ⟨#[]⟩]] W fun e w' => e = .returned (.int .i64 0) ∧ Below W.heap.size W w') :
    Calls Try.prog 77 #[.agg #[.bool N.neg, .string N.mag], .agg #[.bool D.neg, .string D.mag]] w fun e w' => e = .returned (.agg #[.bool false, .string ⟨#[]⟩, .bool (canon 1).neg, .string (canon 1).mag]) ∧ Below w.heap.size w w' := by
  have Hc1 := Lib.hid hc1
  have HOf := Lib.hid (fun W => of_any 1 (by decide) (by decide) W)
  clear hc1
  go_enter Try.func77, Try.ntmps77
  go_wp2_with fail
  obtain ⟨W, hW, hA, hB, hb0, hs0⟩ := two_boxes w (.bool N.neg) (.string N.mag) (.bool D.neg) (.string D.mag) 48
  rw [hW]
  have hC : Box4 (W.alloc (.cells #[.bool false, .string ⟨#[]⟩, .bool false, .string ⟨#[]⟩] 50)) (w.heap.size + 1 + 1) (.bool false) (.string ⟨#[]⟩) (.bool false) (.string ⟨#[]⟩) := by rw [← hs0]; exact Box4.new _ _ _ _ _ _
  have hb1 := hb0.alloc (by omega) (.cells #[.bool false, .string ⟨#[]⟩, .bool false, .string ⟨#[]⟩] 50)
  have hs1 : w.heap.size + 1 + 1 + 1 ≤ (W.alloc (.cells #[.bool false, .string ⟨#[]⟩, .bool false, .string ⟨#[]⟩] 50)).heap.size := by simp [hs0]
  have hA := hA.alloc (.cells #[.bool false, .string ⟨#[]⟩, .bool false, .string ⟨#[]⟩] 50)
  have hB := hB.alloc (.cells #[.bool false, .string ⟨#[]⟩, .bool false, .string ⟨#[]⟩] 50)
  generalize hV : (W.alloc (.cells #[.bool false, .string ⟨#[]⟩, .bool false, .string ⟨#[]⟩] 50)) = V at *
  have HA := Lib.hid hA
  have HB := Lib.hid hB
  have HC := Lib.hid hC
  have Hb0 := Lib.hid hb1
  obtain ⟨a0, a1, _, _, _⟩ := hA
  obtain ⟨b0, b1, _, _, _⟩ := hB
  clear hC hb0 hb1 hs0 hs1 hW hV
  refine (Hc1.out _).mono ?_
  rintro e wa ⟨rfl, hbc⟩
  dsimp only
  have HA := Lib.hid (HA.out.below hbc HA.out.2.2.2.2)
  have HB := Lib.hid (HB.out.below hbc HB.out.2.2.2.2)
  have HC := Lib.hid (HC.out.below hbc HC.out.2.2.2.2.2)
  have Hb0 := Lib.hid (Hb0.out.trans (hbc.mono Hb0.out.size))
  clear hbc
  clear a0 a1 b0 b1
  go_wp2_with fail
  refine (HOf.out _).mono ?_
  rintro e wz ⟨rfl, hbc⟩
  dsimp only
  have HA := Lib.hid (HA.out.below hbc HA.out.2.2.2.2)
  have HB := Lib.hid (HB.out.below hbc HB.out.2.2.2.2)
  have HC := Lib.hid (HC.out.below hbc HC.out.2.2.2.2.2)
  have Hb0 := Lib.hid (Hb0.out.trans (hbc.mono Hb0.out.size))
  clear hbc
  obtain ⟨C1, hC1⟩ : ∃ z, canon (1 : Int) = z := ⟨_, rfl⟩
  rw [hC1]
  have HC1 := Lib.hid hC1
  clear hC1
  obtain ⟨gc, hgc⟩ : ∃ k, w.heap.size + 1 + 1 = k := ⟨_, rfl⟩
  have le3 : w.heap.size ≤ gc := by omega
  rw [hgc] at HC ⊢
  clear hgc
  obtain ⟨c0, c1, c2, c3, c4, hc⟩ := HC.out
  have f0 := c4 0
  have f1 := c4 1
  have f2 := c4 2
  have f3 := c4 3
  clear c4
  go_wp2_with fail
  refine bodyPost_ret (v := .agg #[.bool false, .string ⟨#[]⟩, .bool C1.neg, .string C1.mag]) ?_ rfl ⟨by rw [HC1.out], ?_⟩
  · simp [results, Try.results77, go_sem, c0, c1, c2, c3]
  · exact (((Hb0.out.setCell le3 _).setCell le3 _).setCell le3 _).setCell le3 _
set_option maxRecDepth 100000 in
set_option maxHeartbeats 8000000 in
theorem lowZ_walk (N D : ZI) (cD : Int) (w : World) (hc1 : ∀ W, Calls Try.prog 52 #[.agg #[.bool D.neg, .string D.mag], .agg #[.bool false, .string ⟨#[]⟩]] W fun e w' => e = .returned (.int .i64 cD) ∧ Below W.heap.size W w') (hcD : (cD == 0) = false) (hc2 : ∀ W, Calls Try.prog 52 #[.agg #[.bool N.neg, .string N.mag], .agg #[.bool false, .string ⟨#[]⟩]] W fun e w' => e = .returned (.int .i64 0) ∧ Below W.heap.size W w') :
    Calls Try.prog 77 #[.agg #[.bool N.neg, .string N.mag], .agg #[.bool D.neg, .string D.mag]] w fun e w' => e = .returned (.agg #[.bool false, .string ⟨#[]⟩, .bool (canon 1).neg, .string (canon 1).mag]) ∧ Below w.heap.size w w' := by
  have Hc1 := Lib.hid hc1
  have Hc2 := Lib.hid hc2
  have hcD2 : ¬ cD = 0 := by simpa using hcD
  have HOf := Lib.hid (fun W => of_any 1 (by decide) (by decide) W)
  clear hc1 hc2
  go_enter Try.func77, Try.ntmps77
  go_wp2_with fail
  obtain ⟨W, hW, hA, hB, hb0, hs0⟩ := two_boxes w (.bool N.neg) (.string N.mag) (.bool D.neg) (.string D.mag) 48
  rw [hW]
  have hC : Box4 (W.alloc (.cells #[.bool false, .string ⟨#[]⟩, .bool false, .string ⟨#[]⟩] 50)) (w.heap.size + 1 + 1) (.bool false) (.string ⟨#[]⟩) (.bool false) (.string ⟨#[]⟩) := by rw [← hs0]; exact Box4.new _ _ _ _ _ _
  have hb1 := hb0.alloc (by omega) (.cells #[.bool false, .string ⟨#[]⟩, .bool false, .string ⟨#[]⟩] 50)
  have hs1 : w.heap.size + 1 + 1 + 1 ≤ (W.alloc (.cells #[.bool false, .string ⟨#[]⟩, .bool false, .string ⟨#[]⟩] 50)).heap.size := by simp [hs0]
  have hA := hA.alloc (.cells #[.bool false, .string ⟨#[]⟩, .bool false, .string ⟨#[]⟩] 50)
  have hB := hB.alloc (.cells #[.bool false, .string ⟨#[]⟩, .bool false, .string ⟨#[]⟩] 50)
  generalize hV : (W.alloc (.cells #[.bool false, .string ⟨#[]⟩, .bool false, .string ⟨#[]⟩] 50)) = V at *
  have HA := Lib.hid hA
  have HB := Lib.hid hB
  have HC := Lib.hid hC
  have Hb0 := Lib.hid hb1
  obtain ⟨a0, a1, _, _, _⟩ := hA
  obtain ⟨b0, b1, _, _, _⟩ := hB
  clear hC hb0 hb1 hs0 hs1 hW hV
  refine (Hc1.out _).mono ?_
  rintro e wa ⟨rfl, hbc⟩
  dsimp only
  have HA := Lib.hid (HA.out.below hbc HA.out.2.2.2.2)
  have HB := Lib.hid (HB.out.below hbc HB.out.2.2.2.2)
  have HC := Lib.hid (HC.out.below hbc HC.out.2.2.2.2.2)
  have Hb0 := Lib.hid (Hb0.out.trans (hbc.mono Hb0.out.size))
  clear hbc
  obtain ⟨a0, a1, _, _, _⟩ := HA.out
  obtain ⟨b0, b1, _, _, _⟩ := HB.out
  go_wp2_with fail
  refine (Hc2.out _).mono ?_
  rintro e wb ⟨rfl, hbc⟩
  dsimp only
  have HA := Lib.hid (HA.out.below hbc HA.out.2.2.2.2)
  have HB := Lib.hid (HB.out.below hbc HB.out.2.2.2.2)
  have HC := Lib.hid (HC.out.below hbc HC.out.2.2.2.2.2)
  have Hb0 := Lib.hid (Hb0.out.trans (hbc.mono Hb0.out.size))
  clear hbc
  clear a0 a1 b0 b1
  go_wp2_with fail
  refine (HOf.out _).mono ?_
  rintro e wz ⟨rfl, hbc⟩
  dsimp only
  have HA := Lib.hid (HA.out.below hbc HA.out.2.2.2.2)
  have HB := Lib.hid (HB.out.below hbc HB.out.2.2.2.2)
  have HC := Lib.hid (HC.out.below hbc HC.out.2.2.2.2.2)
  have Hb0 := Lib.hid (Hb0.out.trans (hbc.mono Hb0.out.size))
  clear hbc
  obtain ⟨C1, hC1⟩ : ∃ z, canon (1 : Int) = z := ⟨_, rfl⟩
  rw [hC1]
  have HC1 := Lib.hid hC1
  clear hC1
  obtain ⟨gc, hgc⟩ : ∃ k, w.heap.size + 1 + 1 = k := ⟨_, rfl⟩
  have le3 : w.heap.size ≤ gc := by omega
  rw [hgc] at HC ⊢
  clear hgc
  obtain ⟨c0, c1, c2, c3, c4, hc⟩ := HC.out
  have f0 := c4 0
  have f1 := c4 1
  have f2 := c4 2
  have f3 := c4 3
  clear c4
  go_wp2_with fail
  refine bodyPost_ret (v := .agg #[.bool false, .string ⟨#[]⟩, .bool C1.neg, .string C1.mag]) ?_ rfl ⟨by rw [HC1.out], ?_⟩
  · simp [results, Try.results77, go_sem, c0, c1, c2, c3]
  · exact (((Hb0.out.setCell le3 _).setCell le3 _).setCell le3 _).setCell le3 _
/-- The number n / d in lowest terms: numerator and denominator; 0 where d is 0. -/
def rloN (n d : Int) : Int := if d = 0 ∨ n = 0 then 0 else (if d < 0 then -n else n) / (Nat.gcd n.natAbs d.natAbs : Nat)
def rloD (n d : Int) : Int := if d = 0 ∨ n = 0 then 1 else (if d < 0 then -d else d) / (Nat.gcd n.natAbs d.natAbs : Nat)
theorem quo_exactZ (z : ZI) (k : Int) (h0 : valZ z ≠ 0) (hk : k ≠ 0) (h : k ∣ valZ z) : quoZ z (canon k) = canon (valZ z / k) := by
  rw [← quo_exact (valZ z) k hk h]
  have e1 : z.neg = (canon (valZ z)).neg := by
    show _ = decide (valZ z < 0)
    unfold valZ at h0 ⊢
    cases hz : z.neg
    · rw [if_neg (by simp), decide_eq_false (by omega)]
    · rw [hz, if_pos rfl] at h0
      rw [if_pos rfl, decide_eq_true (by omega)]
  have e2 : absZ z = absZ (canon (valZ z)) := by
    rw [absZ_canon]
    unfold valZ
    split <;> omega
  unfold quoZ
  rw [← e1, ← e2]
theorem valZ_abs (z : ZI) : (valZ z).natAbs = absZ z := by unfold valZ; split <;> omega
theorem gcd_nat_dvd (a b : Int) : ((Nat.gcd a.natAbs b.natAbs : Nat) : Int) ∣ a ∧ ((Nat.gcd a.natAbs b.natAbs : Nat) : Int) ∣ b :=
  ⟨Int.ofNat_dvd_left.2 (Nat.gcd_dvd_left _ _), Int.ofNat_dvd_left.2 (Nat.gcd_dvd_right _ _)⟩
theorem canon_gcd_size {a b K : Nat} {z : ZI} (h : absZ z = a) (h0 : a ≠ 0) (hz : z.mag.size ≤ K) : (canon ((Nat.gcd a b : Nat) : Int)).mag.size ≤ K := by
  refine canon_size _ (k := K) ?_
  rw [Int.natAbs_natCast]
  have h1 : Nat.gcd a b ≤ a := Nat.gcd_le_left _ (by omega)
  have h2 := absZ_lt z
  have h3 : 256 ^ z.mag.size ≤ 256 ^ K := Nat.pow_le_pow_right (by omega) hz
  omega
theorem lowZ_any (n d : ZI) (hn : n.mag.size ≤ 100000000) (hd : d.mag.size ≤ 100000000) (w : World) :
    Calls Try.prog 77 #[.agg #[.bool n.neg, .string n.mag], .agg #[.bool d.neg, .string d.mag]] w (RetR (rloN (valZ n) (valZ d)) (rloD (valZ n) (valZ d)) w) := by
  have h1 := fun W => cmp_any d ⟨false, ⟨#[]⟩⟩ hd (by decide) W
  have h2 := fun W => cmp_any n ⟨false, ⟨#[]⟩⟩ hn (by decide) W
  rw [show valZ ⟨false, ⟨#[]⟩⟩ = 0 from rfl] at h1 h2
  by_cases hd0 : valZ d = 0
  · rw [show cmpI (valZ d) 0 = 0 from by unfold cmpI; rw [if_neg (by omega), if_neg (by omega)]] at h1
    refine (low0_walk n d w h1).mono ?_
    rintro e w' ⟨rfl, hb⟩
    unfold RetR ratV rloN rloD
    rw [if_pos (.inl hd0), if_pos (.inl hd0)]
    exact ⟨rfl, hb⟩
  by_cases hn0 : valZ n = 0
  · rw [show cmpI (valZ n) 0 = 0 from by unfold cmpI; rw [if_neg (by omega), if_neg (by omega)]] at h2
    refine (lowZ_walk n d _ w h1 (by unfold cmpI; rw [beq_eq_false_iff_ne]; split <;> (try split) <;> omega) h2).mono ?_
    rintro e w' ⟨rfl, hb⟩
    unfold RetR ratV rloN rloD
    rw [if_pos (.inr hn0), if_pos (.inr hn0)]
    exact ⟨rfl, hb⟩
  have hcN : (cmpI (valZ n) 0 == 0) = false := by unfold cmpI; rw [beq_eq_false_iff_ne]; split <;> (try split) <;> omega
  have hne : ¬ (valZ d = 0 ∨ valZ n = 0) := by omega
  unfold RetR ratV rloN rloD
  rw [if_neg hne, if_neg hne]
  obtain ⟨hg1, hg2⟩ := gcd_nat_dvd (valZ n) (valZ d)
  have hga : (valZ n).natAbs = absZ n := valZ_abs n
  have hgb : (valZ d).natAbs = absZ d := valZ_abs d
  have hgs := canon_gcd_size (b := (valZ d).natAbs) hga.symm (by omega) hn
  have hg0 : Nat.gcd (valZ n).natAbs (valZ d).natAbs ≠ 0 := fun h => by have := (Nat.gcd_eq_zero_iff.1 h).1; omega
  have hgc : ∀ W, Calls Try.prog 104 #[.agg #[.bool n.neg, .string n.mag], .agg #[.bool d.neg, .string d.mag]] W (RetZ (canon ((Nat.gcd (valZ n).natAbs (valZ d).natAbs : Nat) : Int)) W) := fun W => by rw [hga, hgb]; exact gcdz_any n d hn hd W
  obtain ⟨g, hg⟩ : ∃ g, Nat.gcd (valZ n).natAbs (valZ d).natAbs = g := ⟨_, rfl⟩
  rw [hg] at hg1 hg2 hgs hg0 hgc ⊢
  rcases Int.lt_or_gt_of_ne hd0 with hs | hs
  · rw [show cmpI (valZ d) 0 = -1 from by unfold cmpI; rw [if_pos hs]] at h1
    rw [if_pos hs, if_pos hs]
    have s1 : (canon (-valZ n)).mag.size ≤ 100000000 := by rw [size_neg]; exact Nat.le_trans (canon_size_le n) hn
    have s2 : (canon (-valZ d)).mag.size ≤ 100000000 := by rw [size_neg]; exact Nat.le_trans (canon_size_le d) hd
    have n1 := fun W => neg_any n hn W
    have n2 := fun W => neg_any d hd W
    simp only [negZ_val] at n1 n2
    have hgc2 := fun W => gcdz_any (canon (-valZ n)) (canon (-valZ d)) s1 s2 W
    simp only [absZ_canon, Int.natAbs_neg] at hgc2
    rw [hg] at hgc2
    have q1 := fun W => div_any (canon (-valZ n)) (canon (g : Int)) s1 hgs (by rw [absZ_canon]; omega) W
    have q2 := fun W => div_any (canon (-valZ d)) (canon (g : Int)) s2 hgs (by rw [absZ_canon]; omega) W
    rw [quo_exact _ _ (by omega) (Int.dvd_neg.2 hg1)] at q1
    rw [quo_exact _ _ (by omega) (Int.dvd_neg.2 hg2)] at q2
    exact lowN_walk n d _ _ _ _ _ _ _ _ hcN w h1 h2 n1 n2 hgc2 q1 q2
  · rw [show cmpI (valZ d) 0 = 1 from by unfold cmpI; rw [if_neg (by omega), if_pos hs]] at h1
    rw [if_neg (by omega), if_neg (by omega)]
    have q1 := fun W => div_any n (canon (g : Int)) hn hgs (by rw [absZ_canon]; omega) W
    have q2 := fun W => div_any d (canon (g : Int)) hd hgs (by rw [absZ_canon]; omega) W
    rw [quo_exactZ n _ hn0 (by omega) hg1] at q1
    rw [quo_exactZ d _ hd0 (by omega) hg2] at q2
    exact lowP_walk n d _ _ _ _ _ _ hcN w h1 h2 hgc q1 q2
end Go.Proofs.Ytcafeffgaokiaaa
