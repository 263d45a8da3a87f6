/- grooveref02.lowest at any size. -/
import Derived.Test.YtcafeffgaokiaaaZ37
import Derived.Test.YtcafeffgaokiaaaZ38
import Derived.Test.YtcafeffgaokiaaaZ39
namespace Go.Proofs.Ytcafeffgaokiaaa
open Go.RowKit Go.Shelf
theorem absZ_vz (z : ZI) : absZ z = (valZ z).natAbs := by unfold valZ; split <;> omega
theorem rlo_val (n d : Int) (hd : d ≠ 0) : (if d < 0 then -n else n) / ((Nat.gcd n.natAbs d.natAbs : Nat) : Int) = rloN n d ∧ (if d < 0 then -d else d) / ((Nat.gcd n.natAbs d.natAbs : Nat) : Int) = rloD n d := by
  by_cases h : n = 0
  · subst h
    have e0 : rloN 0 d = 0 := by unfold rloN; exact if_pos (.inr rfl)
    have e1 : rloD 0 d = 1 := by unfold rloD; exact if_pos (.inr rfl)
    have e2 : Nat.gcd (0 : Int).natAbs d.natAbs = d.natAbs := Nat.gcd_zero_left _
    have e3 : (if d < 0 then -d else d) = ((d.natAbs : Nat) : Int) := by split <;> omega
    have e4 : (if d < 0 then -(0 : Int) else 0) = 0 := by split <;> rfl
    rw [e0, e1, e2, e3, e4, Int.zero_ediv]
    exact ⟨rfl, Int.ediv_self (by omega)⟩
  · have e0 : rloN n d = (if d < 0 then -n else n) / ((Nat.gcd n.natAbs d.natAbs : Nat) : Int) := by unfold rloN; exact if_neg (by omega)
    have e1 : rloD n d = (if d < 0 then -d else d) / ((Nat.gcd n.natAbs d.natAbs : Nat) : Int) := by unfold rloD; exact if_neg (by omega)
    exact ⟨e0.symm, e1.symm⟩
theorem canon_neg_mag (n : Int) : (canon (-n)).mag = (canon n).mag := by
  unfold canon
  rw [Int.natAbs_neg]
theorem boxes224 (w : World) (a b a' b' : Value) (t u : TypeId) : ∃ W, (((w.alloc (.cells #[a, b] t)).alloc (.cells #[a', b'] t)).alloc (.cells #[.bool false, .string ⟨#[]⟩, .bool false, .string ⟨#[]⟩] u)) = W ∧ BoxAt W w.heap.size a b ∧ BoxAt W (w.heap.size + 1) a' b' ∧ Box4 W (w.heap.size + 1 + 1) (.bool false) (.string ⟨#[]⟩) (.bool false) (.string ⟨#[]⟩) ∧ Below w.heap.size w W := by
  obtain ⟨W, hW, hA, hB, hb, hs⟩ := two_boxes w a b a' b' t
  rw [hW]
  have hC := Box4.new W (.bool false) (.string ⟨#[]⟩) (.bool false) (.string ⟨#[]⟩) u
  rw [hs] at hC
  exact ⟨_, rfl, hA.alloc _, hB.alloc _, hC, hb.alloc hb.size _⟩
set_option maxRecDepth 100000 in
set_option maxHeartbeats 8000000 in
theorem sign2_any (z : ZI) (hz : z.mag.size ≤ 100000000) (w : World) :
    Calls Try.prog 100 #[.agg #[.bool z.neg, .string z.mag]] w fun e w' => e = .returned (.int .i64 (cmpI (valZ z) 0)) ∧ Below w.heap.size w w' := by
  have HC := Lib.hid (fun W => refCmpZ_any z ⟨false, ⟨#[]⟩⟩ hz (by decide) (valZ z) 0 rfl rfl W)
  generalize cmpI (valZ z) 0 = c at *
  clear hz
  go_enter Try.func100, Try.ntmps100
  go_wp2_with fail
  refine (HC.out _).mono ?_
  rintro e w2 ⟨rfl, hb⟩
  dsimp only
  have Hb := Lib.hid (((Below.refl _ w).alloc (Nat.le_refl _) _).trans (hb.mono (by simp)))
  clear hb
  go_wp2
  go_ret
  exact ⟨rfl, Hb.out⟩
set_option maxRecDepth 100000 in
set_option maxHeartbeats 8000000 in
theorem refLowest_any (zn zd : ZI) (hn : zn.mag.size ≤ 90000000) (hd : zd.mag.size ≤ 90000000) (n d : Int) (hvn : valZ zn = n) (hvd : valZ zd = d) (hd0 : d ≠ 0) (w : World) :
    Calls Try.prog 101 #[.agg #[.bool zn.neg, .string zn.mag], .agg #[.bool zd.neg, .string zd.mag]] w (RetR (rloN n d) (rloD n d) w) := by
  have hS := fun W => sign2_any zd (by omega) W
  rw [hvd] at hS
  obtain ⟨hq1, hq2⟩ := rlo_val n d hd0
  have hdv := gcd_nat_dvd n d
  have hGs : (canon ((Nat.gcd n.natAbs d.natAbs : Nat) : Int)).mag.size ≤ 90000000 := by
    rw [Nat.gcd_comm]
    exact canon_gcd_size (z := zd) (by rw [absZ_vz, hvd]) (by omega) hd
  have hG0 : ((Nat.gcd n.natAbs d.natAbs : Nat) : Int) ≠ 0 := by
    intro h
    have := Nat.gcd_eq_zero_iff.1 (Int.natCast_eq_zero.1 h)
    omega
  have hnn := refNeg_any zn (by omega)
  have hnd := refNeg_any zd (by omega)
  rw [hvn] at hnn
  rw [hvd] at hnd
  have hsn : (canon (-n)).mag.size ≤ 90000000 := by
    rw [canon_neg_mag, ← hvn]; exact Nat.le_trans (canon_size_le zn) hn
  have hsd : (canon (-d)).mag.size ≤ 90000000 := by
    rw [canon_neg_mag, ← hvd]; exact Nat.le_trans (canon_size_le zd) hd
  obtain ⟨G, hG⟩ : ∃ G, Nat.gcd n.natAbs d.natAbs = G := ⟨_, rfl⟩
  rw [hG] at hq1 hq2 hdv hGs hG0
  show Calls Try.prog 101 #[.agg #[.bool zn.neg, .string zn.mag], .agg #[.bool zd.neg, .string zd.mag]] w (fun e w' => e = .returned (ratV (rloN n d) (rloD n d)) ∧ Below w.heap.size w w')
  unfold ratV
  by_cases hneg : d < 0
  · have hc : cmpI d 0 < 0 := by unfold cmpI; rw [if_pos hneg]; decide
    rw [if_pos hneg] at hq1 hq2
    have hgc := fun W => refGcdZ_any (canon (-n)) (canon (-d)) hsn hsd G (by rw [absZ_canon, absZ_canon, Int.natAbs_neg, Int.natAbs_neg]; exact hG) W
    have hd1 := fun W => refDivX_any (canon (-n)) (canon (G : Int)) hsn hGs (-n) (G : Int) (valZ_canon _) (valZ_canon _) hG0 (Int.dvd_neg.2 hdv.1) W
    have hd2 := fun W => refDivX_any (canon (-d)) (canon (G : Int)) hsd hGs (-d) (G : Int) (valZ_canon _) (valZ_canon _) hG0 (Int.dvd_neg.2 hdv.2) W
    rw [hq1] at hd1
    rw [hq2] at hd2
    have HS := Lib.hid hS
    have HGc := Lib.hid hgc
    have HD1 := Lib.hid hd1
    have HD2 := Lib.hid hd2
    have HN1 := Lib.hid hnn
    have HN2 := Lib.hid hnd
    generalize canon (rloN n d) = Q1 at *
    generalize canon (rloD n d) = Q2 at *
    generalize canon (G : Int) = GG at *
    generalize canon (-n) = N2 at *
    generalize canon (-d) = D2 at *
    generalize cmpI d 0 = cc at *
    generalize canon 0 = K0 at *
    clear hS hgc hd1 hd2 hnn hnd hq1 hq2 hdv hGs hG0 hsn hsd hn hd hvn hvd hd0 hneg hG
    go_enter Try.func101, Try.ntmps101
    go_upto_region 1 with (fail)
    obtain ⟨W0, hW, hA, hB, hC, hb⟩ := boxes224 w (.bool zn.neg) (.string zn.mag) (.bool zd.neg) (.string zd.mag) 48 50
    rw [hW]
    obtain ⟨gA, hgA⟩ : ∃ g, w.heap.size = g := ⟨_, rfl⟩
    obtain ⟨gB, hgB⟩ : ∃ g, w.heap.size + 1 = g := ⟨_, rfl⟩
    obtain ⟨gC, hgC⟩ : ∃ g, w.heap.size + 1 + 1 = g := ⟨_, rfl⟩
    have lA : w.heap.size ≤ gA := by omega
    have lB : w.heap.size ≤ gB := by omega
    have lC : w.heap.size ≤ gC := by omega
    have nab : gA ≠ gB := by omega
    have nba : gB ≠ gA := by omega
    have nac : gA ≠ gC := by omega
    have nca : gC ≠ gA := by omega
    have nbc : gB ≠ gC := by omega
    have ncb : gC ≠ gB := by omega
    rw [hgA] at hA
    rw [hgB] at hB
    rw [hgC] at hC ⊢
    rw [hgB, hgA]
    have HA := Lib.hid hA
    have HB := Lib.hid hB
    have HC := Lib.hid hC
    have HZ := Lib.hid hb
    clear hA hB hC hb hW hgA hgB hgC
    obtain ⟨b0, b1, b2, b3, _⟩ := HB.out
    go_wp2_with fail
    refine (HS.out _).mono ?_
    rintro e w1 ⟨rfl, hbc⟩
    dsimp only
    clear b0 b1 b2 b3
    have HA := Lib.hid (HA.out.below hbc HA.out.2.2.2.2)
    have HB := Lib.hid (HB.out.below hbc HB.out.2.2.2.2)
    have HC := Lib.hid (HC.out.below hbc HC.out.2.2.2.2.2)
    have HZ := Lib.hid (HZ.out.trans (hbc.mono HZ.out.size))
    clear hbc
    go_upto_region 2 with (fail)
    go_cut [] (fun wx => Hid (BoxAt wx gA (.bool N2.neg) (.string N2.mag)) ∧ Hid (BoxAt wx gB (.bool D2.neg) (.string D2.mag)) ∧ Hid (Box4 wx gC (.bool false) (.string ⟨#[]⟩) (.bool false) (.string ⟨#[]⟩)) ∧ Hid (Below w.heap.size w wx))
    case first =>
      refine wp_region_held_drew (S := fun _ => True) (by kernel_rfl) trivial (fun _ => ?_)
      have A_q1 := Lib.hid (BoxAt.drw HA.out)
      have B_q1 := Lib.hid (BoxAt.drw HB.out)
      have C_q1 := Lib.hid (Box4.drw HC.out)
      have Z_q1 := Lib.hid (HZ.out.drew)
      try simp only [Act.put, List.getElem_toArray, List.getElem_cons_zero, List.getElem_cons_succ, List.setIfInBounds_toArray, List.set_cons_zero, List.set_cons_succ]
      refine wpAnyH_ready (rs := [0, 2]) (by kernel_rfl) (by simp) ?_
      refine AllReadyH.cons rfl (fun K hK => ?_) (AllReadyH.cons rfl (fun K hK => ?_) AllReadyH.nil)
      · obtain ⟨z0, z1, _, _, _⟩ := A_q1.out
        go_simp
        refine hK.out _ _ trivial (fun _ => ?_)
        clear hK K z0 z1
        try simp only [Act.put, List.getElem_toArray, List.getElem_cons_zero, List.getElem_cons_succ, List.setIfInBounds_toArray, List.set_cons_zero, List.set_cons_succ]
        refine wpAnyH_ready (rs := [1, 2]) (by kernel_rfl) (by simp) ?_
        refine AllReadyH.cons rfl (fun K hK => ?_) (AllReadyH.cons rfl (fun K hK => ?_) AllReadyH.nil)
        · go_simp
          refine (HN1.out _).mono ?_
          rintro e wq2 ⟨rfl, hbc⟩
          have A_q2 := Lib.hid (A_q1.out.below hbc A_q1.out.2.2.2.2)
          have B_q2 := Lib.hid (B_q1.out.below hbc B_q1.out.2.2.2.2)
          have C_q2 := Lib.hid (C_q1.out.below hbc C_q1.out.2.2.2.2.2)
          have Z_q2 := Lib.hid (Z_q1.out.trans (hbc.mono Z_q1.out.size))
          dsimp only
          refine hK.out _ _ trivial (fun _ => ?_)
          clear hK K hbc
          try simp only [Act.put, List.getElem_toArray, List.getElem_cons_zero, List.getElem_cons_succ, List.setIfInBounds_toArray, List.set_cons_zero, List.set_cons_succ]
          refine wpAnyH_ready (rs := [2]) (by kernel_rfl) (by simp) ?_
          refine AllReadyH.cons rfl (fun K hK => ?_) AllReadyH.nil
          obtain ⟨z0, z1, _, _, _⟩ := B_q2.out
          go_simp
          refine hK.out _ _ trivial (fun _ => ?_)
          clear hK K z0 z1
          try simp only [Act.put, List.getElem_toArray, List.getElem_cons_zero, List.getElem_cons_succ, List.setIfInBounds_toArray, List.set_cons_zero, List.set_cons_succ]
          refine wpAnyH_ready (rs := [3]) (by kernel_rfl) (by simp) ?_
          refine AllReadyH.cons rfl (fun K hK => ?_) AllReadyH.nil
          go_simp
          refine (HN2.out _).mono ?_
          rintro e wq3 ⟨rfl, hbc⟩
          have A_q3 := Lib.hid (A_q2.out.below hbc A_q2.out.2.2.2.2)
          have B_q3 := Lib.hid (B_q2.out.below hbc B_q2.out.2.2.2.2)
          have C_q3 := Lib.hid (C_q2.out.below hbc C_q2.out.2.2.2.2.2)
          have Z_q3 := Lib.hid (Z_q2.out.trans (hbc.mono Z_q2.out.size))
          dsimp only
          refine hK.out _ _ trivial (fun _ => ?_)
          clear hK K hbc
          try simp only [Act.put, List.getElem_toArray, List.getElem_cons_zero, List.getElem_cons_succ, List.setIfInBounds_toArray, List.set_cons_zero, List.set_cons_succ]
          refine wpAnyH_ready (rs := [4]) (by kernel_rfl) (by simp) ?_
          refine AllReadyH.cons rfl (fun K hK => ?_) AllReadyH.nil
          obtain ⟨z0, z1, z2, z3, _⟩ := A_q3.out
          have A_q4 := Lib.hid (A_q3.out.set2 (.bool N2.neg) (.string N2.mag))
          have B_q4 := Lib.hid (((B_q3.out).far ⟨gA, 0, none⟩ (.bool N2.neg) nab).far ⟨gA, 1, none⟩ (.string N2.mag) nab)
          have C_q4 := Lib.hid (((C_q3.out).far ⟨gA, 0, none⟩ (.bool N2.neg) nac).far ⟨gA, 1, none⟩ (.string N2.mag) nac)
          have Z_q4 := Lib.hid (((Z_q3.out).setCell (p := ⟨gA, 0, none⟩) lA (.bool N2.neg)).setCell (p := ⟨gA, 1, none⟩) lA (.string N2.mag))
          go_simp
          refine hK.out _ _ trivial (fun _ => ?_)
          clear hK K z0 z1 z2 z3
          try simp only [Act.put, List.getElem_toArray, List.getElem_cons_zero, List.getElem_cons_succ, List.setIfInBounds_toArray, List.set_cons_zero, List.set_cons_succ]
          refine wpAnyH_ready (rs := [5]) (by kernel_rfl) (by simp) ?_
          refine AllReadyH.cons rfl (fun K hK => ?_) AllReadyH.nil
          obtain ⟨z0, z1, z2, z3, _⟩ := B_q4.out
          have A_q5 := Lib.hid (((A_q4.out).far ⟨gB, 0, none⟩ (.bool D2.neg) nba).far ⟨gB, 1, none⟩ (.string D2.mag) nba)
          have B_q5 := Lib.hid (B_q4.out.set2 (.bool D2.neg) (.string D2.mag))
          have C_q5 := Lib.hid (((C_q4.out).far ⟨gB, 0, none⟩ (.bool D2.neg) nbc).far ⟨gB, 1, none⟩ (.string D2.mag) nbc)
          have Z_q5 := Lib.hid (((Z_q4.out).setCell (p := ⟨gB, 0, none⟩) lB (.bool D2.neg)).setCell (p := ⟨gB, 1, none⟩) lB (.string D2.mag))
          go_simp
          refine hK.out _ _ trivial (fun _ => ?_)
          clear hK K z0 z1 z2 z3
          refine wpAnyH_done (by kernel_rfl) ?_ _
          go_wp2_with fail
          go_meet
          exact ⟨A_q5, B_q5, C_q5, Z_q5⟩
        · obtain ⟨z0, z1, _, _, _⟩ := B_q1.out
          go_simp
          refine hK.out _ _ trivial (fun _ => ?_)
          clear hK K z0 z1
          try simp only [Act.put, List.getElem_toArray, List.getElem_cons_zero, List.getElem_cons_succ, List.setIfInBounds_toArray, List.set_cons_zero, List.set_cons_succ]
          refine wpAnyH_ready (rs := [1]) (by kernel_rfl) (by simp) ?_
          refine AllReadyH.cons rfl (fun K hK => ?_) AllReadyH.nil
          go_simp
          refine (HN1.out _).mono ?_
          rintro e wq6 ⟨rfl, hbc⟩
          have A_q6 := Lib.hid (A_q1.out.below hbc A_q1.out.2.2.2.2)
          have B_q6 := Lib.hid (B_q1.out.below hbc B_q1.out.2.2.2.2)
          have C_q6 := Lib.hid (C_q1.out.below hbc C_q1.out.2.2.2.2.2)
          have Z_q6 := Lib.hid (Z_q1.out.trans (hbc.mono Z_q1.out.size))
          dsimp only
          refine hK.out _ _ trivial (fun _ => ?_)
          clear hK K hbc
          try simp only [Act.put, List.getElem_toArray, List.getElem_cons_zero, List.getElem_cons_succ, List.setIfInBounds_toArray, List.set_cons_zero, List.set_cons_succ]
          refine wpAnyH_ready (rs := [3]) (by kernel_rfl) (by simp) ?_
          refine AllReadyH.cons rfl (fun K hK => ?_) AllReadyH.nil
          go_simp
          refine (HN2.out _).mono ?_
          rintro e wq7 ⟨rfl, hbc⟩
          have A_q7 := Lib.hid (A_q6.out.below hbc A_q6.out.2.2.2.2)
          have B_q7 := Lib.hid (B_q6.out.below hbc B_q6.out.2.2.2.2)
          have C_q7 := Lib.hid (C_q6.out.below hbc C_q6.out.2.2.2.2.2)
          have Z_q7 := Lib.hid (Z_q6.out.trans (hbc.mono Z_q6.out.size))
          dsimp only
          refine hK.out _ _ trivial (fun _ => ?_)
          clear hK K hbc
          try simp only [Act.put, List.getElem_toArray, List.getElem_cons_zero, List.getElem_cons_succ, List.setIfInBounds_toArray, List.set_cons_zero, List.set_cons_succ]
          refine wpAnyH_ready (rs := [4]) (by kernel_rfl) (by simp) ?_
          refine AllReadyH.cons rfl (fun K hK => ?_) AllReadyH.nil
          obtain ⟨z0, z1, z2, z3, _⟩ := A_q7.out
          have A_q8 := Lib.hid (A_q7.out.set2 (.bool N2.neg) (.string N2.mag))
          have B_q8 := Lib.hid (((B_q7.out).far ⟨gA, 0, none⟩ (.bool N2.neg) nab).far ⟨gA, 1, none⟩ (.string N2.mag) nab)
          have C_q8 := Lib.hid (((C_q7.out).far ⟨gA, 0, none⟩ (.bool N2.neg) nac).far ⟨gA, 1, none⟩ (.string N2.mag) nac)
          have Z_q8 := Lib.hid (((Z_q7.out).setCell (p := ⟨gA, 0, none⟩) lA (.bool N2.neg)).setCell (p := ⟨gA, 1, none⟩) lA (.string N2.mag))
          go_simp
          refine hK.out _ _ trivial (fun _ => ?_)
          clear hK K z0 z1 z2 z3
          try simp only [Act.put, List.getElem_toArray, List.getElem_cons_zero, List.getElem_cons_succ, List.setIfInBounds_toArray, List.set_cons_zero, List.set_cons_succ]
          refine wpAnyH_ready (rs := [5]) (by kernel_rfl) (by simp) ?_
          refine AllReadyH.cons rfl (fun K hK => ?_) AllReadyH.nil
          obtain ⟨z0, z1, z2, z3, _⟩ := B_q8.out
          have A_q9 := Lib.hid (((A_q8.out).far ⟨gB, 0, none⟩ (.bool D2.neg) nba).far ⟨gB, 1, none⟩ (.string D2.mag) nba)
          have B_q9 := Lib.hid (B_q8.out.set2 (.bool D2.neg) (.string D2.mag))
          have C_q9 := Lib.hid (((C_q8.out).far ⟨gB, 0, none⟩ (.bool D2.neg) nbc).far ⟨gB, 1, none⟩ (.string D2.mag) nbc)
          have Z_q9 := Lib.hid (((Z_q8.out).setCell (p := ⟨gB, 0, none⟩) lB (.bool D2.neg)).setCell (p := ⟨gB, 1, none⟩) lB (.string D2.mag))
          go_simp
          refine hK.out _ _ trivial (fun _ => ?_)
          clear hK K z0 z1 z2 z3
          refine wpAnyH_done (by kernel_rfl) ?_ _
          go_wp2_with fail
          go_meet
          exact ⟨A_q9, B_q9, C_q9, Z_q9⟩
      · obtain ⟨z0, z1, _, _, _⟩ := B_q1.out
        go_simp
        refine hK.out _ _ trivial (fun _ => ?_)
        clear hK K z0 z1
        try simp only [Act.put, List.getElem_toArray, List.getElem_cons_zero, List.getElem_cons_succ, List.setIfInBounds_toArray, List.set_cons_zero, List.set_cons_succ]
        refine wpAnyH_ready (rs := [0]) (by kernel_rfl) (by simp) ?_
        refine AllReadyH.cons rfl (fun K hK => ?_) AllReadyH.nil
        obtain ⟨z0, z1, _, _, _⟩ := A_q1.out
        go_simp
        refine hK.out _ _ trivial (fun _ => ?_)
        clear hK K z0 z1
        try simp only [Act.put, List.getElem_toArray, List.getElem_cons_zero, List.getElem_cons_succ, List.setIfInBounds_toArray, List.set_cons_zero, List.set_cons_succ]
        refine wpAnyH_ready (rs := [1]) (by kernel_rfl) (by simp) ?_
        refine AllReadyH.cons rfl (fun K hK => ?_) AllReadyH.nil
        go_simp
        refine (HN1.out _).mono ?_
        rintro e wq10 ⟨rfl, hbc⟩
        have A_q10 := Lib.hid (A_q1.out.below hbc A_q1.out.2.2.2.2)
        have B_q10 := Lib.hid (B_q1.out.below hbc B_q1.out.2.2.2.2)
        have C_q10 := Lib.hid (C_q1.out.below hbc C_q1.out.2.2.2.2.2)
        have Z_q10 := Lib.hid (Z_q1.out.trans (hbc.mono Z_q1.out.size))
        dsimp only
        refine hK.out _ _ trivial (fun _ => ?_)
        clear hK K hbc
        try simp only [Act.put, List.getElem_toArray, List.getElem_cons_zero, List.getElem_cons_succ, List.setIfInBounds_toArray, List.set_cons_zero, List.set_cons_succ]
        refine wpAnyH_ready (rs := [3]) (by kernel_rfl) (by simp) ?_
        refine AllReadyH.cons rfl (fun K hK => ?_) AllReadyH.nil
        go_simp
        refine (HN2.out _).mono ?_
        rintro e wq11 ⟨rfl, hbc⟩
        have A_q11 := Lib.hid (A_q10.out.below hbc A_q10.out.2.2.2.2)
        have B_q11 := Lib.hid (B_q10.out.below hbc B_q10.out.2.2.2.2)
        have C_q11 := Lib.hid (C_q10.out.below hbc C_q10.out.2.2.2.2.2)
        have Z_q11 := Lib.hid (Z_q10.out.trans (hbc.mono Z_q10.out.size))
        dsimp only
        refine hK.out _ _ trivial (fun _ => ?_)
        clear hK K hbc
        try simp only [Act.put, List.getElem_toArray, List.getElem_cons_zero, List.getElem_cons_succ, List.setIfInBounds_toArray, List.set_cons_zero, List.set_cons_succ]
        refine wpAnyH_ready (rs := [4]) (by kernel_rfl) (by simp) ?_
        refine AllReadyH.cons rfl (fun K hK => ?_) AllReadyH.nil
        obtain ⟨z0, z1, z2, z3, _⟩ := A_q11.out
        have A_q12 := Lib.hid (A_q11.out.set2 (.bool N2.neg) (.string N2.mag))
        have B_q12 := Lib.hid (((B_q11.out).far ⟨gA, 0, none⟩ (.bool N2.neg) nab).far ⟨gA, 1, none⟩ (.string N2.mag) nab)
        have C_q12 := Lib.hid (((C_q11.out).far ⟨gA, 0, none⟩ (.bool N2.neg) nac).far ⟨gA, 1, none⟩ (.string N2.mag) nac)
        have Z_q12 := Lib.hid (((Z_q11.out).setCell (p := ⟨gA, 0, none⟩) lA (.bool N2.neg)).setCell (p := ⟨gA, 1, none⟩) lA (.string N2.mag))
        go_simp
        refine hK.out _ _ trivial (fun _ => ?_)
        clear hK K z0 z1 z2 z3
        try simp only [Act.put, List.getElem_toArray, List.getElem_cons_zero, List.getElem_cons_succ, List.setIfInBounds_toArray, List.set_cons_zero, List.set_cons_succ]
        refine wpAnyH_ready (rs := [5]) (by kernel_rfl) (by simp) ?_
        refine AllReadyH.cons rfl (fun K hK => ?_) AllReadyH.nil
        obtain ⟨z0, z1, z2, z3, _⟩ := B_q12.out
        have A_q13 := Lib.hid (((A_q12.out).far ⟨gB, 0, none⟩ (.bool D2.neg) nba).far ⟨gB, 1, none⟩ (.string D2.mag) nba)
        have B_q13 := Lib.hid (B_q12.out.set2 (.bool D2.neg) (.string D2.mag))
        have C_q13 := Lib.hid (((C_q12.out).far ⟨gB, 0, none⟩ (.bool D2.neg) nbc).far ⟨gB, 1, none⟩ (.string D2.mag) nbc)
        have Z_q13 := Lib.hid (((Z_q12.out).setCell (p := ⟨gB, 0, none⟩) lB (.bool D2.neg)).setCell (p := ⟨gB, 1, none⟩) lB (.string D2.mag))
        go_simp
        refine hK.out _ _ trivial (fun _ => ?_)
        clear hK K z0 z1 z2 z3
        refine wpAnyH_done (by kernel_rfl) ?_ _
        go_wp2_with fail
        go_meet
        exact ⟨A_q13, B_q13, C_q13, Z_q13⟩
    case rest =>
      obtain ⟨HA, HB, HC, HZ⟩ := hcut
      clear HN1 HN2 HS hc
      obtain ⟨a0, a1, a2, a3, _⟩ := HA.out
      obtain ⟨b0, b1, b2, b3, _⟩ := HB.out
      go_wp2_with fail
      refine (HGc.out _).mono ?_
      rintro e w3 ⟨rfl, hbc⟩
      dsimp only
      clear a0 a1 a2 a3 b0 b1 b2 b3
      have HA := Lib.hid (HA.out.below hbc HA.out.2.2.2.2)
      have HB := Lib.hid (HB.out.below hbc HB.out.2.2.2.2)
      have HC := Lib.hid (HC.out.below hbc HC.out.2.2.2.2.2)
      have HZ := Lib.hid (HZ.out.trans (hbc.mono HZ.out.size))
      clear hbc
      go_upto_region 4 with (fail)
      have hnew := BoxAt.new w3 (.bool GG.neg) (.string GG.mag) 48
      have hbc := (Below.refl w3.heap.size w3).alloc (Nat.le_refl _) (.cells #[.bool GG.neg, .string GG.mag] 48)
      obtain ⟨gG, hgG⟩ : ∃ k, w3.heap.size = k := ⟨_, rfl⟩
      have nGA : gG ≠ gA := by rw [← hgG]; have := HA.out.2.2.2.2; omega
      have mGA : gA ≠ gG := fun h => nGA h.symm
      have nGB : gG ≠ gB := by rw [← hgG]; have := HB.out.2.2.2.2; omega
      have mGB : gB ≠ gG := fun h => nGB h.symm
      have nGC : gG ≠ gC := by rw [← hgG]; have := HC.out.2.2.2.2.2; omega
      have mGC : gC ≠ gG := fun h => nGC h.symm
      have leG : w.heap.size ≤ gG := by rw [← hgG]; exact HZ.out.size
      have HA := Lib.hid (HA.out.below hbc HA.out.2.2.2.2)
      have HB := Lib.hid (HB.out.below hbc HB.out.2.2.2.2)
      have HC := Lib.hid (HC.out.below hbc HC.out.2.2.2.2.2)
      have HZ := Lib.hid (HZ.out.trans (hbc.mono HZ.out.size))
      rw [hgG] at hnew ⊢
      clear hgG hbc
      have HG := Lib.hid hnew
      clear hnew
      generalize w3.alloc (.cells #[.bool GG.neg, .string GG.mag] 48) = W4 at *
      obtain ⟨a0, a1, a2, a3, _⟩ := HA.out
      obtain ⟨g0, g1, g2, g3, _⟩ := HG.out
      go_wp2_with fail
      refine (HD1.out _).mono ?_
      rintro e w5 ⟨rfl, hbc⟩
      dsimp only
      clear a0 a1 a2 a3 g0 g1 g2 g3
      have HA := Lib.hid (HA.out.below hbc HA.out.2.2.2.2)
      have HB := Lib.hid (HB.out.below hbc HB.out.2.2.2.2)
      have HC := Lib.hid (HC.out.below hbc HC.out.2.2.2.2.2)
      have HG := Lib.hid (HG.out.below hbc HG.out.2.2.2.2)
      have HZ := Lib.hid (HZ.out.trans (hbc.mono HZ.out.size))
      clear hbc
      obtain ⟨a0, a1, a2, a3, _⟩ := HA.out
      go_upto_region 5 with (fail)
      clear a0 a1 a2 a3
      have HB := Lib.hid (((HB.out).far ⟨gA, 0, none⟩ (.bool Q1.neg) nab).far ⟨gA, 1, none⟩ (.string Q1.mag) nab)
      have HC := Lib.hid (((HC.out).far ⟨gA, 0, none⟩ (.bool Q1.neg) nac).far ⟨gA, 1, none⟩ (.string Q1.mag) nac)
      have HG := Lib.hid (((HG.out).far ⟨gA, 0, none⟩ (.bool Q1.neg) mGA).far ⟨gA, 1, none⟩ (.string Q1.mag) mGA)
      have HA := Lib.hid (HA.out.set2 (.bool Q1.neg) (.string Q1.mag))
      have HZ := Lib.hid (((HZ.out).setCell (p := ⟨gA, 0, none⟩) lA (.bool Q1.neg)).setCell (p := ⟨gA, 1, none⟩) lA (.string Q1.mag))
      generalize ((w5.setCell ⟨gA, 0, none⟩ (.bool Q1.neg)).setCell ⟨gA, 1, none⟩ (.string Q1.mag)) = U1 at *
      obtain ⟨b0, b1, b2, b3, _⟩ := HB.out
      obtain ⟨g0, g1, g2, g3, _⟩ := HG.out
      go_wp2_with fail
      refine (HD2.out _).mono ?_
      rintro e w6 ⟨rfl, hbc⟩
      dsimp only
      clear b0 b1 b2 b3 g0 g1 g2 g3
      have HA := Lib.hid (HA.out.below hbc HA.out.2.2.2.2)
      have HB := Lib.hid (HB.out.below hbc HB.out.2.2.2.2)
      have HC := Lib.hid (HC.out.below hbc HC.out.2.2.2.2.2)
      have HG := Lib.hid (HG.out.below hbc HG.out.2.2.2.2)
      have HZ := Lib.hid (HZ.out.trans (hbc.mono HZ.out.size))
      clear hbc
      obtain ⟨b0, b1, b2, b3, _⟩ := HB.out
      go_upto_region 6 with (fail)
      clear b0 b1 b2 b3
      have HA := Lib.hid (((HA.out).far ⟨gB, 0, none⟩ (.bool Q2.neg) nba).far ⟨gB, 1, none⟩ (.string Q2.mag) nba)
      have HC := Lib.hid (((HC.out).far ⟨gB, 0, none⟩ (.bool Q2.neg) nbc).far ⟨gB, 1, none⟩ (.string Q2.mag) nbc)
      have HG := Lib.hid (((HG.out).far ⟨gB, 0, none⟩ (.bool Q2.neg) mGB).far ⟨gB, 1, none⟩ (.string Q2.mag) mGB)
      have HB := Lib.hid (HB.out.set2 (.bool Q2.neg) (.string Q2.mag))
      have HZ := Lib.hid (((HZ.out).setCell (p := ⟨gB, 0, none⟩) lB (.bool Q2.neg)).setCell (p := ⟨gB, 1, none⟩) lB (.string Q2.mag))
      generalize ((w6.setCell ⟨gB, 0, none⟩ (.bool Q2.neg)).setCell ⟨gB, 1, none⟩ (.string Q2.mag)) = U2 at *
      obtain ⟨a0, a1, a2, a3, _⟩ := HA.out
      obtain ⟨b0, b1, b2, b3, _⟩ := HB.out
      obtain ⟨c0, c1, c2, c3, cf, _⟩ := HC.out
      have cf0 := cf 0
      have cf1 := cf 1
      have cf2 := cf 2
      have cf3 := cf 3
      go_wp2_with fail
      refine bodyPost_ret (v := .agg #[.bool Q1.neg, .string Q1.mag, .bool Q2.neg, .string Q2.mag]) ?_ rfl ⟨rfl, ((((HZ.out.setCell (p := ⟨gC, 0, none⟩) lC _).setCell (p := ⟨gC, 1, none⟩) lC _).setCell (p := ⟨gC, 2, none⟩) lC _).setCell (p := ⟨gC, 3, none⟩) lC _)⟩
      simp [results, Try.results101, go_sem, c0, c1, c2, c3]
  · have hc : ¬ cmpI d 0 < 0 := by unfold cmpI; rw [if_neg hneg]; split <;> decide
    rw [if_neg hneg] at hq1 hq2
    have hgc := fun W => refGcdZ_any zn zd hn hd G (by rw [absZ_vz, absZ_vz, hvn, hvd]; exact hG) W
    have hd1 := fun W => refDivX_any zn (canon (G : Int)) hn hGs n (G : Int) hvn (valZ_canon _) hG0 hdv.1 W
    have hd2 := fun W => refDivX_any zd (canon (G : Int)) hd hGs d (G : Int) hvd (valZ_canon _) hG0 hdv.2 W
    rw [hq1] at hd1
    rw [hq2] at hd2
    have HS := Lib.hid hS
    have HGc := Lib.hid hgc
    have HD1 := Lib.hid hd1
    have HD2 := Lib.hid hd2
    generalize canon (rloN n d) = Q1 at *
    generalize canon (rloD n d) = Q2 at *
    generalize canon (G : Int) = GG at *
    generalize cmpI d 0 = cc at *
    generalize canon 0 = K0 at *
    clear hS hgc hd1 hd2 hnn hnd hq1 hq2 hdv hGs hG0 hsn hsd hn hd hvn hvd hd0 hneg hG
    go_enter Try.func101, Try.ntmps101
    go_upto_region 1 with (fail)
    obtain ⟨W0, hW, hA, hB, hC, hb⟩ := boxes224 w (.bool zn.neg) (.string zn.mag) (.bool zd.neg) (.string zd.mag) 48 50
    rw [hW]
    obtain ⟨gA, hgA⟩ : ∃ g, w.heap.size = g := ⟨_, rfl⟩
    obtain ⟨gB, hgB⟩ : ∃ g, w.heap.size + 1 = g := ⟨_, rfl⟩
    obtain ⟨gC, hgC⟩ : ∃ g, w.heap.size + 1 + 1 = g := ⟨_, rfl⟩
    have lA : w.heap.size ≤ gA := by omega
    have lB : w.heap.size ≤ gB := by omega
    have lC : w.heap.size ≤ gC := by omega
    have nab : gA ≠ gB := by omega
    have nba : gB ≠ gA := by omega
    have nac : gA ≠ gC := by omega
    have nca : gC ≠ gA := by omega
    have nbc : gB ≠ gC := by omega
    have ncb : gC ≠ gB := by omega
    rw [hgA] at hA
    rw [hgB] at hB
    rw [hgC] at hC ⊢
    rw [hgB, hgA]
    have HA := Lib.hid hA
    have HB := Lib.hid hB
    have HC := Lib.hid hC
    have HZ := Lib.hid hb
    clear hA hB hC hb hW hgA hgB hgC
    obtain ⟨b0, b1, b2, b3, _⟩ := HB.out
    go_wp2_with fail
    refine (HS.out _).mono ?_
    rintro e w1 ⟨rfl, hbc⟩
    dsimp only
    clear b0 b1 b2 b3
    have HA := Lib.hid (HA.out.below hbc HA.out.2.2.2.2)
    have HB := Lib.hid (HB.out.below hbc HB.out.2.2.2.2)
    have HC := Lib.hid (HC.out.below hbc HC.out.2.2.2.2.2)
    have HZ := Lib.hid (HZ.out.trans (hbc.mono HZ.out.size))
    clear hbc
    clear HS
    obtain ⟨a0, a1, a2, a3, _⟩ := HA.out
    obtain ⟨b0, b1, b2, b3, _⟩ := HB.out
    go_wp2_with fail
    refine (HGc.out _).mono ?_
    rintro e w3 ⟨rfl, hbc⟩
    dsimp only
    clear a0 a1 a2 a3 b0 b1 b2 b3
    have HA := Lib.hid (HA.out.below hbc HA.out.2.2.2.2)
    have HB := Lib.hid (HB.out.below hbc HB.out.2.2.2.2)
    have HC := Lib.hid (HC.out.below hbc HC.out.2.2.2.2.2)
    have HZ := Lib.hid (HZ.out.trans (hbc.mono HZ.out.size))
    clear hbc
    go_upto_region 4 with (fail)
    have hnew := BoxAt.new w3 (.bool GG.neg) (.string GG.mag) 48
    have hbc := (Below.refl w3.heap.size w3).alloc (Nat.le_refl _) (.cells #[.bool GG.neg, .string GG.mag] 48)
    obtain ⟨gG, hgG⟩ : ∃ k, w3.heap.size = k := ⟨_, rfl⟩
    have nGA : gG ≠ gA := by rw [← hgG]; have := HA.out.2.2.2.2; omega
    have mGA : gA ≠ gG := fun h => nGA h.symm
    have nGB : gG ≠ gB := by rw [← hgG]; have := HB.out.2.2.2.2; omega
    have mGB : gB ≠ gG := fun h => nGB h.symm
    have nGC : gG ≠ gC := by rw [← hgG]; have := HC.out.2.2.2.2.2; omega
    have mGC : gC ≠ gG := fun h => nGC h.symm
    have leG : w.heap.size ≤ gG := by rw [← hgG]; exact HZ.out.size
    have HA := Lib.hid (HA.out.below hbc HA.out.2.2.2.2)
    have HB := Lib.hid (HB.out.below hbc HB.out.2.2.2.2)
    have HC := Lib.hid (HC.out.below hbc HC.out.2.2.2.2.2)
    have HZ := Lib.hid (HZ.out.trans (hbc.mono HZ.out.size))
    rw [hgG] at hnew ⊢
    clear hgG hbc
    have HG := Lib.hid hnew
    clear hnew
    generalize w3.alloc (.cells #[.bool GG.neg, .string GG.mag] 48) = W4 at *
    obtain ⟨a0, a1, a2, a3, _⟩ := HA.out
    obtain ⟨g0, g1, g2, g3, _⟩ := HG.out
    go_wp2_with fail
    refine (HD1.out _).mono ?_
    rintro e w5 ⟨rfl, hbc⟩
    dsimp only
    clear a0 a1 a2 a3 g0 g1 g2 g3
    have HA := Lib.hid (HA.out.below hbc HA.out.2.2.2.2)
    have HB := Lib.hid (HB.out.below hbc HB.out.2.2.2.2)
    have HC := Lib.hid (HC.out.below hbc HC.out.2.2.2.2.2)
    have HG := Lib.hid (HG.out.below hbc HG.out.2.2.2.2)
    have HZ := Lib.hid (HZ.out.trans (hbc.mono HZ.out.size))
    clear hbc
    obtain ⟨a0, a1, a2, a3, _⟩ := HA.out
    go_upto_region 5 with (fail)
    clear a0 a1 a2 a3
    have HB := Lib.hid (((HB.out).far ⟨gA, 0, none⟩ (.bool Q1.neg) nab).far ⟨gA, 1, none⟩ (.string Q1.mag) nab)
    have HC := Lib.hid (((HC.out).far ⟨gA, 0, none⟩ (.bool Q1.neg) nac).far ⟨gA, 1, none⟩ (.string Q1.mag) nac)
    have HG := Lib.hid (((HG.out).far ⟨gA, 0, none⟩ (.bool Q1.neg) mGA).far ⟨gA, 1, none⟩ (.string Q1.mag) mGA)
    have HA := Lib.hid (HA.out.set2 (.bool Q1.neg) (.string Q1.mag))
    have HZ := Lib.hid (((HZ.out).setCell (p := ⟨gA, 0, none⟩) lA (.bool Q1.neg)).setCell (p := ⟨gA, 1, none⟩) lA (.string Q1.mag))
    generalize ((w5.setCell ⟨gA, 0, none⟩ (.bool Q1.neg)).setCell ⟨gA, 1, none⟩ (.string Q1.mag)) = U1 at *
    obtain ⟨b0, b1, b2, b3, _⟩ := HB.out
    obtain ⟨g0, g1, g2, g3, _⟩ := HG.out
    go_wp2_with fail
    refine (HD2.out _).mono ?_
    rintro e w6 ⟨rfl, hbc⟩
    dsimp only
    clear b0 b1 b2 b3 g0 g1 g2 g3
    have HA := Lib.hid (HA.out.below hbc HA.out.2.2.2.2)
    have HB := Lib.hid (HB.out.below hbc HB.out.2.2.2.2)
    have HC := Lib.hid (HC.out.below hbc HC.out.2.2.2.2.2)
    have HG := Lib.hid (HG.out.below hbc HG.out.2.2.2.2)
    have HZ := Lib.hid (HZ.out.trans (hbc.mono HZ.out.size))
    clear hbc
    obtain ⟨b0, b1, b2, b3, _⟩ := HB.out
    go_upto_region 6 with (fail)
    clear b0 b1 b2 b3
    have HA := Lib.hid (((HA.out).far ⟨gB, 0, none⟩ (.bool Q2.neg) nba).far ⟨gB, 1, none⟩ (.string Q2.mag) nba)
    have HC := Lib.hid (((HC.out).far ⟨gB, 0, none⟩ (.bool Q2.neg) nbc).far ⟨gB, 1, none⟩ (.string Q2.mag) nbc)
    have HG := Lib.hid (((HG.out).far ⟨gB, 0, none⟩ (.bool Q2.neg) mGB).far ⟨gB, 1, none⟩ (.string Q2.mag) mGB)
    have HB := Lib.hid (HB.out.set2 (.bool Q2.neg) (.string Q2.mag))
    have HZ := Lib.hid (((HZ.out).setCell (p := ⟨gB, 0, none⟩) lB (.bool Q2.neg)).setCell (p := ⟨gB, 1, none⟩) lB (.string Q2.mag))
    generalize ((w6.setCell ⟨gB, 0, none⟩ (.bool Q2.neg)).setCell ⟨gB, 1, none⟩ (.string Q2.mag)) = U2 at *
    obtain ⟨a0, a1, a2, a3, _⟩ := HA.out
    obtain ⟨b0, b1, b2, b3, _⟩ := HB.out
    obtain ⟨c0, c1, c2, c3, cf, _⟩ := HC.out
    have cf0 := cf 0
    have cf1 := cf 1
    have cf2 := cf 2
    have cf3 := cf 3
    go_wp2_with fail
    refine bodyPost_ret (v := .agg #[.bool Q1.neg, .string Q1.mag, .bool Q2.neg, .string Q2.mag]) ?_ rfl ⟨rfl, ((((HZ.out.setCell (p := ⟨gC, 0, none⟩) lC _).setCell (p := ⟨gC, 1, none⟩) lC _).setCell (p := ⟨gC, 2, none⟩) lC _).setCell (p := ⟨gC, 3, none⟩) lC _)⟩
    simp [results, Try.results101, go_sem, c0, c1, c2, c3]
end Go.Proofs.Ytcafeffgaokiaaa
