/- grooveref02: lowest, Canonical, Of, Add, Mul at any size: the walks. -/
import Derived.Test.YtmbamcpndbimaaaGreatDoorJ34
import Derived.Test.YtmbamcpndbimaaaGreatDoorJ29
import Derived.Test.YtmbamcpndbimaaaGreatDoorJ40
import Derived.Test.YtmbamcpndbimaaaGreatDoorJ42
namespace Go.Proofs.YtmbamcpndbimaaaGreatDoor
open List renaming getElem_toArray → ny1, getElem_cons_zero → ny2, getElem_cons_succ → ny3, setIfInBounds_toArray → ny4, set_cons_zero → ny5, set_cons_succ → ny6
open Go.RowKit Go.Shelf
theorem absZ_vz (z : ZI) : absZ z = (valZ z).natAbs := by unfold valZ; split <;> omega
theorem rlo_val (n d : Int) (hd : d ≠ 0) : (if d < 0 then -n else n) / ((Nat.gcd n.natAbs d.natAbs : Nat) : Int) = rloN n d ∧ (if d < 0 then -d else d) / ((Nat.gcd n.natAbs d.natAbs : Nat) : Int) = rloD n d := by
 by_cases h : n = 0
 ·subst h
  have e0 : rloN 0 d = 0 := by unfold rloN; exact if_pos (.inr rfl)
  have e1 : rloD 0 d = 1 := by unfold rloD; exact if_pos (.inr rfl)
  have e2 : Nat.gcd (0 : Int).natAbs d.natAbs = d.natAbs := Nat.gcd_zero_left _
  have e3 : (if d < 0 then -d else d) = ((d.natAbs : Nat) : Int) := by split <;> omega
  have e4 : (if d < 0 then -(0 : Int) else 0) = 0 := by split <;> rfl
  rw [e0, e1, e2, e3, e4, Int.zero_ediv]
  exact ⟨rfl, Int.ediv_self (by omega)⟩
 ·have e0 : rloN n d = (if d < 0 then -n else n) / ((Nat.gcd n.natAbs d.natAbs : Nat) : Int) := by unfold rloN; exact if_neg (by omega)
  have e1 : rloD n d = (if d < 0 then -d else d) / ((Nat.gcd n.natAbs d.natAbs : Nat) : Int) := by unfold rloD; exact if_neg (by omega)
  exact ⟨e0.symm, e1.symm⟩
theorem canon_neg_mag (n : Int) : (canon (-n)).mag = (canon n).mag := by
 unfold canon
 rw [Int.natAbs_neg]
theorem boxes224 (w : World) (a b a' b' : Value) (t u : TypeId) : ∃ W, (((w.alloc (.cells #[a, b] t)).alloc (.cells #[a', b'] t)).alloc (.cells #[.bool false, .string ⟨#[]⟩, .bool false, .string ⟨#[]⟩] u)) = W ∧ BoxAt W w.heap.size a b ∧ BoxAt W (w.heap.size + 1) a' b' ∧ Box4 W (w.heap.size + 1 + 1) (.bool false) (.string ⟨#[]⟩) (.bool false) (.string ⟨#[]⟩) ∧ Below w.heap.size w W := by
 obtain ⟨W, hW, hA, hB, hb, hs⟩ := two_boxes w a b a' b' t
 rw [hW]
 have hC := Box4.new W (.bool false) (.string ⟨#[]⟩) (.bool false) (.string ⟨#[]⟩) u
 rw [hs] at hC
 exact ⟨_, rfl, hA.alloc _, hB.alloc _, hC, hb.alloc hb.size _⟩
theorem boxes24 (w : World) (a b : Value) (t u : TypeId) : ∃ W, ((w.alloc (.cells #[a, b] t)).alloc (.cells #[.bool false, .string ⟨#[]⟩, .bool false, .string ⟨#[]⟩] u)) = W ∧ BoxAt W w.heap.size a b ∧ Box4 W (w.heap.size + 1) (.bool false) (.string ⟨#[]⟩) (.bool false) (.string ⟨#[]⟩) ∧ Below w.heap.size w W := by
 have hA := BoxAt.new w a b t
 have hb := (Below.refl w.heap.size w).alloc (Nat.le_refl _) (.cells #[a, b] t)
 have hC := Box4.new (w.alloc (.cells #[a, b] t)) (.bool false) (.string ⟨#[]⟩) (.bool false) (.string ⟨#[]⟩) u
 rw [World.size_alloc] at hC
 exact ⟨_, rfl, hA.alloc _, hC, hb.alloc hb.size _⟩
set_option maxRecDepth 100000 in
set_option maxHeartbeats 8000000 in
theorem one2_any (w : World) : Calls Tryz.prog 52 #[] w (RetZ (canon 1) w) := by
 have HOf := lhd (fun W => refOfAll_any 1 (by decide) W)
 rw [show ((1 : Nat) : Int) = 1 from rfl] at HOf
 generalize canon 1 = K at *
 go_enter Tryz.func52, Tryz.ntmps52
 go_upto_region 1 with (fail)
 have hA := BoxAt.new w (.bool false) (.string ⟨#[]⟩) 24
 have hb := (Below.refl w.heap.size w).alloc (Nat.le_refl _) (.cells #[.bool false, .string ⟨#[]⟩] 24)
 obtain ⟨gA, hg⟩ : ∃ g, w.heap.size = g := ⟨_, rfl⟩
 have lA : w.heap.size ≤ gA := by omega
 rw [hg] at hA ⊢
 have HA := lhd hA
 have HZ := lhd hb
 clear hA hb hg
 generalize w.alloc (.cells #[.bool false, .string ⟨#[]⟩] 24) = V at *
 go_wp2_with fail
 refine (HOf.out _).mono ?_
 rintro e w2 ⟨rfl, hbc⟩
 dsimp only
 have HA := lhd (HA.out.below hbc HA.out.2.2.2.2)
 have HZ := lhd (HZ.out.trans (hbc.mono HZ.out.size))
 clear hbc
 obtain ⟨a0, a1, a2, a3, _⟩ := HA.out
 go_wp2_with fail
 refine bodyPost_ret (v := .agg #[.bool K.neg, .string K.mag]) ?_ rfl ⟨rfl, ((HZ.out.setCell (p := ⟨gA, 0, none⟩) lA _).setCell (p := ⟨gA, 1, none⟩) lA _)⟩
 simp [results, Tryz.results52, go_sem, a0, a1]
set_option maxRecDepth 100000 in
set_option maxHeartbeats 8000000 in
theorem sign2_any (z : ZI) (hz : z.mag.size ≤ 100000000) (w : World) :
  Calls Tryz.prog 80 #[.agg #[.bool z.neg, .string z.mag]] w fun e w' => e = .returned (.int .i64 (cmpI (valZ z) 0)) ∧ Below w.heap.size w w' := by
 have HC := lhd (fun W => refCmpZ_any z ⟨false, ⟨#[]⟩⟩ hz (by decide) (valZ z) 0 rfl rfl W)
 generalize cmpI (valZ z) 0 = c at *
 clear hz
 go_enter Tryz.func80, Tryz.ntmps80
 go_wp2_with fail
 refine (HC.out _).mono ?_
 rintro e w2 ⟨rfl, hb⟩
 dsimp only
 have Hb := lhd (((Below.refl _ w).alloc (Nat.le_refl _) _).trans (hb.mono (by simp)))
 clear hb
 go_wp2
 go_ret
 exact ⟨rfl, Hb.out⟩
set_option maxRecDepth 100000 in
set_option maxHeartbeats 8000000 in
theorem refLowest_any (zn zd : ZI) (hn : zn.mag.size ≤ 90000000) (hd : zd.mag.size ≤ 90000000) (n d : Int) (hvn : valZ zn = n) (hvd : valZ zd = d) (hd0 : d ≠ 0) (w : World) :
  Calls Tryz.prog 50 #[.agg #[.bool zn.neg, .string zn.mag], .agg #[.bool zd.neg, .string zd.mag]] w (RetR (rloN n d) (rloD n d) w) := by
 have hS := fun W => sign2_any zd (by omega) W
 rw [hvd] at hS
 obtain ⟨hq1, hq2⟩ := rlo_val n d hd0
 have hdv := gcd_nat_dvd n d
 have hGs : (canon ((Nat.gcd n.natAbs d.natAbs : Nat) : Int)).mag.size ≤ 90000000 := by
  rw [Nat.gcd_comm]
  exact canon_gcd_size (z := zd) (by rw [absZ_vz, hvd]) (by omega) hd
 have hG0 : ((Nat.gcd n.natAbs d.natAbs : Nat) : Int) ≠ 0 := by
  intro h
  have := Nat.gcd_eq_zero_iff.1 (Int.natCast_eq_zero.1 h)
  omega
 have hnn := refNeg_any zn (by omega)
 have hnd := refNeg_any zd (by omega)
 rw [hvn] at hnn
 rw [hvd] at hnd
 have hsn : (canon (-n)).mag.size ≤ 90000000 := by
  rw [canon_neg_mag, ← hvn]; exact Nat.le_trans (canon_size_le zn) hn
 have hsd : (canon (-d)).mag.size ≤ 90000000 := by
  rw [canon_neg_mag, ← hvd]; exact Nat.le_trans (canon_size_le zd) hd
 obtain ⟨G, hG⟩ : ∃ G, Nat.gcd n.natAbs d.natAbs = G := ⟨_, rfl⟩
 rw [hG] at hq1 hq2 hdv hGs hG0
 show Calls Tryz.prog 50 #[.agg #[.bool zn.neg, .string zn.mag], .agg #[.bool zd.neg, .string zd.mag]] w (fun e w' => e = .returned (ratV (rloN n d) (rloD n d)) ∧ Below w.heap.size w w')
 unfold ratV
 by_cases hneg : d < 0
 ·have hc : cmpI d 0 < 0 := by unfold cmpI; rw [if_pos hneg]; decide
  rw [if_pos hneg] at hq1 hq2
  have hgc := fun W => refGcdZ_any (canon (-n)) (canon (-d)) hsn hsd G (by rw [absZ_canon, absZ_canon, Int.natAbs_neg, Int.natAbs_neg]; exact hG) W
  have hd1 := fun W => refDivX_any (canon (-n)) (canon (G : Int)) hsn hGs (-n) (G : Int) (valZ_canon _) (valZ_canon _) hG0 (Int.dvd_neg.2 hdv.1) W
  have hd2 := fun W => refDivX_any (canon (-d)) (canon (G : Int)) hsd hGs (-d) (G : Int) (valZ_canon _) (valZ_canon _) hG0 (Int.dvd_neg.2 hdv.2) W
  rw [hq1] at hd1
  rw [hq2] at hd2
  have HS := lhd hS
  have HGc := lhd hgc
  have HD1 := lhd hd1
  have HD2 := lhd hd2
  have HN1 := lhd hnn
  have HN2 := lhd hnd
  generalize canon (rloN n d) = Q1 at *
  generalize canon (rloD n d) = Q2 at *
  generalize canon (G : Int) = GG at *
  generalize canon (-n) = N2 at *
  generalize canon (-d) = D2 at *
  generalize cmpI d 0 = cc at *
  generalize canon 0 = K0 at *
  clear hS hgc hd1 hd2 hnn hnd hq1 hq2 hdv hGs hG0 hsn hsd hn hd hvn hvd hd0 hneg hG
  go_enter Tryz.func50, Tryz.ntmps50
  go_upto_region 1 with (fail)
  obtain ⟨W0, hW, hA, hB, hC, hb⟩ := boxes224 w (.bool zn.neg) (.string zn.mag) (.bool zd.neg) (.string zd.mag) 24 26
  rw [hW]
  obtain ⟨gA, hgA⟩ : ∃ g, w.heap.size = g := ⟨_, rfl⟩
  obtain ⟨gB, hgB⟩ : ∃ g, w.heap.size + 1 = g := ⟨_, rfl⟩
  obtain ⟨gC, hgC⟩ : ∃ g, w.heap.size + 1 + 1 = g := ⟨_, rfl⟩
  have lA : w.heap.size ≤ gA := by omega
  have lB : w.heap.size ≤ gB := by omega
  have lC : w.heap.size ≤ gC := by omega
  have nab : gA ≠ gB := by omega
  have nba : gB ≠ gA := by omega
  have nac : gA ≠ gC := by omega
  have nca : gC ≠ gA := by omega
  have nbc : gB ≠ gC := by omega
  have ncb : gC ≠ gB := by omega
  rw [hgA] at hA
  rw [hgB] at hB
  rw [hgC] at hC ⊢
  rw [hgB, hgA]
  have HA := lhd hA
  have HB := lhd hB
  have HC := lhd hC
  have HZ := lhd hb
  clear hA hB hC hb hW hgA hgB hgC
  obtain ⟨b0, b1, b2, b3, _⟩ := HB.out
  go_wp2_with fail
  refine (HS.out _).mono ?_
  rintro e w1 ⟨rfl, hbc⟩
  dsimp only
  clear b0 b1 b2 b3
  have HA := lhd (HA.out.below hbc HA.out.2.2.2.2)
  have HB := lhd (HB.out.below hbc HB.out.2.2.2.2)
  have HC := lhd (HC.out.below hbc HC.out.2.2.2.2.2)
  have HZ := lhd (HZ.out.trans (hbc.mono HZ.out.size))
  clear hbc
  go_upto_region 2 with (fail)
  go_cut [] (fun wx => Hid (BoxAt wx gA (.bool N2.neg) (.string N2.mag)) ∧ Hid (BoxAt wx gB (.bool D2.neg) (.string D2.mag)) ∧ Hid (Box4 wx gC (.bool false) (.string ⟨#[]⟩) (.bool false) (.string ⟨#[]⟩)) ∧ Hid (Below w.heap.size w wx))
  case first =>
   refine wp_region_held_drew (S := fun _ => True) (by kernel_rfl) trivial (fun _ => ?_)
   have A_q1 := lhd (BoxAt.drw HA.out)
   have B_q1 := lhd (BoxAt.drw HB.out)
   have C_q1 := lhd (Box4.drw HC.out)
   have Z_q1 := lhd (HZ.out.drew)
   try simp only [Act.put, ny1, ny2, ny3, ny4, ny5, ny6]
   refine wpAnyH_ready (rs := [0, 2]) (by kernel_rfl) (by simp) ?_
   refine AllReadyH.cons rfl (fun K hK => ?_) (AllReadyH.cons rfl (fun K hK => ?_) AllReadyH.nil)
   ·obtain ⟨z0, z1, _, _, _⟩ := A_q1.out
    go_simp
    refine hK.out _ _ trivial (fun _ => ?_)
    clear hK K z0 z1
    try simp only [Act.put, ny1, ny2, ny3, ny4, ny5, ny6]
    refine wpAnyH_ready (rs := [1, 2]) (by kernel_rfl) (by simp) ?_
    refine AllReadyH.cons rfl (fun K hK => ?_) (AllReadyH.cons rfl (fun K hK => ?_) AllReadyH.nil)
    ·go_simp
     refine (HN1.out _).mono ?_
     rintro e wq2 ⟨rfl, hbc⟩
     have A_q2 := lhd (A_q1.out.below hbc A_q1.out.2.2.2.2)
     have B_q2 := lhd (B_q1.out.below hbc B_q1.out.2.2.2.2)
     have C_q2 := lhd (C_q1.out.below hbc C_q1.out.2.2.2.2.2)
     have Z_q2 := lhd (Z_q1.out.trans (hbc.mono Z_q1.out.size))
     dsimp only
     refine hK.out _ _ trivial (fun _ => ?_)
     clear hK K hbc
     try simp only [Act.put, ny1, ny2, ny3, ny4, ny5, ny6]
     refine wpAnyH_ready (rs := [2]) (by kernel_rfl) (by simp) ?_
     refine AllReadyH.cons rfl (fun K hK => ?_) AllReadyH.nil
     obtain ⟨z0, z1, _, _, _⟩ := B_q2.out
     go_simp
     refine hK.out _ _ trivial (fun _ => ?_)
     clear hK K z0 z1
     try simp only [Act.put, ny1, ny2, ny3, ny4, ny5, ny6]
     refine wpAnyH_ready (rs := [3]) (by kernel_rfl) (by simp) ?_
     refine AllReadyH.cons rfl (fun K hK => ?_) AllReadyH.nil
     go_simp
     refine (HN2.out _).mono ?_
     rintro e wq3 ⟨rfl, hbc⟩
     have A_q3 := lhd (A_q2.out.below hbc A_q2.out.2.2.2.2)
     have B_q3 := lhd (B_q2.out.below hbc B_q2.out.2.2.2.2)
     have C_q3 := lhd (C_q2.out.below hbc C_q2.out.2.2.2.2.2)
     have Z_q3 := lhd (Z_q2.out.trans (hbc.mono Z_q2.out.size))
     dsimp only
     refine hK.out _ _ trivial (fun _ => ?_)
     clear hK K hbc
     try simp only [Act.put, ny1, ny2, ny3, ny4, ny5, ny6]
     refine wpAnyH_ready (rs := [4]) (by kernel_rfl) (by simp) ?_
     refine AllReadyH.cons rfl (fun K hK => ?_) AllReadyH.nil
     obtain ⟨z0, z1, z2, z3, _⟩ := A_q3.out
     have A_q4 := lhd (A_q3.out.set2 (.bool N2.neg) (.string N2.mag))
     have B_q4 := lhd (((B_q3.out).far ⟨gA, 0, none⟩ (.bool N2.neg) nab).far ⟨gA, 1, none⟩ (.string N2.mag) nab)
     have C_q4 := lhd (((C_q3.out).far ⟨gA, 0, none⟩ (.bool N2.neg) nac).far ⟨gA, 1, none⟩ (.string N2.mag) nac)
     have Z_q4 := lhd (((Z_q3.out).setCell (p := ⟨gA, 0, none⟩) lA (.bool N2.neg)).setCell (p := ⟨gA, 1, none⟩) lA (.string N2.mag))
     go_simp
     refine hK.out _ _ trivial (fun _ => ?_)
     clear hK K z0 z1 z2 z3
     try simp only [Act.put, ny1, ny2, ny3, ny4, ny5, ny6]
     refine wpAnyH_ready (rs := [5]) (by kernel_rfl) (by simp) ?_
     refine AllReadyH.cons rfl (fun K hK => ?_) AllReadyH.nil
     obtain ⟨z0, z1, z2, z3, _⟩ := B_q4.out
     have A_q5 := lhd (((A_q4.out).far ⟨gB, 0, none⟩ (.bool D2.neg) nba).far ⟨gB, 1, none⟩ (.string D2.mag) nba)
     have B_q5 := lhd (B_q4.out.set2 (.bool D2.neg) (.string D2.mag))
     have C_q5 := lhd (((C_q4.out).far ⟨gB, 0, none⟩ (.bool D2.neg) nbc).far ⟨gB, 1, none⟩ (.string D2.mag) nbc)
     have Z_q5 := lhd (((Z_q4.out).setCell (p := ⟨gB, 0, none⟩) lB (.bool D2.neg)).setCell (p := ⟨gB, 1, none⟩) lB (.string D2.mag))
     go_simp
     refine hK.out _ _ trivial (fun _ => ?_)
     clear hK K z0 z1 z2 z3
     refine wpAnyH_done (by kernel_rfl) ?_ _
     go_wp2_with fail
     go_meet
     exact ⟨A_q5, B_q5, C_q5, Z_q5⟩
    ·obtain ⟨z0, z1, _, _, _⟩ := B_q1.out
     go_simp
     refine hK.out _ _ trivial (fun _ => ?_)
     clear hK K z0 z1
     try simp only [Act.put, ny1, ny2, ny3, ny4, ny5, ny6]
     refine wpAnyH_ready (rs := [1]) (by kernel_rfl) (by simp) ?_
     refine AllReadyH.cons rfl (fun K hK => ?_) AllReadyH.nil
     go_simp
     refine (HN1.out _).mono ?_
     rintro e wq6 ⟨rfl, hbc⟩
     have A_q6 := lhd (A_q1.out.below hbc A_q1.out.2.2.2.2)
     have B_q6 := lhd (B_q1.out.below hbc B_q1.out.2.2.2.2)
     have C_q6 := lhd (C_q1.out.below hbc C_q1.out.2.2.2.2.2)
     have Z_q6 := lhd (Z_q1.out.trans (hbc.mono Z_q1.out.size))
     dsimp only
     refine hK.out _ _ trivial (fun _ => ?_)
     clear hK K hbc
     try simp only [Act.put, ny1, ny2, ny3, ny4, ny5, ny6]
     refine wpAnyH_ready (rs := [3]) (by kernel_rfl) (by simp) ?_
     refine AllReadyH.cons rfl (fun K hK => ?_) AllReadyH.nil
     go_simp
     refine (HN2.out _).mono ?_
     rintro e wq7 ⟨rfl, hbc⟩
     have A_q7 := lhd (A_q6.out.below hbc A_q6.out.2.2.2.2)
     have B_q7 := lhd (B_q6.out.below hbc B_q6.out.2.2.2.2)
     have C_q7 := lhd (C_q6.out.below hbc C_q6.out.2.2.2.2.2)
     have Z_q7 := lhd (Z_q6.out.trans (hbc.mono Z_q6.out.size))
     dsimp only
     refine hK.out _ _ trivial (fun _ => ?_)
     clear hK K hbc
     try simp only [Act.put, ny1, ny2, ny3, ny4, ny5, ny6]
     refine wpAnyH_ready (rs := [4]) (by kernel_rfl) (by simp) ?_
     refine AllReadyH.cons rfl (fun K hK => ?_) AllReadyH.nil
     obtain ⟨z0, z1, z2, z3, _⟩ := A_q7.out
     have A_q8 := lhd (A_q7.out.set2 (.bool N2.neg) (.string N2.mag))
     have B_q8 := lhd (((B_q7.out).far ⟨gA, 0, none⟩ (.bool N2.neg) nab).far ⟨gA, 1, none⟩ (.string N2.mag) nab)
     have C_q8 := lhd (((C_q7.out).far ⟨gA, 0, none⟩ (.bool N2.neg) nac).far ⟨gA, 1, none⟩ (.string N2.mag) nac)
     have Z_q8 := lhd (((Z_q7.out).setCell (p := ⟨gA, 0, none⟩) lA (.bool N2.neg)).setCell (p := ⟨gA, 1, none⟩) lA (.string N2.mag))
     go_simp
     refine hK.out _ _ trivial (fun _ => ?_)
     clear hK K z0 z1 z2 z3
     try simp only [Act.put, ny1, ny2, ny3, ny4, ny5, ny6]
     refine wpAnyH_ready (rs := [5]) (by kernel_rfl) (by simp) ?_
     refine AllReadyH.cons rfl (fun K hK => ?_) AllReadyH.nil
     obtain ⟨z0, z1, z2, z3, _⟩ := B_q8.out
     have A_q9 := lhd (((A_q8.out).far ⟨gB, 0, none⟩ (.bool D2.neg) nba).far ⟨gB, 1, none⟩ (.string D2.mag) nba)
     have B_q9 := lhd (B_q8.out.set2 (.bool D2.neg) (.string D2.mag))
     have C_q9 := lhd (((C_q8.out).far ⟨gB, 0, none⟩ (.bool D2.neg) nbc).far ⟨gB, 1, none⟩ (.string D2.mag) nbc)
     have Z_q9 := lhd (((Z_q8.out).setCell (p := ⟨gB, 0, none⟩) lB (.bool D2.neg)).setCell (p := ⟨gB, 1, none⟩) lB (.string D2.mag))
     go_simp
     refine hK.out _ _ trivial (fun _ => ?_)
     clear hK K z0 z1 z2 z3
     refine wpAnyH_done (by kernel_rfl) ?_ _
     go_wp2_with fail
     go_meet
     exact ⟨A_q9, B_q9, C_q9, Z_q9⟩
   ·obtain ⟨z0, z1, _, _, _⟩ := B_q1.out
    go_simp
    refine hK.out _ _ trivial (fun _ => ?_)
    clear hK K z0 z1
    try simp only [Act.put, ny1, ny2, ny3, ny4, ny5, ny6]
    refine wpAnyH_ready (rs := [0]) (by kernel_rfl) (by simp) ?_
    refine AllReadyH.cons rfl (fun K hK => ?_) AllReadyH.nil
    obtain ⟨z0, z1, _, _, _⟩ := A_q1.out
    go_simp
    refine hK.out _ _ trivial (fun _ => ?_)
    clear hK K z0 z1
    try simp only [Act.put, ny1, ny2, ny3, ny4, ny5, ny6]
    refine wpAnyH_ready (rs := [1]) (by kernel_rfl) (by simp) ?_
    refine AllReadyH.cons rfl (fun K hK => ?_) AllReadyH.nil
    go_simp
    refine (HN1.out _).mono ?_
    rintro e wq10 ⟨rfl, hbc⟩
    have A_q10 := lhd (A_q1.out.below hbc A_q1.out.2.2.2.2)
    have B_q10 := lhd (B_q1.out.below hbc B_q1.out.2.2.2.2)
    have C_q10 := lhd (C_q1.out.below hbc C_q1.out.2.2.2.2.2)
    have Z_q10 := lhd (Z_q1.out.trans (hbc.mono Z_q1.out.size))
    dsimp only
    refine hK.out _ _ trivial (fun _ => ?_)
    clear hK K hbc
    try simp only [Act.put, ny1, ny2, ny3, ny4, ny5, ny6]
    refine wpAnyH_ready (rs := [3]) (by kernel_rfl) (by simp) ?_
    refine AllReadyH.cons rfl (fun K hK => ?_) AllReadyH.nil
    go_simp
    refine (HN2.out _).mono ?_
    rintro e wq11 ⟨rfl, hbc⟩
    have A_q11 := lhd (A_q10.out.below hbc A_q10.out.2.2.2.2)
    have B_q11 := lhd (B_q10.out.below hbc B_q10.out.2.2.2.2)
    have C_q11 := lhd (C_q10.out.below hbc C_q10.out.2.2.2.2.2)
    have Z_q11 := lhd (Z_q10.out.trans (hbc.mono Z_q10.out.size))
    dsimp only
    refine hK.out _ _ trivial (fun _ => ?_)
    clear hK K hbc
    try simp only [Act.put, ny1, ny2, ny3, ny4, ny5, ny6]
    refine wpAnyH_ready (rs := [4]) (by kernel_rfl) (by simp) ?_
    refine AllReadyH.cons rfl (fun K hK => ?_) AllReadyH.nil
    obtain ⟨z0, z1, z2, z3, _⟩ := A_q11.out
    have A_q12 := lhd (A_q11.out.set2 (.bool N2.neg) (.string N2.mag))
    have B_q12 := lhd (((B_q11.out).far ⟨gA, 0, none⟩ (.bool N2.neg) nab).far ⟨gA, 1, none⟩ (.string N2.mag) nab)
    have C_q12 := lhd (((C_q11.out).far ⟨gA, 0, none⟩ (.bool N2.neg) nac).far ⟨gA, 1, none⟩ (.string N2.mag) nac)
    have Z_q12 := lhd (((Z_q11.out).setCell (p := ⟨gA, 0, none⟩) lA (.bool N2.neg)).setCell (p := ⟨gA, 1, none⟩) lA (.string N2.mag))
    go_simp
    refine hK.out _ _ trivial (fun _ => ?_)
    clear hK K z0 z1 z2 z3
    try simp only [Act.put, ny1, ny2, ny3, ny4, ny5, ny6]
    refine wpAnyH_ready (rs := [5]) (by kernel_rfl) (by simp) ?_
    refine AllReadyH.cons rfl (fun K hK => ?_) AllReadyH.nil
    obtain ⟨z0, z1, z2, z3, _⟩ := B_q12.out
    have A_q13 := lhd (((A_q12.out).far ⟨gB, 0, none⟩ (.bool D2.neg) nba).far ⟨gB, 1, none⟩ (.string D2.mag) nba)
    have B_q13 := lhd (B_q12.out.set2 (.bool D2.neg) (.string D2.mag))
    have C_q13 := lhd (((C_q12.out).far ⟨gB, 0, none⟩ (.bool D2.neg) nbc).far ⟨gB, 1, none⟩ (.string D2.mag) nbc)
    have Z_q13 := lhd (((Z_q12.out).setCell (p := ⟨gB, 0, none⟩) lB (.bool D2.neg)).setCell (p := ⟨gB, 1, none⟩) lB (.string D2.mag))
    go_simp
    refine hK.out _ _ trivial (fun _ => ?_)
    clear hK K z0 z1 z2 z3
    refine wpAnyH_done (by kernel_rfl) ?_ _
    go_wp2_with fail
    go_meet
    exact ⟨A_q13, B_q13, C_q13, Z_q13⟩
  case rest =>
   obtain ⟨HA, HB, HC, HZ⟩ := hcut
   clear HN1 HN2 HS hc
   obtain ⟨a0, a1, a2, a3, _⟩ := HA.out
   obtain ⟨b0, b1, b2, b3, _⟩ := HB.out
   go_wp2_with fail
   refine (HGc.out _).mono ?_
   rintro e w3 ⟨rfl, hbc⟩
   dsimp only
   clear a0 a1 a2 a3 b0 b1 b2 b3
   have HA := lhd (HA.out.below hbc HA.out.2.2.2.2)
   have HB := lhd (HB.out.below hbc HB.out.2.2.2.2)
   have HC := lhd (HC.out.below hbc HC.out.2.2.2.2.2)
   have HZ := lhd (HZ.out.trans (hbc.mono HZ.out.size))
   clear hbc
   go_upto_region 4 with (fail)
   have hnew := BoxAt.new w3 (.bool GG.neg) (.string GG.mag) 24
   have hbc := (Below.refl w3.heap.size w3).alloc (Nat.le_refl _) (.cells #[.bool GG.neg, .string GG.mag] 24)
   obtain ⟨gG, hgG⟩ : ∃ k, w3.heap.size = k := ⟨_, rfl⟩
   have nGA : gG ≠ gA := by rw [← hgG]; have := HA.out.2.2.2.2; omega
   have mGA : gA ≠ gG := fun h => nGA h.symm
   have nGB : gG ≠ gB := by rw [← hgG]; have := HB.out.2.2.2.2; omega
   have mGB : gB ≠ gG := fun h => nGB h.symm
   have nGC : gG ≠ gC := by rw [← hgG]; have := HC.out.2.2.2.2.2; omega
   have mGC : gC ≠ gG := fun h => nGC h.symm
   have leG : w.heap.size ≤ gG := by rw [← hgG]; exact HZ.out.size
   have HA := lhd (HA.out.below hbc HA.out.2.2.2.2)
   have HB := lhd (HB.out.below hbc HB.out.2.2.2.2)
   have HC := lhd (HC.out.below hbc HC.out.2.2.2.2.2)
   have HZ := lhd (HZ.out.trans (hbc.mono HZ.out.size))
   rw [hgG] at hnew ⊢
   clear hgG hbc
   have HG := lhd hnew
   clear hnew
   generalize w3.alloc (.cells #[.bool GG.neg, .string GG.mag] 24) = W4 at *
   obtain ⟨a0, a1, a2, a3, _⟩ := HA.out
   obtain ⟨g0, g1, g2, g3, _⟩ := HG.out
   go_wp2_with fail
   refine (HD1.out _).mono ?_
   rintro e w5 ⟨rfl, hbc⟩
   dsimp only
   clear a0 a1 a2 a3 g0 g1 g2 g3
   have HA := lhd (HA.out.below hbc HA.out.2.2.2.2)
   have HB := lhd (HB.out.below hbc HB.out.2.2.2.2)
   have HC := lhd (HC.out.below hbc HC.out.2.2.2.2.2)
   have HG := lhd (HG.out.below hbc HG.out.2.2.2.2)
   have HZ := lhd (HZ.out.trans (hbc.mono HZ.out.size))
   clear hbc
   obtain ⟨a0, a1, a2, a3, _⟩ := HA.out
   go_upto_region 5 with (fail)
   clear a0 a1 a2 a3
   have HB := lhd (((HB.out).far ⟨gA, 0, none⟩ (.bool Q1.neg) nab).far ⟨gA, 1, none⟩ (.string Q1.mag) nab)
   have HC := lhd (((HC.out).far ⟨gA, 0, none⟩ (.bool Q1.neg) nac).far ⟨gA, 1, none⟩ (.string Q1.mag) nac)
   have HG := lhd (((HG.out).far ⟨gA, 0, none⟩ (.bool Q1.neg) mGA).far ⟨gA, 1, none⟩ (.string Q1.mag) mGA)
   have HA := lhd (HA.out.set2 (.bool Q1.neg) (.string Q1.mag))
   have HZ := lhd (((HZ.out).setCell (p := ⟨gA, 0, none⟩) lA (.bool Q1.neg)).setCell (p := ⟨gA, 1, none⟩) lA (.string Q1.mag))
   generalize ((w5.setCell ⟨gA, 0, none⟩ (.bool Q1.neg)).setCell ⟨gA, 1, none⟩ (.string Q1.mag)) = U1 at *
   obtain ⟨b0, b1, b2, b3, _⟩ := HB.out
   obtain ⟨g0, g1, g2, g3, _⟩ := HG.out
   go_wp2_with fail
   refine (HD2.out _).mono ?_
   rintro e w6 ⟨rfl, hbc⟩
   dsimp only
   clear b0 b1 b2 b3 g0 g1 g2 g3
   have HA := lhd (HA.out.below hbc HA.out.2.2.2.2)
   have HB := lhd (HB.out.below hbc HB.out.2.2.2.2)
   have HC := lhd (HC.out.below hbc HC.out.2.2.2.2.2)
   have HG := lhd (HG.out.below hbc HG.out.2.2.2.2)
   have HZ := lhd (HZ.out.trans (hbc.mono HZ.out.size))
   clear hbc
   obtain ⟨b0, b1, b2, b3, _⟩ := HB.out
   go_upto_region 6 with (fail)
   clear b0 b1 b2 b3
   have HA := lhd (((HA.out).far ⟨gB, 0, none⟩ (.bool Q2.neg) nba).far ⟨gB, 1, none⟩ (.string Q2.mag) nba)
   have HC := lhd (((HC.out).far ⟨gB, 0, none⟩ (.bool Q2.neg) nbc).far ⟨gB, 1, none⟩ (.string Q2.mag) nbc)
   have HG := lhd (((HG.out).far ⟨gB, 0, none⟩ (.bool Q2.neg) mGB).far ⟨gB, 1, none⟩ (.string Q2.mag) mGB)
   have HB := lhd (HB.out.set2 (.bool Q2.neg) (.string Q2.mag))
   have HZ := lhd (((HZ.out).setCell (p := ⟨gB, 0, none⟩) lB (.bool Q2.neg)).setCell (p := ⟨gB, 1, none⟩) lB (.string Q2.mag))
   generalize ((w6.setCell ⟨gB, 0, none⟩ (.bool Q2.neg)).setCell ⟨gB, 1, none⟩ (.string Q2.mag)) = U2 at *
   obtain ⟨a0, a1, a2, a3, _⟩ := HA.out
   obtain ⟨b0, b1, b2, b3, _⟩ := HB.out
   obtain ⟨c0, c1, c2, c3, cf, _⟩ := HC.out
   have cf0 := cf 0
   have cf1 := cf 1
   have cf2 := cf 2
   have cf3 := cf 3
   go_wp2_with fail
   refine bodyPost_ret (v := .agg #[.bool Q1.neg, .string Q1.mag, .bool Q2.neg, .string Q2.mag]) ?_ rfl ⟨rfl, ((((HZ.out.setCell (p := ⟨gC, 0, none⟩) lC _).setCell (p := ⟨gC, 1, none⟩) lC _).setCell (p := ⟨gC, 2, none⟩) lC _).setCell (p := ⟨gC, 3, none⟩) lC _)⟩
   simp [results, Tryz.results50, go_sem, c0, c1, c2, c3]
 ·have hc : ¬ cmpI d 0 < 0 := by unfold cmpI; rw [if_neg hneg]; split <;> decide
  rw [if_neg hneg] at hq1 hq2
  have hgc := fun W => refGcdZ_any zn zd hn hd G (by rw [absZ_vz, absZ_vz, hvn, hvd]; exact hG) W
  have hd1 := fun W => refDivX_any zn (canon (G : Int)) hn hGs n (G : Int) hvn (valZ_canon _) hG0 hdv.1 W
  have hd2 := fun W => refDivX_any zd (canon (G : Int)) hd hGs d (G : Int) hvd (valZ_canon _) hG0 hdv.2 W
  rw [hq1] at hd1
  rw [hq2] at hd2
  have HS := lhd hS
  have HGc := lhd hgc
  have HD1 := lhd hd1
  have HD2 := lhd hd2
  generalize canon (rloN n d) = Q1 at *
  generalize canon (rloD n d) = Q2 at *
  generalize canon (G : Int) = GG at *
  generalize cmpI d 0 = cc at *
  generalize canon 0 = K0 at *
  clear hS hgc hd1 hd2 hnn hnd hq1 hq2 hdv hGs hG0 hsn hsd hn hd hvn hvd hd0 hneg hG
  go_enter Tryz.func50, Tryz.ntmps50
  go_upto_region 1 with (fail)
  obtain ⟨W0, hW, hA, hB, hC, hb⟩ := boxes224 w (.bool zn.neg) (.string zn.mag) (.bool zd.neg) (.string zd.mag) 24 26
  rw [hW]
  obtain ⟨gA, hgA⟩ : ∃ g, w.heap.size = g := ⟨_, rfl⟩
  obtain ⟨gB, hgB⟩ : ∃ g, w.heap.size + 1 = g := ⟨_, rfl⟩
  obtain ⟨gC, hgC⟩ : ∃ g, w.heap.size + 1 + 1 = g := ⟨_, rfl⟩
  have lA : w.heap.size ≤ gA := by omega
  have lB : w.heap.size ≤ gB := by omega
  have lC : w.heap.size ≤ gC := by omega
  have nab : gA ≠ gB := by omega
  have nba : gB ≠ gA := by omega
  have nac : gA ≠ gC := by omega
  have nca : gC ≠ gA := by omega
  have nbc : gB ≠ gC := by omega
  have ncb : gC ≠ gB := by omega
  rw [hgA] at hA
  rw [hgB] at hB
  rw [hgC] at hC ⊢
  rw [hgB, hgA]
  have HA := lhd hA
  have HB := lhd hB
  have HC := lhd hC
  have HZ := lhd hb
  clear hA hB hC hb hW hgA hgB hgC
  obtain ⟨b0, b1, b2, b3, _⟩ := HB.out
  go_wp2_with fail
  refine (HS.out _).mono ?_
  rintro e w1 ⟨rfl, hbc⟩
  dsimp only
  clear b0 b1 b2 b3
  have HA := lhd (HA.out.below hbc HA.out.2.2.2.2)
  have HB := lhd (HB.out.below hbc HB.out.2.2.2.2)
  have HC := lhd (HC.out.below hbc HC.out.2.2.2.2.2)
  have HZ := lhd (HZ.out.trans (hbc.mono HZ.out.size))
  clear hbc
  clear HS
  obtain ⟨a0, a1, a2, a3, _⟩ := HA.out
  obtain ⟨b0, b1, b2, b3, _⟩ := HB.out
  go_wp2_with fail
  refine (HGc.out _).mono ?_
  rintro e w3 ⟨rfl, hbc⟩
  dsimp only
  clear a0 a1 a2 a3 b0 b1 b2 b3
  have HA := lhd (HA.out.below hbc HA.out.2.2.2.2)
  have HB := lhd (HB.out.below hbc HB.out.2.2.2.2)
  have HC := lhd (HC.out.below hbc HC.out.2.2.2.2.2)
  have HZ := lhd (HZ.out.trans (hbc.mono HZ.out.size))
  clear hbc
  go_upto_region 4 with (fail)
  have hnew := BoxAt.new w3 (.bool GG.neg) (.string GG.mag) 24
  have hbc := (Below.refl w3.heap.size w3).alloc (Nat.le_refl _) (.cells #[.bool GG.neg, .string GG.mag] 24)
  obtain ⟨gG, hgG⟩ : ∃ k, w3.heap.size = k := ⟨_, rfl⟩
  have nGA : gG ≠ gA := by rw [← hgG]; have := HA.out.2.2.2.2; omega
  have mGA : gA ≠ gG := fun h => nGA h.symm
  have nGB : gG ≠ gB := by rw [← hgG]; have := HB.out.2.2.2.2; omega
  have mGB : gB ≠ gG := fun h => nGB h.symm
  have nGC : gG ≠ gC := by rw [← hgG]; have := HC.out.2.2.2.2.2; omega
  have mGC : gC ≠ gG := fun h => nGC h.symm
  have leG : w.heap.size ≤ gG := by rw [← hgG]; exact HZ.out.size
  have HA := lhd (HA.out.below hbc HA.out.2.2.2.2)
  have HB := lhd (HB.out.below hbc HB.out.2.2.2.2)
  have HC := lhd (HC.out.below hbc HC.out.2.2.2.2.2)
  have HZ := lhd (HZ.out.trans (hbc.mono HZ.out.size))
  rw [hgG] at hnew ⊢
  clear hgG hbc
  have HG := lhd hnew
  clear hnew
  generalize w3.alloc (.cells #[.bool GG.neg, .string GG.mag] 24) = W4 at *
  obtain ⟨a0, a1, a2, a3, _⟩ := HA.out
  obtain ⟨g0, g1, g2, g3, _⟩ := HG.out
  go_wp2_with fail
  refine (HD1.out _).mono ?_
  rintro e w5 ⟨rfl, hbc⟩
  dsimp only
  clear a0 a1 a2 a3 g0 g1 g2 g3
  have HA := lhd (HA.out.below hbc HA.out.2.2.2.2)
  have HB := lhd (HB.out.below hbc HB.out.2.2.2.2)
  have HC := lhd (HC.out.below hbc HC.out.2.2.2.2.2)
  have HG := lhd (HG.out.below hbc HG.out.2.2.2.2)
  have HZ := lhd (HZ.out.trans (hbc.mono HZ.out.size))
  clear hbc
  obtain ⟨a0, a1, a2, a3, _⟩ := HA.out
  go_upto_region 5 with (fail)
  clear a0 a1 a2 a3
  have HB := lhd (((HB.out).far ⟨gA, 0, none⟩ (.bool Q1.neg) nab).far ⟨gA, 1, none⟩ (.string Q1.mag) nab)
  have HC := lhd (((HC.out).far ⟨gA, 0, none⟩ (.bool Q1.neg) nac).far ⟨gA, 1, none⟩ (.string Q1.mag) nac)
  have HG := lhd (((HG.out).far ⟨gA, 0, none⟩ (.bool Q1.neg) mGA).far ⟨gA, 1, none⟩ (.string Q1.mag) mGA)
  have HA := lhd (HA.out.set2 (.bool Q1.neg) (.string Q1.mag))
  have HZ := lhd (((HZ.out).setCell (p := ⟨gA, 0, none⟩) lA (.bool Q1.neg)).setCell (p := ⟨gA, 1, none⟩) lA (.string Q1.mag))
  generalize ((w5.setCell ⟨gA, 0, none⟩ (.bool Q1.neg)).setCell ⟨gA, 1, none⟩ (.string Q1.mag)) = U1 at *
  obtain ⟨b0, b1, b2, b3, _⟩ := HB.out
  obtain ⟨g0, g1, g2, g3, _⟩ := HG.out
  go_wp2_with fail
  refine (HD2.out _).mono ?_
  rintro e w6 ⟨rfl, hbc⟩
  dsimp only
  clear b0 b1 b2 b3 g0 g1 g2 g3
  have HA := lhd (HA.out.below hbc HA.out.2.2.2.2)
  have HB := lhd (HB.out.below hbc HB.out.2.2.2.2)
  have HC := lhd (HC.out.below hbc HC.out.2.2.2.2.2)
  have HG := lhd (HG.out.below hbc HG.out.2.2.2.2)
  have HZ := lhd (HZ.out.trans (hbc.mono HZ.out.size))
  clear hbc
  obtain ⟨b0, b1, b2, b3, _⟩ := HB.out
  go_upto_region 6 with (fail)
  clear b0 b1 b2 b3
  have HA := lhd (((HA.out).far ⟨gB, 0, none⟩ (.bool Q2.neg) nba).far ⟨gB, 1, none⟩ (.string Q2.mag) nba)
  have HC := lhd (((HC.out).far ⟨gB, 0, none⟩ (.bool Q2.neg) nbc).far ⟨gB, 1, none⟩ (.string Q2.mag) nbc)
  have HG := lhd (((HG.out).far ⟨gB, 0, none⟩ (.bool Q2.neg) mGB).far ⟨gB, 1, none⟩ (.string Q2.mag) mGB)
  have HB := lhd (HB.out.set2 (.bool Q2.neg) (.string Q2.mag))
  have HZ := lhd (((HZ.out).setCell (p := ⟨gB, 0, none⟩) lB (.bool Q2.neg)).setCell (p := ⟨gB, 1, none⟩) lB (.string Q2.mag))
  generalize ((w6.setCell ⟨gB, 0, none⟩ (.bool Q2.neg)).setCell ⟨gB, 1, none⟩ (.string Q2.mag)) = U2 at *
  obtain ⟨a0, a1, a2, a3, _⟩ := HA.out
  obtain ⟨b0, b1, b2, b3, _⟩ := HB.out
  obtain ⟨c0, c1, c2, c3, cf, _⟩ := HC.out
  have cf0 := cf 0
  have cf1 := cf 1
  have cf2 := cf 2
  have cf3 := cf 3
  go_wp2_with fail
  refine bodyPost_ret (v := .agg #[.bool Q1.neg, .string Q1.mag, .bool Q2.neg, .string Q2.mag]) ?_ rfl ⟨rfl, ((((HZ.out.setCell (p := ⟨gC, 0, none⟩) lC _).setCell (p := ⟨gC, 1, none⟩) lC _).setCell (p := ⟨gC, 2, none⟩) lC _).setCell (p := ⟨gC, 3, none⟩) lC _)⟩
  simp [results, Tryz.results50, go_sem, c0, c1, c2, c3]
set_option maxRecDepth 100000 in
set_option maxHeartbeats 8000000 in
theorem refCanonR_any (za zb : ZI) (ha : za.mag.size ≤ 90000000) (hb : zb.mag.size ≤ 90000000) (a b : Int) (hva : valZ za = a) (hvb : valZ zb = b) (w : World) :
  Calls Tryz.prog 47 #[.agg #[.bool za.neg, .string za.mag, .bool zb.neg, .string zb.mag]] w (RetR (rloN a b) (rloD a b) w) := by
 have hS := fun W => sign2_any zb (by omega) W
 rw [hvb] at hS
 by_cases h0 : b = 0
 ·have hc : (cmpI b 0 == 0) = true := by rw [h0]; rfl
  have e1 : rloN a b = 0 := by unfold rloN; rw [if_pos (.inl h0)]
  have e2 : rloD a b = 1 := by unfold rloD; rw [if_pos (.inl h0)]
  rw [e1, e2]
  show Calls Tryz.prog 47 #[.agg #[.bool za.neg, .string za.mag, .bool zb.neg, .string zb.mag]] w (fun e w' => e = .returned (.agg #[.bool false, .string ⟨#[]⟩, .bool (canon 1).neg, .string (canon 1).mag]) ∧ Below w.heap.size w w')
  have HO := lhd one2_any
  have HS := lhd hS
  generalize canon 1 = K1 at *
  generalize cmpI b 0 = cc at *
  clear hS e1 e2 ha hb hva hvb h0
  go_enter Tryz.func47, Tryz.ntmps47
  go_upto_region 1 with (fail)
  obtain ⟨W0, hW, hA, hC, hb⟩ := two_box4 w (.bool za.neg) (.string za.mag) (.bool zb.neg) (.string zb.mag) 26 26
  rw [hW]
  obtain ⟨gA, hgA⟩ : ∃ g, w.heap.size = g := ⟨_, rfl⟩
  obtain ⟨gC, hgC⟩ : ∃ g, w.heap.size + 1 = g := ⟨_, rfl⟩
  have lA : w.heap.size ≤ gA := by omega
  have lC : w.heap.size ≤ gC := by omega
  rw [hgA] at hA
  rw [hgC] at hC ⊢
  rw [hgA]
  have HA := lhd hA
  have HC := lhd hC
  have HZ := lhd hb
  clear hA hC hb hW hgA hgC
  obtain ⟨a0, a1, a2, a3, af, _⟩ := HA.out
  have af0 := af 0
  have af1 := af 1
  have af2 := af 2
  have af3 := af 3
  go_wp2_with fail
  refine (HS.out _).mono ?_
  rintro e w1 ⟨rfl, hbc⟩
  dsimp only
  clear a0 a1 a2 a3 af af0 af1 af2 af3
  have HA := lhd (HA.out.below hbc HA.out.2.2.2.2.2)
  have HC := lhd (HC.out.below hbc HC.out.2.2.2.2.2)
  have HZ := lhd (HZ.out.trans (hbc.mono HZ.out.size))
  clear hbc
  obtain ⟨a0, a1, a2, a3, af, _⟩ := HA.out
  have af0 := af 0
  have af1 := af 1
  have af2 := af 2
  have af3 := af 3
  go_wp2_with fail
  refine (HO.out _).mono ?_
  rintro e w2 ⟨rfl, hbc⟩
  dsimp only
  clear a0 a1 a2 a3 af af0 af1 af2 af3
  have HA := lhd (HA.out.below hbc HA.out.2.2.2.2.2)
  have HC := lhd (HC.out.below hbc HC.out.2.2.2.2.2)
  have HZ := lhd (HZ.out.trans (hbc.mono HZ.out.size))
  clear hbc
  obtain ⟨c0, c1, c2, c3, cf, _⟩ := HC.out
  have cf0 := cf 0
  have cf1 := cf 1
  have cf2 := cf 2
  have cf3 := cf 3
  go_wp2_with fail
  refine bodyPost_ret (v := .agg #[.bool false, .string ⟨#[]⟩, .bool K1.neg, .string K1.mag]) ?_ rfl ⟨rfl, ((((HZ.out.setCell (p := ⟨gC, 0, none⟩) lC _).setCell (p := ⟨gC, 1, none⟩) lC _).setCell (p := ⟨gC, 2, none⟩) lC _).setCell (p := ⟨gC, 3, none⟩) lC _)⟩
  simp [results, Tryz.results47, go_sem, c0, c1, c2, c3]
 ·have hc : (cmpI b 0 == 0) = false := by
   rw [beq_eq_false_iff_ne]
   unfold cmpI
   split
   ·decide
   ·split
    ·decide
    ·omega
  have hl := fun W => refLowest_any za zb ha hb a b hva hvb h0 W
  show Calls Tryz.prog 47 #[.agg #[.bool za.neg, .string za.mag, .bool zb.neg, .string zb.mag]] w (fun e w' => e = .returned (ratV (rloN a b) (rloD a b)) ∧ Below w.heap.size w w')
  have hl2 : ∀ W, Calls Tryz.prog 50 #[.agg #[.bool za.neg, .string za.mag], .agg #[.bool zb.neg, .string zb.mag]] W (fun e w' => e = .returned (ratV (rloN a b) (rloD a b)) ∧ Below W.heap.size W w') := hl
  unfold ratV at *
  have HL := lhd hl2
  have HS := lhd hS
  generalize canon (rloN a b) = Q1 at *
  generalize canon (rloD a b) = Q2 at *
  generalize cmpI b 0 = cc at *
  clear hS hl hl2 ha hb hva hvb h0
  go_enter Tryz.func47, Tryz.ntmps47
  go_upto_region 1 with (fail)
  obtain ⟨W0, hW, hA, hC, hb⟩ := two_box4 w (.bool za.neg) (.string za.mag) (.bool zb.neg) (.string zb.mag) 26 26
  rw [hW]
  obtain ⟨gA, hgA⟩ : ∃ g, w.heap.size = g := ⟨_, rfl⟩
  obtain ⟨gC, hgC⟩ : ∃ g, w.heap.size + 1 = g := ⟨_, rfl⟩
  have lA : w.heap.size ≤ gA := by omega
  have lC : w.heap.size ≤ gC := by omega
  rw [hgA] at hA
  rw [hgC] at hC ⊢
  rw [hgA]
  have HA := lhd hA
  have HC := lhd hC
  have HZ := lhd hb
  clear hA hC hb hW hgA hgC
  obtain ⟨a0, a1, a2, a3, af, _⟩ := HA.out
  have af0 := af 0
  have af1 := af 1
  have af2 := af 2
  have af3 := af 3
  go_wp2_with fail
  refine (HS.out _).mono ?_
  rintro e w1 ⟨rfl, hbc⟩
  dsimp only
  clear a0 a1 a2 a3 af af0 af1 af2 af3
  have HA := lhd (HA.out.below hbc HA.out.2.2.2.2.2)
  have HC := lhd (HC.out.below hbc HC.out.2.2.2.2.2)
  have HZ := lhd (HZ.out.trans (hbc.mono HZ.out.size))
  clear hbc
  obtain ⟨a0, a1, a2, a3, af, _⟩ := HA.out
  have af0 := af 0
  have af1 := af 1
  have af2 := af 2
  have af3 := af 3
  go_wp2_with fail
  refine (HL.out _).mono ?_
  rintro e w2 ⟨rfl, hbc⟩
  dsimp only
  clear a0 a1 a2 a3 af af0 af1 af2 af3
  have HA := lhd (HA.out.below hbc HA.out.2.2.2.2.2)
  have HC := lhd (HC.out.below hbc HC.out.2.2.2.2.2)
  have HZ := lhd (HZ.out.trans (hbc.mono HZ.out.size))
  clear hbc
  obtain ⟨c0, c1, c2, c3, cf, _⟩ := HC.out
  have cf0 := cf 0
  have cf1 := cf 1
  have cf2 := cf 2
  have cf3 := cf 3
  go_wp2_with fail
  refine bodyPost_ret (v := .agg #[.bool Q1.neg, .string Q1.mag, .bool Q2.neg, .string Q2.mag]) ?_ rfl ⟨rfl, ((((HZ.out.setCell (p := ⟨gC, 0, none⟩) lC _).setCell (p := ⟨gC, 1, none⟩) lC _).setCell (p := ⟨gC, 2, none⟩) lC _).setCell (p := ⟨gC, 3, none⟩) lC _)⟩
  simp [results, Tryz.results47, go_sem, c0, c1, c2, c3]
set_option maxRecDepth 100000 in
set_option maxHeartbeats 8000000 in
theorem refOfR_any (za : ZI) (ha : za.mag.size ≤ 90000000) (a : Int) (hva : valZ za = a) (w : World) :
  Calls Tryz.prog 27 #[.agg #[.bool za.neg, .string za.mag]] w (RetR a 1 w) := by
 have hl := fun W => refLowest_any za (canon 1) ha (by decide) a 1 hva (valZ_canon _) (by decide) W
 rw [(rlo_one a).1, (rlo_one a).2] at hl
 show Calls Tryz.prog 27 #[.agg #[.bool za.neg, .string za.mag]] w (fun e w' => e = .returned (ratV a 1) ∧ Below w.heap.size w w')
 have hl2 : ∀ W, Calls Tryz.prog 50 #[.agg #[.bool za.neg, .string za.mag], .agg #[.bool (canon 1).neg, .string (canon 1).mag]] W (fun e w' => e = .returned (ratV a 1) ∧ Below W.heap.size W w') := hl
 unfold ratV at *
 have HO := lhd one2_any
 have HL := lhd hl2
 generalize canon a = Q1 at *
 generalize canon 1 = K1 at *
 clear hl hl2 ha hva
 go_enter Tryz.func27, Tryz.ntmps27
 go_upto_region 1 with (fail)
 obtain ⟨W0, hW, hA, hC, hb⟩ := boxes24 w (.bool za.neg) (.string za.mag) 24 26
 rw [hW]
 obtain ⟨gA, hgA⟩ : ∃ g, w.heap.size = g := ⟨_, rfl⟩
 obtain ⟨gC, hgC⟩ : ∃ g, w.heap.size + 1 = g := ⟨_, rfl⟩
 have lC : w.heap.size ≤ gC := by omega
 have nca : gC ≠ gA := by omega
 rw [hgA] at hA
 rw [hgC] at hC ⊢
 rw [hgA]
 have HA := lhd hA
 have HC := lhd hC
 have HZ := lhd hb
 clear hA hC hb hW hgA hgC
 refine wp_region_held_drew (S := fun _ => True) (by kernel_rfl) trivial (fun _ => ?_)
 have A_q1 := lhd (BoxAt.drw HA.out)
 have C_q1 := lhd (Box4.drw HC.out)
 have Z_q1 := lhd (HZ.out.drew)
 try simp only [Act.put, ny1, ny2, ny3, ny4, ny5, ny6]
 refine wpAnyH_ready (rs := [0, 1]) (by kernel_rfl) (by simp) ?_
 refine AllReadyH.cons rfl (fun K hK => ?_) (AllReadyH.cons rfl (fun K hK => ?_) AllReadyH.nil)
 ·obtain ⟨z0, z1, _, _, _⟩ := A_q1.out
  go_simp
  refine hK.out _ _ trivial (fun _ => ?_)
  clear hK K z0 z1
  try simp only [Act.put, ny1, ny2, ny3, ny4, ny5, ny6]
  refine wpAnyH_ready (rs := [1]) (by kernel_rfl) (by simp) ?_
  refine AllReadyH.cons rfl (fun K hK => ?_) AllReadyH.nil
  go_simp
  refine (HO.out _).mono ?_
  rintro e wq2 ⟨rfl, hbc⟩
  have A_q2 := lhd (A_q1.out.below hbc A_q1.out.2.2.2.2)
  have C_q2 := lhd (C_q1.out.below hbc C_q1.out.2.2.2.2.2)
  have Z_q2 := lhd (Z_q1.out.trans (hbc.mono Z_q1.out.size))
  dsimp only
  refine hK.out _ _ trivial (fun _ => ?_)
  clear hK K hbc
  try simp only [Act.put, ny1, ny2, ny3, ny4, ny5, ny6]
  refine wpAnyH_ready (rs := [2]) (by kernel_rfl) (by simp) ?_
  refine AllReadyH.cons rfl (fun K hK => ?_) AllReadyH.nil
  go_simp
  refine (HL.out _).mono ?_
  rintro e wq3 ⟨rfl, hbc⟩
  have A_q3 := lhd (A_q2.out.below hbc A_q2.out.2.2.2.2)
  have C_q3 := lhd (C_q2.out.below hbc C_q2.out.2.2.2.2.2)
  have Z_q3 := lhd (Z_q2.out.trans (hbc.mono Z_q2.out.size))
  dsimp only
  refine hK.out _ _ trivial (fun _ => ?_)
  clear hK K hbc
  try simp only [Act.put, ny1, ny2, ny3, ny4, ny5, ny6]
  refine wpAnyH_ready (rs := [3]) (by kernel_rfl) (by simp) ?_
  refine AllReadyH.cons rfl (fun K hK => ?_) AllReadyH.nil
  obtain ⟨z0, z1, z2, z3, zf, _⟩ := C_q3.out
  have zf0 := zf 0
  have zf1 := zf 1
  have zf2 := zf 2
  have zf3 := zf 3
  have A_q4 := lhd (((((A_q3.out).far ⟨gC, 0, none⟩ (.bool Q1.neg) nca).far ⟨gC, 1, none⟩ (.string Q1.mag) nca).far ⟨gC, 2, none⟩ (.bool K1.neg) nca).far ⟨gC, 3, none⟩ (.string K1.mag) nca)
  have C_q4 := lhd (C_q3.out.set4 (.bool Q1.neg) (.string Q1.mag) (.bool K1.neg) (.string K1.mag))
  have Z_q4 := lhd (((((Z_q3.out).setCell (p := ⟨gC, 0, none⟩) lC (.bool Q1.neg)).setCell (p := ⟨gC, 1, none⟩) lC (.string Q1.mag)).setCell (p := ⟨gC, 2, none⟩) lC (.bool K1.neg)).setCell (p := ⟨gC, 3, none⟩) lC (.string K1.mag))
  go_simp
  refine hK.out _ _ trivial (fun _ => ?_)
  clear hK K z0 z1 z2 z3 zf zf0 zf1 zf2 zf3
  refine wpAnyH_done (by kernel_rfl) ?_ _
  obtain ⟨c0, c1, c2, c3, cf, _⟩ := C_q4.out
  have cf0 := cf 0
  have cf1 := cf 1
  have cf2 := cf 2
  have cf3 := cf 3
  go_wp2_with fail
  refine bodyPost_ret (v := .agg #[.bool Q1.neg, .string Q1.mag, .bool K1.neg, .string K1.mag]) ?_ rfl ⟨rfl, Z_q4.out⟩
  simp [results, Tryz.results27, go_sem, c0, c1, c2, c3]
 ·go_simp
  refine (HO.out _).mono ?_
  rintro e wq5 ⟨rfl, hbc⟩
  have A_q5 := lhd (A_q1.out.below hbc A_q1.out.2.2.2.2)
  have C_q5 := lhd (C_q1.out.below hbc C_q1.out.2.2.2.2.2)
  have Z_q5 := lhd (Z_q1.out.trans (hbc.mono Z_q1.out.size))
  dsimp only
  refine hK.out _ _ trivial (fun _ => ?_)
  clear hK K hbc
  try simp only [Act.put, ny1, ny2, ny3, ny4, ny5, ny6]
  refine wpAnyH_ready (rs := [0]) (by kernel_rfl) (by simp) ?_
  refine AllReadyH.cons rfl (fun K hK => ?_) AllReadyH.nil
  obtain ⟨z0, z1, _, _, _⟩ := A_q5.out
  go_simp
  refine hK.out _ _ trivial (fun _ => ?_)
  clear hK K z0 z1
  try simp only [Act.put, ny1, ny2, ny3, ny4, ny5, ny6]
  refine wpAnyH_ready (rs := [2]) (by kernel_rfl) (by simp) ?_
  refine AllReadyH.cons rfl (fun K hK => ?_) AllReadyH.nil
  go_simp
  refine (HL.out _).mono ?_
  rintro e wq6 ⟨rfl, hbc⟩
  have A_q6 := lhd (A_q5.out.below hbc A_q5.out.2.2.2.2)
  have C_q6 := lhd (C_q5.out.below hbc C_q5.out.2.2.2.2.2)
  have Z_q6 := lhd (Z_q5.out.trans (hbc.mono Z_q5.out.size))
  dsimp only
  refine hK.out _ _ trivial (fun _ => ?_)
  clear hK K hbc
  try simp only [Act.put, ny1, ny2, ny3, ny4, ny5, ny6]
  refine wpAnyH_ready (rs := [3]) (by kernel_rfl) (by simp) ?_
  refine AllReadyH.cons rfl (fun K hK => ?_) AllReadyH.nil
  obtain ⟨z0, z1, z2, z3, zf, _⟩ := C_q6.out
  have zf0 := zf 0
  have zf1 := zf 1
  have zf2 := zf 2
  have zf3 := zf 3
  have A_q7 := lhd (((((A_q6.out).far ⟨gC, 0, none⟩ (.bool Q1.neg) nca).far ⟨gC, 1, none⟩ (.string Q1.mag) nca).far ⟨gC, 2, none⟩ (.bool K1.neg) nca).far ⟨gC, 3, none⟩ (.string K1.mag) nca)
  have C_q7 := lhd (C_q6.out.set4 (.bool Q1.neg) (.string Q1.mag) (.bool K1.neg) (.string K1.mag))
  have Z_q7 := lhd (((((Z_q6.out).setCell (p := ⟨gC, 0, none⟩) lC (.bool Q1.neg)).setCell (p := ⟨gC, 1, none⟩) lC (.string Q1.mag)).setCell (p := ⟨gC, 2, none⟩) lC (.bool K1.neg)).setCell (p := ⟨gC, 3, none⟩) lC (.string K1.mag))
  go_simp
  refine hK.out _ _ trivial (fun _ => ?_)
  clear hK K z0 z1 z2 z3 zf zf0 zf1 zf2 zf3
  refine wpAnyH_done (by kernel_rfl) ?_ _
  obtain ⟨c0, c1, c2, c3, cf, _⟩ := C_q7.out
  have cf0 := cf 0
  have cf1 := cf 1
  have cf2 := cf 2
  have cf3 := cf 3
  go_wp2_with fail
  refine bodyPost_ret (v := .agg #[.bool Q1.neg, .string Q1.mag, .bool K1.neg, .string K1.mag]) ?_ rfl ⟨rfl, Z_q7.out⟩
  simp [results, Tryz.results27, go_sem, c0, c1, c2, c3]
set_option maxRecDepth 100000 in
set_option maxHeartbeats 8000000 in
theorem refMulR_any (a1 a2 b1 b2 : ZI) {e : Nat} (he : e ≤ 10000000) (s1 : a1.mag.size ≤ 90000000) (s2 : a2.mag.size ≤ 90000000) (s3 : b1.mag.size ≤ 90000000) (s4 : b2.mag.size ≤ 90000000) (h1 : Bn (valZ a1) e) (h2 : Bn (valZ a2) e) (h3 : Bn (valZ b1) e) (h4 : Bn (valZ b2) e) (n1 d1 n2 d2 : Int) (e1 : rloN (valZ a1) (valZ a2) = n1) (e2 : rloD (valZ a1) (valZ a2) = d1) (e3 : rloN (valZ b1) (valZ b2) = n2) (e4 : rloD (valZ b1) (valZ b2) = d2) (w : World) :
  Calls Tryz.prog 51 #[.agg #[.bool a1.neg, .string a1.mag, .bool a2.neg, .string a2.mag], .agg #[.bool b1.neg, .string b1.mag, .bool b2.neg, .string b2.mag]] w (RetR (rloN (n1 * n2) (d1 * d2)) (rloD (n1 * n2) (d1 * d2)) w) := by
 have hca : ∀ W, Calls Tryz.prog 47 #[.agg #[.bool a1.neg, .string a1.mag, .bool a2.neg, .string a2.mag]] W (fun e w' => e = .returned (ratV n1 d1) ∧ Below W.heap.size W w') := fun W => by
  have h := refCanonR_any a1 a2 s1 s2 _ _ rfl rfl W
  rw [e1, e2] at h
  exact h
 have hcb : ∀ W, Calls Tryz.prog 47 #[.agg #[.bool b1.neg, .string b1.mag, .bool b2.neg, .string b2.mag]] W (fun e w' => e = .returned (ratV n2 d2) ∧ Below W.heap.size W w') := fun W => by
  have h := refCanonR_any b1 b2 s3 s4 _ _ rfl rfl W
  rw [e3, e4] at h
  exact h
 have k1 : Bn n1 e := by rw [← e1]; exact rloN_bn h1 _
 have k2 : Bn d1 e := by rw [← e2]; exact rloD_bn h2 _
 have k3 : Bn n2 e := by rw [← e3]; exact rloN_bn h3 _
 have k4 : Bn d2 e := by rw [← e4]; exact rloD_bn h4 _
 have hd1 : 0 < d1 := by rw [← e2]; exact (rlo_qc _ _).pos
 have hd2 : 0 < d2 := by rw [← e4]; exact (rlo_qc _ _).pos
 have hdd : d1 * d2 ≠ 0 := Int.ne_of_gt (Int.mul_pos hd1 hd2)
 have HM1 := lhd (fun W => refMulZ_any (canon n1) (canon n2) (Nat.lt_of_le_of_lt (k1.size 2000000 (by omega)) (by decide)) (Nat.lt_of_le_of_lt (k3.size 2000000 (by omega)) (by decide)) n1 n2 (valZ_canon _) (valZ_canon _) (Nat.le_trans (Nat.add_le_add (k1.size 2000000 (by omega)) (k3.size 2000000 (by omega))) (by decide)) W)
 have HM2 := lhd (fun W => refMulZ_any (canon d1) (canon d2) (Nat.lt_of_le_of_lt (k2.size 2000000 (by omega)) (by decide)) (Nat.lt_of_le_of_lt (k4.size 2000000 (by omega)) (by decide)) d1 d2 (valZ_canon _) (valZ_canon _) (Nat.le_trans (Nat.add_le_add (k2.size 2000000 (by omega)) (k4.size 2000000 (by omega))) (by decide)) W)
 have hl := fun W => refLowest_any (canon (n1 * n2)) (canon (d1 * d2)) ((k1.mul k3).size 90000000 (by omega)) ((k2.mul k4).size 90000000 (by omega)) (n1 * n2) (d1 * d2) (valZ_canon _) (valZ_canon _) hdd W
 show Calls Tryz.prog 51 #[.agg #[.bool a1.neg, .string a1.mag, .bool a2.neg, .string a2.mag], .agg #[.bool b1.neg, .string b1.mag, .bool b2.neg, .string b2.mag]] w (fun e w' => e = .returned (ratV (rloN (n1 * n2) (d1 * d2)) (rloD (n1 * n2) (d1 * d2))) ∧ Below w.heap.size w w')
 have hl2 : ∀ W, Calls Tryz.prog 50 #[.agg #[.bool (canon (n1 * n2)).neg, .string (canon (n1 * n2)).mag], .agg #[.bool (canon (d1 * d2)).neg, .string (canon (d1 * d2)).mag]] W (fun e w' => e = .returned (ratV (rloN (n1 * n2) (d1 * d2)) (rloD (n1 * n2) (d1 * d2))) ∧ Below W.heap.size W w') := hl
 unfold ratV at *
 have HCa := lhd hca
 have HCb := lhd hcb
 have HL := lhd hl2
 generalize canon (rloN (n1 * n2) (d1 * d2)) = Q1 at *
 generalize canon (rloD (n1 * n2) (d1 * d2)) = Q2 at *
 generalize canon (n1 * n2) = PN at *
 generalize canon (d1 * d2) = PD at *
 generalize canon n1 = N1 at *
 generalize canon d1 = D1 at *
 generalize canon n2 = N2 at *
 generalize canon d2 = D2 at *
 clear hca hcb hl hl2 s1 s2 s3 s4 h1 h2 h3 h4 e1 e2 e3 e4 k1 k2 k3 k4 hd1 hd2 hdd he
 go_enter Tryz.func51, Tryz.ntmps51
 go_upto_region 1 with (fail)
 obtain ⟨W0, hW, hA, hB, hC, hb⟩ := three_box4 w (.bool a1.neg) (.string a1.mag) (.bool a2.neg) (.string a2.mag) (.bool b1.neg) (.string b1.mag) (.bool b2.neg) (.string b2.mag) 26 26 26
 rw [hW]
 obtain ⟨gA, hgA⟩ : ∃ g, w.heap.size = g := ⟨_, rfl⟩
 obtain ⟨gB, hgB⟩ : ∃ g, w.heap.size + 1 = g := ⟨_, rfl⟩
 obtain ⟨gC, hgC⟩ : ∃ g, w.heap.size + 1 + 1 = g := ⟨_, rfl⟩
 have lA : w.heap.size ≤ gA := by omega
 have lB : w.heap.size ≤ gB := by omega
 have lC : w.heap.size ≤ gC := by omega
 have nab : gA ≠ gB := by omega
 have nba : gB ≠ gA := by omega
 have nac : gA ≠ gC := by omega
 have nca : gC ≠ gA := by omega
 have nbc : gB ≠ gC := by omega
 have ncb : gC ≠ gB := by omega
 rw [hgA] at hA
 rw [hgB] at hB
 rw [hgC] at hC ⊢
 rw [hgB, hgA]
 have HA := lhd hA
 have HB := lhd hB
 have HC := lhd hC
 have HZ := lhd hb
 clear hA hB hC hb hW hgA hgB hgC
 go_cut [] (fun wx => Hid (Box4 wx gA (.bool N1.neg) (.string N1.mag) (.bool D1.neg) (.string D1.mag)) ∧ Hid (Box4 wx gB (.bool N2.neg) (.string N2.mag) (.bool D2.neg) (.string D2.mag)) ∧ Hid (Box4 wx gC (.bool false) (.string ⟨#[]⟩) (.bool false) (.string ⟨#[]⟩)) ∧ Hid (Below w.heap.size w wx))
 case first =>
  refine wp_region_held_drew (S := fun _ => True) (by kernel_rfl) trivial (fun _ => ?_)
  have A_q1 := lhd (Box4.drw HA.out)
  have B_q1 := lhd (Box4.drw HB.out)
  have C_q1 := lhd (Box4.drw HC.out)
  have Z_q1 := lhd (HZ.out.drew)
  try simp only [Act.put, ny1, ny2, ny3, ny4, ny5, ny6]
  refine wpAnyH_ready (rs := [0, 2]) (by kernel_rfl) (by simp) ?_
  refine AllReadyH.cons rfl (fun K hK => ?_) (AllReadyH.cons rfl (fun K hK => ?_) AllReadyH.nil)
  ·obtain ⟨z0, z1, z2, z3, _, _⟩ := A_q1.out
   go_simp
   refine hK.out _ _ trivial (fun _ => ?_)
   clear hK K z0 z1 z2 z3
   try simp only [Act.put, ny1, ny2, ny3, ny4, ny5, ny6]
   refine wpAnyH_ready (rs := [1, 2]) (by kernel_rfl) (by simp) ?_
   refine AllReadyH.cons rfl (fun K hK => ?_) (AllReadyH.cons rfl (fun K hK => ?_) AllReadyH.nil)
   ·go_simp
    refine (HCa.out _).mono ?_
    rintro e wq2 ⟨rfl, hbc⟩
    have A_q2 := lhd (A_q1.out.below hbc A_q1.out.2.2.2.2.2)
    have B_q2 := lhd (B_q1.out.below hbc B_q1.out.2.2.2.2.2)
    have C_q2 := lhd (C_q1.out.below hbc C_q1.out.2.2.2.2.2)
    have Z_q2 := lhd (Z_q1.out.trans (hbc.mono Z_q1.out.size))
    dsimp only
    refine hK.out _ _ trivial (fun _ => ?_)
    clear hK K hbc
    try simp only [Act.put, ny1, ny2, ny3, ny4, ny5, ny6]
    refine wpAnyH_ready (rs := [2]) (by kernel_rfl) (by simp) ?_
    refine AllReadyH.cons rfl (fun K hK => ?_) AllReadyH.nil
    obtain ⟨z0, z1, z2, z3, _, _⟩ := B_q2.out
    go_simp
    refine hK.out _ _ trivial (fun _ => ?_)
    clear hK K z0 z1 z2 z3
    try simp only [Act.put, ny1, ny2, ny3, ny4, ny5, ny6]
    refine wpAnyH_ready (rs := [3]) (by kernel_rfl) (by simp) ?_
    refine AllReadyH.cons rfl (fun K hK => ?_) AllReadyH.nil
    go_simp
    refine (HCb.out _).mono ?_
    rintro e wq3 ⟨rfl, hbc⟩
    have A_q3 := lhd (A_q2.out.below hbc A_q2.out.2.2.2.2.2)
    have B_q3 := lhd (B_q2.out.below hbc B_q2.out.2.2.2.2.2)
    have C_q3 := lhd (C_q2.out.below hbc C_q2.out.2.2.2.2.2)
    have Z_q3 := lhd (Z_q2.out.trans (hbc.mono Z_q2.out.size))
    dsimp only
    refine hK.out _ _ trivial (fun _ => ?_)
    clear hK K hbc
    try simp only [Act.put, ny1, ny2, ny3, ny4, ny5, ny6]
    refine wpAnyH_ready (rs := [4]) (by kernel_rfl) (by simp) ?_
    refine AllReadyH.cons rfl (fun K hK => ?_) AllReadyH.nil
    obtain ⟨z0, z1, z2, z3, zf, _⟩ := A_q3.out
    have zf0 := zf 0
    have zf1 := zf 1
    have zf2 := zf 2
    have zf3 := zf 3
    have A_q4 := lhd (A_q3.out.set4 (.bool N1.neg) (.string N1.mag) (.bool D1.neg) (.string D1.mag))
    have B_q4 := lhd (((((B_q3.out).far ⟨gA, 0, none⟩ (.bool N1.neg) nab).far ⟨gA, 1, none⟩ (.string N1.mag) nab).far ⟨gA, 2, none⟩ (.bool D1.neg) nab).far ⟨gA, 3, none⟩ (.string D1.mag) nab)
    have C_q4 := lhd (((((C_q3.out).far ⟨gA, 0, none⟩ (.bool N1.neg) nac).far ⟨gA, 1, none⟩ (.string N1.mag) nac).far ⟨gA, 2, none⟩ (.bool D1.neg) nac).far ⟨gA, 3, none⟩ (.string D1.mag) nac)
    have Z_q4 := lhd (((((Z_q3.out).setCell (p := ⟨gA, 0, none⟩) lA (.bool N1.neg)).setCell (p := ⟨gA, 1, none⟩) lA (.string N1.mag)).setCell (p := ⟨gA, 2, none⟩) lA (.bool D1.neg)).setCell (p := ⟨gA, 3, none⟩) lA (.string D1.mag))
    go_simp
    refine hK.out _ _ trivial (fun _ => ?_)
    clear hK K z0 z1 z2 z3 zf zf0 zf1 zf2 zf3
    try simp only [Act.put, ny1, ny2, ny3, ny4, ny5, ny6]
    refine wpAnyH_ready (rs := [5]) (by kernel_rfl) (by simp) ?_
    refine AllReadyH.cons rfl (fun K hK => ?_) AllReadyH.nil
    obtain ⟨z0, z1, z2, z3, zf, _⟩ := B_q4.out
    have zf0 := zf 0
    have zf1 := zf 1
    have zf2 := zf 2
    have zf3 := zf 3
    have A_q5 := lhd (((((A_q4.out).far ⟨gB, 0, none⟩ (.bool N2.neg) nba).far ⟨gB, 1, none⟩ (.string N2.mag) nba).far ⟨gB, 2, none⟩ (.bool D2.neg) nba).far ⟨gB, 3, none⟩ (.string D2.mag) nba)
    have B_q5 := lhd (B_q4.out.set4 (.bool N2.neg) (.string N2.mag) (.bool D2.neg) (.string D2.mag))
    have C_q5 := lhd (((((C_q4.out).far ⟨gB, 0, none⟩ (.bool N2.neg) nbc).far ⟨gB, 1, none⟩ (.string N2.mag) nbc).far ⟨gB, 2, none⟩ (.bool D2.neg) nbc).far ⟨gB, 3, none⟩ (.string D2.mag) nbc)
    have Z_q5 := lhd (((((Z_q4.out).setCell (p := ⟨gB, 0, none⟩) lB (.bool N2.neg)).setCell (p := ⟨gB, 1, none⟩) lB (.string N2.mag)).setCell (p := ⟨gB, 2, none⟩) lB (.bool D2.neg)).setCell (p := ⟨gB, 3, none⟩) lB (.string D2.mag))
    go_simp
    refine hK.out _ _ trivial (fun _ => ?_)
    clear hK K z0 z1 z2 z3 zf zf0 zf1 zf2 zf3
    refine wpAnyH_done (by kernel_rfl) ?_ _
    go_wp2_with fail
    go_meet
    exact ⟨A_q5, B_q5, C_q5, Z_q5⟩
   ·obtain ⟨z0, z1, z2, z3, _, _⟩ := B_q1.out
    go_simp
    refine hK.out _ _ trivial (fun _ => ?_)
    clear hK K z0 z1 z2 z3
    try simp only [Act.put, ny1, ny2, ny3, ny4, ny5, ny6]
    refine wpAnyH_ready (rs := [1]) (by kernel_rfl) (by simp) ?_
    refine AllReadyH.cons rfl (fun K hK => ?_) AllReadyH.nil
    go_simp
    refine (HCa.out _).mono ?_
    rintro e wq6 ⟨rfl, hbc⟩
    have A_q6 := lhd (A_q1.out.below hbc A_q1.out.2.2.2.2.2)
    have B_q6 := lhd (B_q1.out.below hbc B_q1.out.2.2.2.2.2)
    have C_q6 := lhd (C_q1.out.below hbc C_q1.out.2.2.2.2.2)
    have Z_q6 := lhd (Z_q1.out.trans (hbc.mono Z_q1.out.size))
    dsimp only
    refine hK.out _ _ trivial (fun _ => ?_)
    clear hK K hbc
    try simp only [Act.put, ny1, ny2, ny3, ny4, ny5, ny6]
    refine wpAnyH_ready (rs := [3]) (by kernel_rfl) (by simp) ?_
    refine AllReadyH.cons rfl (fun K hK => ?_) AllReadyH.nil
    go_simp
    refine (HCb.out _).mono ?_
    rintro e wq7 ⟨rfl, hbc⟩
    have A_q7 := lhd (A_q6.out.below hbc A_q6.out.2.2.2.2.2)
    have B_q7 := lhd (B_q6.out.below hbc B_q6.out.2.2.2.2.2)
    have C_q7 := lhd (C_q6.out.below hbc C_q6.out.2.2.2.2.2)
    have Z_q7 := lhd (Z_q6.out.trans (hbc.mono Z_q6.out.size))
    dsimp only
    refine hK.out _ _ trivial (fun _ => ?_)
    clear hK K hbc
    try simp only [Act.put, ny1, ny2, ny3, ny4, ny5, ny6]
    refine wpAnyH_ready (rs := [4]) (by kernel_rfl) (by simp) ?_
    refine AllReadyH.cons rfl (fun K hK => ?_) AllReadyH.nil
    obtain ⟨z0, z1, z2, z3, zf, _⟩ := A_q7.out
    have zf0 := zf 0
    have zf1 := zf 1
    have zf2 := zf 2
    have zf3 := zf 3
    have A_q8 := lhd (A_q7.out.set4 (.bool N1.neg) (.string N1.mag) (.bool D1.neg) (.string D1.mag))
    have B_q8 := lhd (((((B_q7.out).far ⟨gA, 0, none⟩ (.bool N1.neg) nab).far ⟨gA, 1, none⟩ (.string N1.mag) nab).far ⟨gA, 2, none⟩ (.bool D1.neg) nab).far ⟨gA, 3, none⟩ (.string D1.mag) nab)
    have C_q8 := lhd (((((C_q7.out).far ⟨gA, 0, none⟩ (.bool N1.neg) nac).far ⟨gA, 1, none⟩ (.string N1.mag) nac).far ⟨gA, 2, none⟩ (.bool D1.neg) nac).far ⟨gA, 3, none⟩ (.string D1.mag) nac)
    have Z_q8 := lhd (((((Z_q7.out).setCell (p := ⟨gA, 0, none⟩) lA (.bool N1.neg)).setCell (p := ⟨gA, 1, none⟩) lA (.string N1.mag)).setCell (p := ⟨gA, 2, none⟩) lA (.bool D1.neg)).setCell (p := ⟨gA, 3, none⟩) lA (.string D1.mag))
    go_simp
    refine hK.out _ _ trivial (fun _ => ?_)
    clear hK K z0 z1 z2 z3 zf zf0 zf1 zf2 zf3
    try simp only [Act.put, ny1, ny2, ny3, ny4, ny5, ny6]
    refine wpAnyH_ready (rs := [5]) (by kernel_rfl) (by simp) ?_
    refine AllReadyH.cons rfl (fun K hK => ?_) AllReadyH.nil
    obtain ⟨z0, z1, z2, z3, zf, _⟩ := B_q8.out
    have zf0 := zf 0
    have zf1 := zf 1
    have zf2 := zf 2
    have zf3 := zf 3
    have A_q9 := lhd (((((A_q8.out).far ⟨gB, 0, none⟩ (.bool N2.neg) nba).far ⟨gB, 1, none⟩ (.string N2.mag) nba).far ⟨gB, 2, none⟩ (.bool D2.neg) nba).far ⟨gB, 3, none⟩ (.string D2.mag) nba)
    have B_q9 := lhd (B_q8.out.set4 (.bool N2.neg) (.string N2.mag) (.bool D2.neg) (.string D2.mag))
    have C_q9 := lhd (((((C_q8.out).far ⟨gB, 0, none⟩ (.bool N2.neg) nbc).far ⟨gB, 1, none⟩ (.string N2.mag) nbc).far ⟨gB, 2, none⟩ (.bool D2.neg) nbc).far ⟨gB, 3, none⟩ (.string D2.mag) nbc)
    have Z_q9 := lhd (((((Z_q8.out).setCell (p := ⟨gB, 0, none⟩) lB (.bool N2.neg)).setCell (p := ⟨gB, 1, none⟩) lB (.string N2.mag)).setCell (p := ⟨gB, 2, none⟩) lB (.bool D2.neg)).setCell (p := ⟨gB, 3, none⟩) lB (.string D2.mag))
    go_simp
    refine hK.out _ _ trivial (fun _ => ?_)
    clear hK K z0 z1 z2 z3 zf zf0 zf1 zf2 zf3
    refine wpAnyH_done (by kernel_rfl) ?_ _
    go_wp2_with fail
    go_meet
    exact ⟨A_q9, B_q9, C_q9, Z_q9⟩
  ·obtain ⟨z0, z1, z2, z3, _, _⟩ := B_q1.out
   go_simp
   refine hK.out _ _ trivial (fun _ => ?_)
   clear hK K z0 z1 z2 z3
   try simp only [Act.put, ny1, ny2, ny3, ny4, ny5, ny6]
   refine wpAnyH_ready (rs := [0]) (by kernel_rfl) (by simp) ?_
   refine AllReadyH.cons rfl (fun K hK => ?_) AllReadyH.nil
   obtain ⟨z0, z1, z2, z3, _, _⟩ := A_q1.out
   go_simp
   refine hK.out _ _ trivial (fun _ => ?_)
   clear hK K z0 z1 z2 z3
   try simp only [Act.put, ny1, ny2, ny3, ny4, ny5, ny6]
   refine wpAnyH_ready (rs := [1]) (by kernel_rfl) (by simp) ?_
   refine AllReadyH.cons rfl (fun K hK => ?_) AllReadyH.nil
   go_simp
   refine (HCa.out _).mono ?_
   rintro e wq10 ⟨rfl, hbc⟩
   have A_q10 := lhd (A_q1.out.below hbc A_q1.out.2.2.2.2.2)
   have B_q10 := lhd (B_q1.out.below hbc B_q1.out.2.2.2.2.2)
   have C_q10 := lhd (C_q1.out.below hbc C_q1.out.2.2.2.2.2)
   have Z_q10 := lhd (Z_q1.out.trans (hbc.mono Z_q1.out.size))
   dsimp only
   refine hK.out _ _ trivial (fun _ => ?_)
   clear hK K hbc
   try simp only [Act.put, ny1, ny2, ny3, ny4, ny5, ny6]
   refine wpAnyH_ready (rs := [3]) (by kernel_rfl) (by simp) ?_
   refine AllReadyH.cons rfl (fun K hK => ?_) AllReadyH.nil
   go_simp
   refine (HCb.out _).mono ?_
   rintro e wq11 ⟨rfl, hbc⟩
   have A_q11 := lhd (A_q10.out.below hbc A_q10.out.2.2.2.2.2)
   have B_q11 := lhd (B_q10.out.below hbc B_q10.out.2.2.2.2.2)
   have C_q11 := lhd (C_q10.out.below hbc C_q10.out.2.2.2.2.2)
   have Z_q11 := lhd (Z_q10.out.trans (hbc.mono Z_q10.out.size))
   dsimp only
   refine hK.out _ _ trivial (fun _ => ?_)
   clear hK K hbc
   try simp only [Act.put, ny1, ny2, ny3, ny4, ny5, ny6]
   refine wpAnyH_ready (rs := [4]) (by kernel_rfl) (by simp) ?_
   refine AllReadyH.cons rfl (fun K hK => ?_) AllReadyH.nil
   obtain ⟨z0, z1, z2, z3, zf, _⟩ := A_q11.out
   have zf0 := zf 0
   have zf1 := zf 1
   have zf2 := zf 2
   have zf3 := zf 3
   have A_q12 := lhd (A_q11.out.set4 (.bool N1.neg) (.string N1.mag) (.bool D1.neg) (.string D1.mag))
   have B_q12 := lhd (((((B_q11.out).far ⟨gA, 0, none⟩ (.bool N1.neg) nab).far ⟨gA, 1, none⟩ (.string N1.mag) nab).far ⟨gA, 2, none⟩ (.bool D1.neg) nab).far ⟨gA, 3, none⟩ (.string D1.mag) nab)
   have C_q12 := lhd (((((C_q11.out).far ⟨gA, 0, none⟩ (.bool N1.neg) nac).far ⟨gA, 1, none⟩ (.string N1.mag) nac).far ⟨gA, 2, none⟩ (.bool D1.neg) nac).far ⟨gA, 3, none⟩ (.string D1.mag) nac)
   have Z_q12 := lhd (((((Z_q11.out).setCell (p := ⟨gA, 0, none⟩) lA (.bool N1.neg)).setCell (p := ⟨gA, 1, none⟩) lA (.string N1.mag)).setCell (p := ⟨gA, 2, none⟩) lA (.bool D1.neg)).setCell (p := ⟨gA, 3, none⟩) lA (.string D1.mag))
   go_simp
   refine hK.out _ _ trivial (fun _ => ?_)
   clear hK K z0 z1 z2 z3 zf zf0 zf1 zf2 zf3
   try simp only [Act.put, ny1, ny2, ny3, ny4, ny5, ny6]
   refine wpAnyH_ready (rs := [5]) (by kernel_rfl) (by simp) ?_
   refine AllReadyH.cons rfl (fun K hK => ?_) AllReadyH.nil
   obtain ⟨z0, z1, z2, z3, zf, _⟩ := B_q12.out
   have zf0 := zf 0
   have zf1 := zf 1
   have zf2 := zf 2
   have zf3 := zf 3
   have A_q13 := lhd (((((A_q12.out).far ⟨gB, 0, none⟩ (.bool N2.neg) nba).far ⟨gB, 1, none⟩ (.string N2.mag) nba).far ⟨gB, 2, none⟩ (.bool D2.neg) nba).far ⟨gB, 3, none⟩ (.string D2.mag) nba)
   have B_q13 := lhd (B_q12.out.set4 (.bool N2.neg) (.string N2.mag) (.bool D2.neg) (.string D2.mag))
   have C_q13 := lhd (((((C_q12.out).far ⟨gB, 0, none⟩ (.bool N2.neg) nbc).far ⟨gB, 1, none⟩ (.string N2.mag) nbc).far ⟨gB, 2, none⟩ (.bool D2.neg) nbc).far ⟨gB, 3, none⟩ (.string D2.mag) nbc)
   have Z_q13 := lhd (((((Z_q12.out).setCell (p := ⟨gB, 0, none⟩) lB (.bool N2.neg)).setCell (p := ⟨gB, 1, none⟩) lB (.string N2.mag)).setCell (p := ⟨gB, 2, none⟩) lB (.bool D2.neg)).setCell (p := ⟨gB, 3, none⟩) lB (.string D2.mag))
   go_simp
   refine hK.out _ _ trivial (fun _ => ?_)
   clear hK K z0 z1 z2 z3 zf zf0 zf1 zf2 zf3
   refine wpAnyH_done (by kernel_rfl) ?_ _
   go_wp2_with fail
   go_meet
   exact ⟨A_q13, B_q13, C_q13, Z_q13⟩
 case rest =>
  obtain ⟨HA, HB, HC, HZ⟩ := hcut
  clear HCa HCb
  go_upto_region 2 with (fail)
  obtain ⟨SS, hSe⟩ : ∃ SS : World → Prop, SS = fun W => Box4 W gA (.bool N1.neg) (.string N1.mag) (.bool D1.neg) (.string D1.mag) ∧ Box4 W gB (.bool N2.neg) (.string N2.mag) (.bool D2.neg) (.string D2.mag) := ⟨_, rfl⟩
  have hSm : Hid (∀ W, (Box4 W gA (.bool N1.neg) (.string N1.mag) (.bool D1.neg) (.string D1.mag) ∧ Box4 W gB (.bool N2.neg) (.string N2.mag) (.bool D2.neg) (.string D2.mag)) → SS W) := lhd (fun W hW => by rw [hSe]; exact hW)
  refine wp_region_held_drew (S := SS) (by kernel_rfl) (hSm.out _ ⟨Box4.drw HA.out, Box4.drw HB.out⟩) (fun _ => ?_)
  have A_q1 := lhd (Box4.drw HA.out)
  have B_q1 := lhd (Box4.drw HB.out)
  have C_q1 := lhd (Box4.drw HC.out)
  have Z_q1 := lhd (HZ.out.drew)
  refine wpAnyH_take (i := 0) (v := ?_) rfl (by kernel_rfl) (by kernel_rfl) (by kernel_rfl) (fun _ _ _ h => h) (Or.inl ⟨by rfl, ?_⟩) (hSm.out _ ⟨A_q1.out, B_q1.out⟩) ?_
  rotate_left 1
  next => intro w hSw; rw [hSe] at hSw; obtain ⟨⟨u00, u01, u02, u03, _, _⟩, ⟨u10, u11, u12, u13, _, _⟩⟩ := hSw; go_simp; try with_reducible rfl
  try simp only [Act.put, ny1, ny2, ny3, ny4, ny5, ny6]
  refine wpAnyH_take (i := 1) (v := ?_) rfl (by kernel_rfl) (by kernel_rfl) (by kernel_rfl) (fun _ _ _ h => h) (Or.inl ⟨by rfl, ?_⟩) (hSm.out _ ⟨A_q1.out, B_q1.out⟩) ?_
  rotate_left 1
  next => intro w hSw; rw [hSe] at hSw; obtain ⟨⟨u00, u01, u02, u03, _, _⟩, ⟨u10, u11, u12, u13, _, _⟩⟩ := hSw; go_simp; try with_reducible rfl
  try simp only [Act.put, ny1, ny2, ny3, ny4, ny5, ny6]
  refine wpAnyH_take (i := 2) (v := ?_) rfl (by kernel_rfl) (by kernel_rfl) (by kernel_rfl) (fun _ _ _ h => h) (Or.inl ⟨by rfl, ?_⟩) (hSm.out _ ⟨A_q1.out, B_q1.out⟩) ?_
  rotate_left 1
  next => intro w hSw; rw [hSe] at hSw; obtain ⟨⟨u00, u01, u02, u03, _, _⟩, ⟨u10, u11, u12, u13, _, _⟩⟩ := hSw; go_simp; try with_reducible rfl
  try simp only [Act.put, ny1, ny2, ny3, ny4, ny5, ny6]
  refine wpAnyH_take (i := 3) (v := ?_) rfl (by kernel_rfl) (by kernel_rfl) (by kernel_rfl) (fun _ _ _ h => h) (Or.inl ⟨by rfl, ?_⟩) (hSm.out _ ⟨A_q1.out, B_q1.out⟩) ?_
  rotate_left 1
  next => intro w hSw; rw [hSe] at hSw; obtain ⟨⟨u00, u01, u02, u03, _, _⟩, ⟨u10, u11, u12, u13, _, _⟩⟩ := hSw; go_simp; try with_reducible rfl
  try simp only [Act.put, ny1, ny2, ny3, ny4, ny5, ny6]
  refine wpAnyH_take (i := 5) (v := ?_) rfl (by kernel_rfl) (by kernel_rfl) (by kernel_rfl) (fun _ _ _ h => h) (Or.inl ⟨by rfl, ?_⟩) (hSm.out _ ⟨A_q1.out, B_q1.out⟩) ?_
  rotate_left 1
  next => intro w hSw; rw [hSe] at hSw; obtain ⟨⟨u00, u01, u02, u03, _, _⟩, ⟨u10, u11, u12, u13, _, _⟩⟩ := hSw; go_simp; try with_reducible rfl
  try simp only [Act.put, ny1, ny2, ny3, ny4, ny5, ny6]
  refine wpAnyH_take (i := 6) (v := ?_) rfl (by kernel_rfl) (by kernel_rfl) (by kernel_rfl) (fun _ _ _ h => h) (Or.inl ⟨by rfl, ?_⟩) (hSm.out _ ⟨A_q1.out, B_q1.out⟩) ?_
  rotate_left 1
  next => intro w hSw; rw [hSe] at hSw; obtain ⟨⟨u00, u01, u02, u03, _, _⟩, ⟨u10, u11, u12, u13, _, _⟩⟩ := hSw; go_simp; try with_reducible rfl
  try simp only [Act.put, ny1, ny2, ny3, ny4, ny5, ny6]
  refine wpAnyH_take (i := 7) (v := ?_) rfl (by kernel_rfl) (by kernel_rfl) (by kernel_rfl) (fun _ _ _ h => h) (Or.inl ⟨by rfl, ?_⟩) (hSm.out _ ⟨A_q1.out, B_q1.out⟩) ?_
  rotate_left 1
  next => intro w hSw; rw [hSe] at hSw; obtain ⟨⟨u00, u01, u02, u03, _, _⟩, ⟨u10, u11, u12, u13, _, _⟩⟩ := hSw; go_simp; try with_reducible rfl
  try simp only [Act.put, ny1, ny2, ny3, ny4, ny5, ny6]
  refine wpAnyH_take (i := 8) (v := ?_) rfl (by kernel_rfl) (by kernel_rfl) (by kernel_rfl) (fun _ _ _ h => h) (Or.inl ⟨by rfl, ?_⟩) (hSm.out _ ⟨A_q1.out, B_q1.out⟩) ?_
  rotate_left 1
  next => intro w hSw; rw [hSe] at hSw; obtain ⟨⟨u00, u01, u02, u03, _, _⟩, ⟨u10, u11, u12, u13, _, _⟩⟩ := hSw; go_simp; try with_reducible rfl
  try simp only [Act.put, ny1, ny2, ny3, ny4, ny5, ny6]
  refine wpAnyH_ready (rs := [4]) (by kernel_rfl) (by simp) ?_
  refine AllReadyH.cons rfl (fun K hK => ?_) AllReadyH.nil
  go_simp
  refine (HM1.out _).mono ?_
  rintro e wq2 ⟨rfl, hbc⟩
  have A_q2 := lhd (A_q1.out.below hbc A_q1.out.2.2.2.2.2)
  have B_q2 := lhd (B_q1.out.below hbc B_q1.out.2.2.2.2.2)
  have C_q2 := lhd (C_q1.out.below hbc C_q1.out.2.2.2.2.2)
  have Z_q2 := lhd (Z_q1.out.trans (hbc.mono Z_q1.out.size))
  dsimp only
  refine hK.out _ _ (hSm.out _ ⟨A_q2.out, B_q2.out⟩) (fun _ => ?_)
  clear hK K hbc
  try simp only [Act.put, ny1, ny2, ny3, ny4, ny5, ny6]
  refine wpAnyH_ready (rs := [9]) (by kernel_rfl) (by simp) ?_
  refine AllReadyH.cons rfl (fun K hK => ?_) AllReadyH.nil
  go_simp
  refine (HM2.out _).mono ?_
  rintro e wq3 ⟨rfl, hbc⟩
  have A_q3 := lhd (A_q2.out.below hbc A_q2.out.2.2.2.2.2)
  have B_q3 := lhd (B_q2.out.below hbc B_q2.out.2.2.2.2.2)
  have C_q3 := lhd (C_q2.out.below hbc C_q2.out.2.2.2.2.2)
  have Z_q3 := lhd (Z_q2.out.trans (hbc.mono Z_q2.out.size))
  dsimp only
  refine hK.out _ _ (hSm.out _ ⟨A_q3.out, B_q3.out⟩) (fun _ => ?_)
  clear hK K hbc
  try simp only [Act.put, ny1, ny2, ny3, ny4, ny5, ny6]
  refine wpAnyH_ready (rs := [10]) (by kernel_rfl) (by simp) ?_
  refine AllReadyH.cons rfl (fun K hK => ?_) AllReadyH.nil
  go_simp
  refine (HL.out _).mono ?_
  rintro e wq4 ⟨rfl, hbc⟩
  have A_q4 := lhd (A_q3.out.below hbc A_q3.out.2.2.2.2.2)
  have B_q4 := lhd (B_q3.out.below hbc B_q3.out.2.2.2.2.2)
  have C_q4 := lhd (C_q3.out.below hbc C_q3.out.2.2.2.2.2)
  have Z_q4 := lhd (Z_q3.out.trans (hbc.mono Z_q3.out.size))
  dsimp only
  refine hK.out _ _ (hSm.out _ ⟨A_q4.out, B_q4.out⟩) (fun _ => ?_)
  clear hK K hbc
  try simp only [Act.put, ny1, ny2, ny3, ny4, ny5, ny6]
  refine wpAnyH_ready (rs := [11]) (by kernel_rfl) (by simp) ?_
  refine AllReadyH.cons rfl (fun K hK => ?_) AllReadyH.nil
  obtain ⟨z0, z1, z2, z3, zf, _⟩ := C_q4.out
  have zf0 := zf 0
  have zf1 := zf 1
  have zf2 := zf 2
  have zf3 := zf 3
  have A_q5 := lhd (((((A_q4.out).far ⟨gC, 0, none⟩ (.bool Q1.neg) nca).far ⟨gC, 1, none⟩ (.string Q1.mag) nca).far ⟨gC, 2, none⟩ (.bool Q2.neg) nca).far ⟨gC, 3, none⟩ (.string Q2.mag) nca)
  have B_q5 := lhd (((((B_q4.out).far ⟨gC, 0, none⟩ (.bool Q1.neg) ncb).far ⟨gC, 1, none⟩ (.string Q1.mag) ncb).far ⟨gC, 2, none⟩ (.bool Q2.neg) ncb).far ⟨gC, 3, none⟩ (.string Q2.mag) ncb)
  have C_q5 := lhd (C_q4.out.set4 (.bool Q1.neg) (.string Q1.mag) (.bool Q2.neg) (.string Q2.mag))
  have Z_q5 := lhd (((((Z_q4.out).setCell (p := ⟨gC, 0, none⟩) lC (.bool Q1.neg)).setCell (p := ⟨gC, 1, none⟩) lC (.string Q1.mag)).setCell (p := ⟨gC, 2, none⟩) lC (.bool Q2.neg)).setCell (p := ⟨gC, 3, none⟩) lC (.string Q2.mag))
  go_simp
  refine hK.out _ _ (hSm.out _ ⟨A_q5.out, B_q5.out⟩) (fun _ => ?_)
  clear hK K z0 z1 z2 z3 zf zf0 zf1 zf2 zf3
  refine wpAnyH_done (by kernel_rfl) ?_ _
  obtain ⟨c0, c1, c2, c3, cf, _⟩ := C_q5.out
  have cf0 := cf 0
  have cf1 := cf 1
  have cf2 := cf 2
  have cf3 := cf 3
  go_wp2_with fail
  refine bodyPost_ret (v := .agg #[.bool Q1.neg, .string Q1.mag, .bool Q2.neg, .string Q2.mag]) ?_ rfl ⟨rfl, Z_q5.out⟩
  simp [results, Tryz.results51, go_sem, c0, c1, c2, c3]
set_option maxRecDepth 100000 in
set_option maxHeartbeats 8000000 in
theorem refAddR_any (a1 a2 b1 b2 : ZI) {e : Nat} (he : e ≤ 10000000) (s1 : a1.mag.size ≤ 90000000) (s2 : a2.mag.size ≤ 90000000) (s3 : b1.mag.size ≤ 90000000) (s4 : b2.mag.size ≤ 90000000) (h1 : Bn (valZ a1) e) (h2 : Bn (valZ a2) e) (h3 : Bn (valZ b1) e) (h4 : Bn (valZ b2) e) (n1 d1 n2 d2 : Int) (e1 : rloN (valZ a1) (valZ a2) = n1) (e2 : rloD (valZ a1) (valZ a2) = d1) (e3 : rloN (valZ b1) (valZ b2) = n2) (e4 : rloD (valZ b1) (valZ b2) = d2) (w : World) :
  Calls Tryz.prog 25 #[.agg #[.bool a1.neg, .string a1.mag, .bool a2.neg, .string a2.mag], .agg #[.bool b1.neg, .string b1.mag, .bool b2.neg, .string b2.mag]] w (RetR (rloN (n1 * d2 + n2 * d1) (d1 * d2)) (rloD (n1 * d2 + n2 * d1) (d1 * d2)) w) := by
 have hca : ∀ W, Calls Tryz.prog 47 #[.agg #[.bool a1.neg, .string a1.mag, .bool a2.neg, .string a2.mag]] W (fun e w' => e = .returned (ratV n1 d1) ∧ Below W.heap.size W w') := fun W => by
  have h := refCanonR_any a1 a2 s1 s2 _ _ rfl rfl W
  rw [e1, e2] at h
  exact h
 have hcb : ∀ W, Calls Tryz.prog 47 #[.agg #[.bool b1.neg, .string b1.mag, .bool b2.neg, .string b2.mag]] W (fun e w' => e = .returned (ratV n2 d2) ∧ Below W.heap.size W w') := fun W => by
  have h := refCanonR_any b1 b2 s3 s4 _ _ rfl rfl W
  rw [e3, e4] at h
  exact h
 have k1 : Bn n1 e := by rw [← e1]; exact rloN_bn h1 _
 have k2 : Bn d1 e := by rw [← e2]; exact rloD_bn h2 _
 have k3 : Bn n2 e := by rw [← e3]; exact rloN_bn h3 _
 have k4 : Bn d2 e := by rw [← e4]; exact rloD_bn h4 _
 have hd1 : 0 < d1 := by rw [← e2]; exact (rlo_qc _ _).pos
 have hd2 : 0 < d2 := by rw [← e4]; exact (rlo_qc _ _).pos
 have hdd : d1 * d2 ≠ 0 := Int.ne_of_gt (Int.mul_pos hd1 hd2)
 have HM1 := lhd (fun W => refMulZ_any (canon n1) (canon d2) (Nat.lt_of_le_of_lt (k1.size 2000000 (by omega)) (by decide)) (Nat.lt_of_le_of_lt (k4.size 2000000 (by omega)) (by decide)) n1 d2 (valZ_canon _) (valZ_canon _) (Nat.le_trans (Nat.add_le_add (k1.size 2000000 (by omega)) (k4.size 2000000 (by omega))) (by decide)) W)
 have HM2 := lhd (fun W => refMulZ_any (canon n2) (canon d1) (Nat.lt_of_le_of_lt (k3.size 2000000 (by omega)) (by decide)) (Nat.lt_of_le_of_lt (k2.size 2000000 (by omega)) (by decide)) n2 d1 (valZ_canon _) (valZ_canon _) (Nat.le_trans (Nat.add_le_add (k3.size 2000000 (by omega)) (k2.size 2000000 (by omega))) (by decide)) W)
 have HM3 := lhd (fun W => refMulZ_any (canon d1) (canon d2) (Nat.lt_of_le_of_lt (k2.size 2000000 (by omega)) (by decide)) (Nat.lt_of_le_of_lt (k4.size 2000000 (by omega)) (by decide)) d1 d2 (valZ_canon _) (valZ_canon _) (Nat.le_trans (Nat.add_le_add (k2.size 2000000 (by omega)) (k4.size 2000000 (by omega))) (by decide)) W)
 have HAd := lhd (fun W => refAddZ_any (canon (n1 * d2)) (canon (n2 * d1)) (Nat.lt_of_le_of_lt ((k1.mul k4).size 90000000 (by omega)) (by decide)) (Nat.lt_of_le_of_lt ((k3.mul k2).size 90000000 (by omega)) (by decide)) (n1 * d2) (n2 * d1) (valZ_canon _) (valZ_canon _) W)
 have hl := fun W => refLowest_any (canon (n1 * d2 + n2 * d1)) (canon (d1 * d2)) ((Bn.add ((k1.mul k4)) ((k3.mul k2))).size 90000000 (by omega)) ((k2.mul k4).size 90000000 (by omega)) (n1 * d2 + n2 * d1) (d1 * d2) (valZ_canon _) (valZ_canon _) hdd W
 show Calls Tryz.prog 25 #[.agg #[.bool a1.neg, .string a1.mag, .bool a2.neg, .string a2.mag], .agg #[.bool b1.neg, .string b1.mag, .bool b2.neg, .string b2.mag]] w (fun e w' => e = .returned (ratV (rloN (n1 * d2 + n2 * d1) (d1 * d2)) (rloD (n1 * d2 + n2 * d1) (d1 * d2))) ∧ Below w.heap.size w w')
 have hl2 : ∀ W, Calls Tryz.prog 50 #[.agg #[.bool (canon (n1 * d2 + n2 * d1)).neg, .string (canon (n1 * d2 + n2 * d1)).mag], .agg #[.bool (canon (d1 * d2)).neg, .string (canon (d1 * d2)).mag]] W (fun e w' => e = .returned (ratV (rloN (n1 * d2 + n2 * d1) (d1 * d2)) (rloD (n1 * d2 + n2 * d1) (d1 * d2))) ∧ Below W.heap.size W w') := hl
 unfold ratV at *
 have HCa := lhd hca
 have HCb := lhd hcb
 have HL := lhd hl2
 generalize canon (rloN (n1 * d2 + n2 * d1) (d1 * d2)) = Q1 at *
 generalize canon (rloD (n1 * d2 + n2 * d1) (d1 * d2)) = Q2 at *
 generalize canon (n1 * d2 + n2 * d1) = PN at *
 generalize canon (d1 * d2) = PD at *
 generalize canon (n1 * d2) = M1 at *
 generalize canon (n2 * d1) = M2 at *
 generalize canon n1 = N1 at *
 generalize canon d1 = D1 at *
 generalize canon n2 = N2 at *
 generalize canon d2 = D2 at *
 clear hca hcb hl hl2 s1 s2 s3 s4 h1 h2 h3 h4 e1 e2 e3 e4 k1 k2 k3 k4 hd1 hd2 hdd he
 go_enter Tryz.func25, Tryz.ntmps25
 go_upto_region 1 with (fail)
 obtain ⟨W0, hW, hA, hB, hC, hb⟩ := three_box4 w (.bool a1.neg) (.string a1.mag) (.bool a2.neg) (.string a2.mag) (.bool b1.neg) (.string b1.mag) (.bool b2.neg) (.string b2.mag) 26 26 26
 rw [hW]
 obtain ⟨gA, hgA⟩ : ∃ g, w.heap.size = g := ⟨_, rfl⟩
 obtain ⟨gB, hgB⟩ : ∃ g, w.heap.size + 1 = g := ⟨_, rfl⟩
 obtain ⟨gC, hgC⟩ : ∃ g, w.heap.size + 1 + 1 = g := ⟨_, rfl⟩
 have lA : w.heap.size ≤ gA := by omega
 have lB : w.heap.size ≤ gB := by omega
 have lC : w.heap.size ≤ gC := by omega
 have nab : gA ≠ gB := by omega
 have nba : gB ≠ gA := by omega
 have nac : gA ≠ gC := by omega
 have nca : gC ≠ gA := by omega
 have nbc : gB ≠ gC := by omega
 have ncb : gC ≠ gB := by omega
 rw [hgA] at hA
 rw [hgB] at hB
 rw [hgC] at hC ⊢
 rw [hgB, hgA]
 have HA := lhd hA
 have HB := lhd hB
 have HC := lhd hC
 have HZ := lhd hb
 clear hA hB hC hb hW hgA hgB hgC
 go_cut [] (fun wx => Hid (Box4 wx gA (.bool N1.neg) (.string N1.mag) (.bool D1.neg) (.string D1.mag)) ∧ Hid (Box4 wx gB (.bool N2.neg) (.string N2.mag) (.bool D2.neg) (.string D2.mag)) ∧ Hid (Box4 wx gC (.bool false) (.string ⟨#[]⟩) (.bool false) (.string ⟨#[]⟩)) ∧ Hid (Below w.heap.size w wx))
 case first =>
  refine wp_region_held_drew (S := fun _ => True) (by kernel_rfl) trivial (fun _ => ?_)
  have A_q1 := lhd (Box4.drw HA.out)
  have B_q1 := lhd (Box4.drw HB.out)
  have C_q1 := lhd (Box4.drw HC.out)
  have Z_q1 := lhd (HZ.out.drew)
  try simp only [Act.put, ny1, ny2, ny3, ny4, ny5, ny6]
  refine wpAnyH_ready (rs := [0, 2]) (by kernel_rfl) (by simp) ?_
  refine AllReadyH.cons rfl (fun K hK => ?_) (AllReadyH.cons rfl (fun K hK => ?_) AllReadyH.nil)
  ·obtain ⟨z0, z1, z2, z3, _, _⟩ := A_q1.out
   go_simp
   refine hK.out _ _ trivial (fun _ => ?_)
   clear hK K z0 z1 z2 z3
   try simp only [Act.put, ny1, ny2, ny3, ny4, ny5, ny6]
   refine wpAnyH_ready (rs := [1, 2]) (by kernel_rfl) (by simp) ?_
   refine AllReadyH.cons rfl (fun K hK => ?_) (AllReadyH.cons rfl (fun K hK => ?_) AllReadyH.nil)
   ·go_simp
    refine (HCa.out _).mono ?_
    rintro e wq2 ⟨rfl, hbc⟩
    have A_q2 := lhd (A_q1.out.below hbc A_q1.out.2.2.2.2.2)
    have B_q2 := lhd (B_q1.out.below hbc B_q1.out.2.2.2.2.2)
    have C_q2 := lhd (C_q1.out.below hbc C_q1.out.2.2.2.2.2)
    have Z_q2 := lhd (Z_q1.out.trans (hbc.mono Z_q1.out.size))
    dsimp only
    refine hK.out _ _ trivial (fun _ => ?_)
    clear hK K hbc
    try simp only [Act.put, ny1, ny2, ny3, ny4, ny5, ny6]
    refine wpAnyH_ready (rs := [2]) (by kernel_rfl) (by simp) ?_
    refine AllReadyH.cons rfl (fun K hK => ?_) AllReadyH.nil
    obtain ⟨z0, z1, z2, z3, _, _⟩ := B_q2.out
    go_simp
    refine hK.out _ _ trivial (fun _ => ?_)
    clear hK K z0 z1 z2 z3
    try simp only [Act.put, ny1, ny2, ny3, ny4, ny5, ny6]
    refine wpAnyH_ready (rs := [3]) (by kernel_rfl) (by simp) ?_
    refine AllReadyH.cons rfl (fun K hK => ?_) AllReadyH.nil
    go_simp
    refine (HCb.out _).mono ?_
    rintro e wq3 ⟨rfl, hbc⟩
    have A_q3 := lhd (A_q2.out.below hbc A_q2.out.2.2.2.2.2)
    have B_q3 := lhd (B_q2.out.below hbc B_q2.out.2.2.2.2.2)
    have C_q3 := lhd (C_q2.out.below hbc C_q2.out.2.2.2.2.2)
    have Z_q3 := lhd (Z_q2.out.trans (hbc.mono Z_q2.out.size))
    dsimp only
    refine hK.out _ _ trivial (fun _ => ?_)
    clear hK K hbc
    try simp only [Act.put, ny1, ny2, ny3, ny4, ny5, ny6]
    refine wpAnyH_ready (rs := [4]) (by kernel_rfl) (by simp) ?_
    refine AllReadyH.cons rfl (fun K hK => ?_) AllReadyH.nil
    obtain ⟨z0, z1, z2, z3, zf, _⟩ := A_q3.out
    have zf0 := zf 0
    have zf1 := zf 1
    have zf2 := zf 2
    have zf3 := zf 3
    have A_q4 := lhd (A_q3.out.set4 (.bool N1.neg) (.string N1.mag) (.bool D1.neg) (.string D1.mag))
    have B_q4 := lhd (((((B_q3.out).far ⟨gA, 0, none⟩ (.bool N1.neg) nab).far ⟨gA, 1, none⟩ (.string N1.mag) nab).far ⟨gA, 2, none⟩ (.bool D1.neg) nab).far ⟨gA, 3, none⟩ (.string D1.mag) nab)
    have C_q4 := lhd (((((C_q3.out).far ⟨gA, 0, none⟩ (.bool N1.neg) nac).far ⟨gA, 1, none⟩ (.string N1.mag) nac).far ⟨gA, 2, none⟩ (.bool D1.neg) nac).far ⟨gA, 3, none⟩ (.string D1.mag) nac)
    have Z_q4 := lhd (((((Z_q3.out).setCell (p := ⟨gA, 0, none⟩) lA (.bool N1.neg)).setCell (p := ⟨gA, 1, none⟩) lA (.string N1.mag)).setCell (p := ⟨gA, 2, none⟩) lA (.bool D1.neg)).setCell (p := ⟨gA, 3, none⟩) lA (.string D1.mag))
    go_simp
    refine hK.out _ _ trivial (fun _ => ?_)
    clear hK K z0 z1 z2 z3 zf zf0 zf1 zf2 zf3
    try simp only [Act.put, ny1, ny2, ny3, ny4, ny5, ny6]
    refine wpAnyH_ready (rs := [5]) (by kernel_rfl) (by simp) ?_
    refine AllReadyH.cons rfl (fun K hK => ?_) AllReadyH.nil
    obtain ⟨z0, z1, z2, z3, zf, _⟩ := B_q4.out
    have zf0 := zf 0
    have zf1 := zf 1
    have zf2 := zf 2
    have zf3 := zf 3
    have A_q5 := lhd (((((A_q4.out).far ⟨gB, 0, none⟩ (.bool N2.neg) nba).far ⟨gB, 1, none⟩ (.string N2.mag) nba).far ⟨gB, 2, none⟩ (.bool D2.neg) nba).far ⟨gB, 3, none⟩ (.string D2.mag) nba)
    have B_q5 := lhd (B_q4.out.set4 (.bool N2.neg) (.string N2.mag) (.bool D2.neg) (.string D2.mag))
    have C_q5 := lhd (((((C_q4.out).far ⟨gB, 0, none⟩ (.bool N2.neg) nbc).far ⟨gB, 1, none⟩ (.string N2.mag) nbc).far ⟨gB, 2, none⟩ (.bool D2.neg) nbc).far ⟨gB, 3, none⟩ (.string D2.mag) nbc)
    have Z_q5 := lhd (((((Z_q4.out).setCell (p := ⟨gB, 0, none⟩) lB (.bool N2.neg)).setCell (p := ⟨gB, 1, none⟩) lB (.string N2.mag)).setCell (p := ⟨gB, 2, none⟩) lB (.bool D2.neg)).setCell (p := ⟨gB, 3, none⟩) lB (.string D2.mag))
    go_simp
    refine hK.out _ _ trivial (fun _ => ?_)
    clear hK K z0 z1 z2 z3 zf zf0 zf1 zf2 zf3
    refine wpAnyH_done (by kernel_rfl) ?_ _
    go_wp2_with fail
    go_meet
    exact ⟨A_q5, B_q5, C_q5, Z_q5⟩
   ·obtain ⟨z0, z1, z2, z3, _, _⟩ := B_q1.out
    go_simp
    refine hK.out _ _ trivial (fun _ => ?_)
    clear hK K z0 z1 z2 z3
    try simp only [Act.put, ny1, ny2, ny3, ny4, ny5, ny6]
    refine wpAnyH_ready (rs := [1]) (by kernel_rfl) (by simp) ?_
    refine AllReadyH.cons rfl (fun K hK => ?_) AllReadyH.nil
    go_simp
    refine (HCa.out _).mono ?_
    rintro e wq6 ⟨rfl, hbc⟩
    have A_q6 := lhd (A_q1.out.below hbc A_q1.out.2.2.2.2.2)
    have B_q6 := lhd (B_q1.out.below hbc B_q1.out.2.2.2.2.2)
    have C_q6 := lhd (C_q1.out.below hbc C_q1.out.2.2.2.2.2)
    have Z_q6 := lhd (Z_q1.out.trans (hbc.mono Z_q1.out.size))
    dsimp only
    refine hK.out _ _ trivial (fun _ => ?_)
    clear hK K hbc
    try simp only [Act.put, ny1, ny2, ny3, ny4, ny5, ny6]
    refine wpAnyH_ready (rs := [3]) (by kernel_rfl) (by simp) ?_
    refine AllReadyH.cons rfl (fun K hK => ?_) AllReadyH.nil
    go_simp
    refine (HCb.out _).mono ?_
    rintro e wq7 ⟨rfl, hbc⟩
    have A_q7 := lhd (A_q6.out.below hbc A_q6.out.2.2.2.2.2)
    have B_q7 := lhd (B_q6.out.below hbc B_q6.out.2.2.2.2.2)
    have C_q7 := lhd (C_q6.out.below hbc C_q6.out.2.2.2.2.2)
    have Z_q7 := lhd (Z_q6.out.trans (hbc.mono Z_q6.out.size))
    dsimp only
    refine hK.out _ _ trivial (fun _ => ?_)
    clear hK K hbc
    try simp only [Act.put, ny1, ny2, ny3, ny4, ny5, ny6]
    refine wpAnyH_ready (rs := [4]) (by kernel_rfl) (by simp) ?_
    refine AllReadyH.cons rfl (fun K hK => ?_) AllReadyH.nil
    obtain ⟨z0, z1, z2, z3, zf, _⟩ := A_q7.out
    have zf0 := zf 0
    have zf1 := zf 1
    have zf2 := zf 2
    have zf3 := zf 3
    have A_q8 := lhd (A_q7.out.set4 (.bool N1.neg) (.string N1.mag) (.bool D1.neg) (.string D1.mag))
    have B_q8 := lhd (((((B_q7.out).far ⟨gA, 0, none⟩ (.bool N1.neg) nab).far ⟨gA, 1, none⟩ (.string N1.mag) nab).far ⟨gA, 2, none⟩ (.bool D1.neg) nab).far ⟨gA, 3, none⟩ (.string D1.mag) nab)
    have C_q8 := lhd (((((C_q7.out).far ⟨gA, 0, none⟩ (.bool N1.neg) nac).far ⟨gA, 1, none⟩ (.string N1.mag) nac).far ⟨gA, 2, none⟩ (.bool D1.neg) nac).far ⟨gA, 3, none⟩ (.string D1.mag) nac)
    have Z_q8 := lhd (((((Z_q7.out).setCell (p := ⟨gA, 0, none⟩) lA (.bool N1.neg)).setCell (p := ⟨gA, 1, none⟩) lA (.string N1.mag)).setCell (p := ⟨gA, 2, none⟩) lA (.bool D1.neg)).setCell (p := ⟨gA, 3, none⟩) lA (.string D1.mag))
    go_simp
    refine hK.out _ _ trivial (fun _ => ?_)
    clear hK K z0 z1 z2 z3 zf zf0 zf1 zf2 zf3
    try simp only [Act.put, ny1, ny2, ny3, ny4, ny5, ny6]
    refine wpAnyH_ready (rs := [5]) (by kernel_rfl) (by simp) ?_
    refine AllReadyH.cons rfl (fun K hK => ?_) AllReadyH.nil
    obtain ⟨z0, z1, z2, z3, zf, _⟩ := B_q8.out
    have zf0 := zf 0
    have zf1 := zf 1
    have zf2 := zf 2
    have zf3 := zf 3
    have A_q9 := lhd (((((A_q8.out).far ⟨gB, 0, none⟩ (.bool N2.neg) nba).far ⟨gB, 1, none⟩ (.string N2.mag) nba).far ⟨gB, 2, none⟩ (.bool D2.neg) nba).far ⟨gB, 3, none⟩ (.string D2.mag) nba)
    have B_q9 := lhd (B_q8.out.set4 (.bool N2.neg) (.string N2.mag) (.bool D2.neg) (.string D2.mag))
    have C_q9 := lhd (((((C_q8.out).far ⟨gB, 0, none⟩ (.bool N2.neg) nbc).far ⟨gB, 1, none⟩ (.string N2.mag) nbc).far ⟨gB, 2, none⟩ (.bool D2.neg) nbc).far ⟨gB, 3, none⟩ (.string D2.mag) nbc)
    have Z_q9 := lhd (((((Z_q8.out).setCell (p := ⟨gB, 0, none⟩) lB (.bool N2.neg)).setCell (p := ⟨gB, 1, none⟩) lB (.string N2.mag)).setCell (p := ⟨gB, 2, none⟩) lB (.bool D2.neg)).setCell (p := ⟨gB, 3, none⟩) lB (.string D2.mag))
    go_simp
    refine hK.out _ _ trivial (fun _ => ?_)
    clear hK K z0 z1 z2 z3 zf zf0 zf1 zf2 zf3
    refine wpAnyH_done (by kernel_rfl) ?_ _
    go_wp2_with fail
    go_meet
    exact ⟨A_q9, B_q9, C_q9, Z_q9⟩
  ·obtain ⟨z0, z1, z2, z3, _, _⟩ := B_q1.out
   go_simp
   refine hK.out _ _ trivial (fun _ => ?_)
   clear hK K z0 z1 z2 z3
   try simp only [Act.put, ny1, ny2, ny3, ny4, ny5, ny6]
   refine wpAnyH_ready (rs := [0]) (by kernel_rfl) (by simp) ?_
   refine AllReadyH.cons rfl (fun K hK => ?_) AllReadyH.nil
   obtain ⟨z0, z1, z2, z3, _, _⟩ := A_q1.out
   go_simp
   refine hK.out _ _ trivial (fun _ => ?_)
   clear hK K z0 z1 z2 z3
   try simp only [Act.put, ny1, ny2, ny3, ny4, ny5, ny6]
   refine wpAnyH_ready (rs := [1]) (by kernel_rfl) (by simp) ?_
   refine AllReadyH.cons rfl (fun K hK => ?_) AllReadyH.nil
   go_simp
   refine (HCa.out _).mono ?_
   rintro e wq10 ⟨rfl, hbc⟩
   have A_q10 := lhd (A_q1.out.below hbc A_q1.out.2.2.2.2.2)
   have B_q10 := lhd (B_q1.out.below hbc B_q1.out.2.2.2.2.2)
   have C_q10 := lhd (C_q1.out.below hbc C_q1.out.2.2.2.2.2)
   have Z_q10 := lhd (Z_q1.out.trans (hbc.mono Z_q1.out.size))
   dsimp only
   refine hK.out _ _ trivial (fun _ => ?_)
   clear hK K hbc
   try simp only [Act.put, ny1, ny2, ny3, ny4, ny5, ny6]
   refine wpAnyH_ready (rs := [3]) (by kernel_rfl) (by simp) ?_
   refine AllReadyH.cons rfl (fun K hK => ?_) AllReadyH.nil
   go_simp
   refine (HCb.out _).mono ?_
   rintro e wq11 ⟨rfl, hbc⟩
   have A_q11 := lhd (A_q10.out.below hbc A_q10.out.2.2.2.2.2)
   have B_q11 := lhd (B_q10.out.below hbc B_q10.out.2.2.2.2.2)
   have C_q11 := lhd (C_q10.out.below hbc C_q10.out.2.2.2.2.2)
   have Z_q11 := lhd (Z_q10.out.trans (hbc.mono Z_q10.out.size))
   dsimp only
   refine hK.out _ _ trivial (fun _ => ?_)
   clear hK K hbc
   try simp only [Act.put, ny1, ny2, ny3, ny4, ny5, ny6]
   refine wpAnyH_ready (rs := [4]) (by kernel_rfl) (by simp) ?_
   refine AllReadyH.cons rfl (fun K hK => ?_) AllReadyH.nil
   obtain ⟨z0, z1, z2, z3, zf, _⟩ := A_q11.out
   have zf0 := zf 0
   have zf1 := zf 1
   have zf2 := zf 2
   have zf3 := zf 3
   have A_q12 := lhd (A_q11.out.set4 (.bool N1.neg) (.string N1.mag) (.bool D1.neg) (.string D1.mag))
   have B_q12 := lhd (((((B_q11.out).far ⟨gA, 0, none⟩ (.bool N1.neg) nab).far ⟨gA, 1, none⟩ (.string N1.mag) nab).far ⟨gA, 2, none⟩ (.bool D1.neg) nab).far ⟨gA, 3, none⟩ (.string D1.mag) nab)
   have C_q12 := lhd (((((C_q11.out).far ⟨gA, 0, none⟩ (.bool N1.neg) nac).far ⟨gA, 1, none⟩ (.string N1.mag) nac).far ⟨gA, 2, none⟩ (.bool D1.neg) nac).far ⟨gA, 3, none⟩ (.string D1.mag) nac)
   have Z_q12 := lhd (((((Z_q11.out).setCell (p := ⟨gA, 0, none⟩) lA (.bool N1.neg)).setCell (p := ⟨gA, 1, none⟩) lA (.string N1.mag)).setCell (p := ⟨gA, 2, none⟩) lA (.bool D1.neg)).setCell (p := ⟨gA, 3, none⟩) lA (.string D1.mag))
   go_simp
   refine hK.out _ _ trivial (fun _ => ?_)
   clear hK K z0 z1 z2 z3 zf zf0 zf1 zf2 zf3
   try simp only [Act.put, ny1, ny2, ny3, ny4, ny5, ny6]
   refine wpAnyH_ready (rs := [5]) (by kernel_rfl) (by simp) ?_
   refine AllReadyH.cons rfl (fun K hK => ?_) AllReadyH.nil
   obtain ⟨z0, z1, z2, z3, zf, _⟩ := B_q12.out
   have zf0 := zf 0
   have zf1 := zf 1
   have zf2 := zf 2
   have zf3 := zf 3
   have A_q13 := lhd (((((A_q12.out).far ⟨gB, 0, none⟩ (.bool N2.neg) nba).far ⟨gB, 1, none⟩ (.string N2.mag) nba).far ⟨gB, 2, none⟩ (.bool D2.neg) nba).far ⟨gB, 3, none⟩ (.string D2.mag) nba)
   have B_q13 := lhd (B_q12.out.set4 (.bool N2.neg) (.string N2.mag) (.bool D2.neg) (.string D2.mag))
   have C_q13 := lhd (((((C_q12.out).far ⟨gB, 0, none⟩ (.bool N2.neg) nbc).far ⟨gB, 1, none⟩ (.string N2.mag) nbc).far ⟨gB, 2, none⟩ (.bool D2.neg) nbc).far ⟨gB, 3, none⟩ (.string D2.mag) nbc)
   have Z_q13 := lhd (((((Z_q12.out).setCell (p := ⟨gB, 0, none⟩) lB (.bool N2.neg)).setCell (p := ⟨gB, 1, none⟩) lB (.string N2.mag)).setCell (p := ⟨gB, 2, none⟩) lB (.bool D2.neg)).setCell (p := ⟨gB, 3, none⟩) lB (.string D2.mag))
   go_simp
   refine hK.out _ _ trivial (fun _ => ?_)
   clear hK K z0 z1 z2 z3 zf zf0 zf1 zf2 zf3
   refine wpAnyH_done (by kernel_rfl) ?_ _
   go_wp2_with fail
   go_meet
   exact ⟨A_q13, B_q13, C_q13, Z_q13⟩
 case rest =>
  obtain ⟨HA, HB, HC, HZ⟩ := hcut
  clear HCa HCb
  go_upto_region 2 with (fail)
  go_cut [5] (fun v wx => ∃ gX : Nat, v = .pointer (some ⟨gX, 0, none⟩) ∧ Hid (BoxAt wx gX (.bool PN.neg) (.string PN.mag)) ∧ Hid (Box4 wx gA (.bool N1.neg) (.string N1.mag) (.bool D1.neg) (.string D1.mag)) ∧ Hid (Box4 wx gB (.bool N2.neg) (.string N2.mag) (.bool D2.neg) (.string D2.mag)) ∧ Hid (Box4 wx gC (.bool false) (.string ⟨#[]⟩) (.bool false) (.string ⟨#[]⟩)) ∧ Hid (Below w.heap.size w wx) ∧ Hid (gC ≠ gX))
  case first =>
   obtain ⟨SS, hSe⟩ : ∃ SS : World → Prop, SS = fun W => Box4 W gA (.bool N1.neg) (.string N1.mag) (.bool D1.neg) (.string D1.mag) ∧ Box4 W gB (.bool N2.neg) (.string N2.mag) (.bool D2.neg) (.string D2.mag) := ⟨_, rfl⟩
   have hSm : Hid (∀ W, (Box4 W gA (.bool N1.neg) (.string N1.mag) (.bool D1.neg) (.string D1.mag) ∧ Box4 W gB (.bool N2.neg) (.string N2.mag) (.bool D2.neg) (.string D2.mag)) → SS W) := lhd (fun W hW => by rw [hSe]; exact hW)
   refine wp_region_held_drew (S := SS) (by kernel_rfl) (hSm.out _ ⟨Box4.drw HA.out, Box4.drw HB.out⟩) (fun _ => ?_)
   have A_q1 := lhd (Box4.drw HA.out)
   have B_q1 := lhd (Box4.drw HB.out)
   have C_q1 := lhd (Box4.drw HC.out)
   have D_q1 := lhd (HZ.out.drew)
   generalize wc.drew = wd at *
   refine wpAnyH_take (i := 0) (v := ?_) rfl (by kernel_rfl) (by kernel_rfl) (by kernel_rfl) (fun _ _ _ h => h) (Or.inl ⟨by rfl, ?_⟩) (hSm.out _ ⟨A_q1.out, B_q1.out⟩) ?_
   rotate_left 1
   next => intro w hSw; rw [hSe] at hSw; obtain ⟨⟨u00, u01, u02, u03, _, _⟩, ⟨u10, u11, u12, u13, _, _⟩⟩ := hSw; go_simp; try with_reducible rfl
   try simp only [Act.put, ny1, ny2, ny3, ny4, ny5, ny6]
   refine wpAnyH_take (i := 1) (v := ?_) rfl (by kernel_rfl) (by kernel_rfl) (by kernel_rfl) (fun _ _ _ h => h) (Or.inl ⟨by rfl, ?_⟩) (hSm.out _ ⟨A_q1.out, B_q1.out⟩) ?_
   rotate_left 1
   next => intro w hSw; rw [hSe] at hSw; obtain ⟨⟨u00, u01, u02, u03, _, _⟩, ⟨u10, u11, u12, u13, _, _⟩⟩ := hSw; go_simp; try with_reducible rfl
   try simp only [Act.put, ny1, ny2, ny3, ny4, ny5, ny6]
   refine wpAnyH_take (i := 2) (v := ?_) rfl (by kernel_rfl) (by kernel_rfl) (by kernel_rfl) (fun _ _ _ h => h) (Or.inl ⟨by rfl, ?_⟩) (hSm.out _ ⟨A_q1.out, B_q1.out⟩) ?_
   rotate_left 1
   next => intro w hSw; rw [hSe] at hSw; obtain ⟨⟨u00, u01, u02, u03, _, _⟩, ⟨u10, u11, u12, u13, _, _⟩⟩ := hSw; go_simp; try with_reducible rfl
   try simp only [Act.put, ny1, ny2, ny3, ny4, ny5, ny6]
   refine wpAnyH_take (i := 3) (v := ?_) rfl (by kernel_rfl) (by kernel_rfl) (by kernel_rfl) (fun _ _ _ h => h) (Or.inl ⟨by rfl, ?_⟩) (hSm.out _ ⟨A_q1.out, B_q1.out⟩) ?_
   rotate_left 1
   next => intro w hSw; rw [hSe] at hSw; obtain ⟨⟨u00, u01, u02, u03, _, _⟩, ⟨u10, u11, u12, u13, _, _⟩⟩ := hSw; go_simp; try with_reducible rfl
   try simp only [Act.put, ny1, ny2, ny3, ny4, ny5, ny6]
   refine wpAnyH_take (i := 5) (v := ?_) rfl (by kernel_rfl) (by kernel_rfl) (by kernel_rfl) (fun _ _ _ h => h) (Or.inl ⟨by rfl, ?_⟩) (hSm.out _ ⟨A_q1.out, B_q1.out⟩) ?_
   rotate_left 1
   next => intro w hSw; rw [hSe] at hSw; obtain ⟨⟨u00, u01, u02, u03, _, _⟩, ⟨u10, u11, u12, u13, _, _⟩⟩ := hSw; go_simp; try with_reducible rfl
   try simp only [Act.put, ny1, ny2, ny3, ny4, ny5, ny6]
   refine wpAnyH_take (i := 6) (v := ?_) rfl (by kernel_rfl) (by kernel_rfl) (by kernel_rfl) (fun _ _ _ h => h) (Or.inl ⟨by rfl, ?_⟩) (hSm.out _ ⟨A_q1.out, B_q1.out⟩) ?_
   rotate_left 1
   next => intro w hSw; rw [hSe] at hSw; obtain ⟨⟨u00, u01, u02, u03, _, _⟩, ⟨u10, u11, u12, u13, _, _⟩⟩ := hSw; go_simp; try with_reducible rfl
   try simp only [Act.put, ny1, ny2, ny3, ny4, ny5, ny6]
   refine wpAnyH_take (i := 7) (v := ?_) rfl (by kernel_rfl) (by kernel_rfl) (by kernel_rfl) (fun _ _ _ h => h) (Or.inl ⟨by rfl, ?_⟩) (hSm.out _ ⟨A_q1.out, B_q1.out⟩) ?_
   rotate_left 1
   next => intro w hSw; rw [hSe] at hSw; obtain ⟨⟨u00, u01, u02, u03, _, _⟩, ⟨u10, u11, u12, u13, _, _⟩⟩ := hSw; go_simp; try with_reducible rfl
   try simp only [Act.put, ny1, ny2, ny3, ny4, ny5, ny6]
   refine wpAnyH_take (i := 8) (v := ?_) rfl (by kernel_rfl) (by kernel_rfl) (by kernel_rfl) (fun _ _ _ h => h) (Or.inl ⟨by rfl, ?_⟩) (hSm.out _ ⟨A_q1.out, B_q1.out⟩) ?_
   rotate_left 1
   next => intro w hSw; rw [hSe] at hSw; obtain ⟨⟨u00, u01, u02, u03, _, _⟩, ⟨u10, u11, u12, u13, _, _⟩⟩ := hSw; go_simp; try with_reducible rfl
   try simp only [Act.put, ny1, ny2, ny3, ny4, ny5, ny6]
   refine wpAnyH_ready (rs := [4, 11]) (by kernel_rfl) (by simp) ?_
   refine AllReadyH.cons rfl (fun K hK => ?_) (AllReadyH.cons rfl (fun K hK => ?_) AllReadyH.nil)
   ·go_simp
    refine (HM1.out _).mono ?_
    rintro e wq2 ⟨rfl, hbc⟩
    have A_q2 := lhd (A_q1.out.below hbc A_q1.out.2.2.2.2.2)
    have B_q2 := lhd (B_q1.out.below hbc B_q1.out.2.2.2.2.2)
    have C_q2 := lhd (C_q1.out.below hbc C_q1.out.2.2.2.2.2)
    have D_q2 := lhd (D_q1.out.trans (hbc.mono D_q1.out.size))
    dsimp only
    refine hK.out _ _ (hSm.out _ ⟨A_q2.out, B_q2.out⟩) (fun _ => ?_)
    clear hK K hbc
    try simp only [Act.put, ny1, ny2, ny3, ny4, ny5, ny6]
    refine wpAnyH_ready (rs := [9, 11]) (by kernel_rfl) (by simp) ?_
    refine AllReadyH.cons rfl (fun K hK => ?_) (AllReadyH.cons rfl (fun K hK => ?_) AllReadyH.nil)
    ·go_simp
     refine (HM2.out _).mono ?_
     rintro e wq3 ⟨rfl, hbc⟩
     have A_q3 := lhd (A_q2.out.below hbc A_q2.out.2.2.2.2.2)
     have B_q3 := lhd (B_q2.out.below hbc B_q2.out.2.2.2.2.2)
     have C_q3 := lhd (C_q2.out.below hbc C_q2.out.2.2.2.2.2)
     have D_q3 := lhd (D_q2.out.trans (hbc.mono D_q2.out.size))
     dsimp only
     refine hK.out _ _ (hSm.out _ ⟨A_q3.out, B_q3.out⟩) (fun _ => ?_)
     clear hK K hbc
     try simp only [Act.put, ny1, ny2, ny3, ny4, ny5, ny6]
     refine wpAnyH_ready (rs := [10, 11]) (by kernel_rfl) (by simp) ?_
     refine AllReadyH.cons rfl (fun K hK => ?_) (AllReadyH.cons rfl (fun K hK => ?_) AllReadyH.nil)
     ·go_simp
      refine (HAd.out _).mono ?_
      rintro e wq4 ⟨rfl, hbc⟩
      have A_q4 := lhd (A_q3.out.below hbc A_q3.out.2.2.2.2.2)
      have B_q4 := lhd (B_q3.out.below hbc B_q3.out.2.2.2.2.2)
      have C_q4 := lhd (C_q3.out.below hbc C_q3.out.2.2.2.2.2)
      have D_q4 := lhd (D_q3.out.trans (hbc.mono D_q3.out.size))
      dsimp only
      refine hK.out _ _ (hSm.out _ ⟨A_q4.out, B_q4.out⟩) (fun _ => ?_)
      clear hK K hbc
      try simp only [Act.put, ny1, ny2, ny3, ny4, ny5, ny6]
      refine wpAnyH_ready (rs := [11]) (by kernel_rfl) (by simp) ?_
      refine AllReadyH.cons rfl (fun K hK => ?_) AllReadyH.nil
      go_simp
      have hbx := BoxAt.new wq4 (.bool false) (.string ⟨#[]⟩) 24
      have hbc := (Below.refl wq4.heap.size wq4).alloc (Nat.le_refl _) (.cells #[.bool false, .string ⟨#[]⟩] 24)
      obtain ⟨gX, hgX⟩ : ∃ k, wq4.heap.size = k := ⟨_, rfl⟩
      have leX : w.heap.size ≤ gX := by rw [← hgX]; exact D_q4.out.size
      have nXA : gX ≠ gA := by rw [← hgX]; have := A_q4.out.2.2.2.2.2; omega
      have nXA' : gA ≠ gX := fun h => nXA h.symm
      have A_q5 := lhd (A_q4.out.below hbc A_q4.out.2.2.2.2.2)
      have nXB : gX ≠ gB := by rw [← hgX]; have := B_q4.out.2.2.2.2.2; omega
      have nXB' : gB ≠ gX := fun h => nXB h.symm
      have B_q5 := lhd (B_q4.out.below hbc B_q4.out.2.2.2.2.2)
      have nXC : gX ≠ gC := by rw [← hgX]; have := C_q4.out.2.2.2.2.2; omega
      have nXC' : gC ≠ gX := fun h => nXC h.symm
      have C_q5 := lhd (C_q4.out.below hbc C_q4.out.2.2.2.2.2)
      have D_q5 := lhd (D_q4.out.trans (hbc.mono D_q4.out.size))
      refine hK.out _ _ (hSm.out _ ⟨A_q5.out, B_q5.out⟩) (fun _ => ?_)
      clear hK K hbc
      rw [hgX] at hbx ⊢
      clear hgX
      generalize wq4.alloc (.cells #[.bool false, .string ⟨#[]⟩] 24) = wq5 at *
      have X_q5 := lhd hbx
      clear hbx
      try simp only [Act.put, ny1, ny2, ny3, ny4, ny5, ny6]
      refine wpAnyH_ready (rs := [12]) (by kernel_rfl) (by simp) ?_
      refine AllReadyH.cons rfl (fun K hK => ?_) AllReadyH.nil
      obtain ⟨z0, z1, z2, z3, _⟩ := X_q5.out
      have A_q6 := lhd (((A_q5.out).far ⟨gX, 0, none⟩ (.bool PN.neg) nXA).far ⟨gX, 1, none⟩ (.string PN.mag) nXA)
      have B_q6 := lhd (((B_q5.out).far ⟨gX, 0, none⟩ (.bool PN.neg) nXB).far ⟨gX, 1, none⟩ (.string PN.mag) nXB)
      have C_q6 := lhd (((C_q5.out).far ⟨gX, 0, none⟩ (.bool PN.neg) nXC).far ⟨gX, 1, none⟩ (.string PN.mag) nXC)
      have D_q6 := lhd (((D_q5.out).setCell (p := ⟨gX, 0, none⟩) leX (.bool PN.neg)).setCell (p := ⟨gX, 1, none⟩) leX (.string PN.mag))
      have X_q6 := lhd (X_q5.out.set2 (.bool PN.neg) (.string PN.mag))
      go_simp
      refine hK.out _ _ (hSm.out _ ⟨A_q6.out, B_q6.out⟩) (fun _ => ?_)
      clear hK K z0 z1 z2 z3
      refine wpAnyH_done (by kernel_rfl) ?_ _
      go_wp2_with fail
      go_meet
      exact ⟨gX, rfl, X_q6, A_q6, B_q6, C_q6, D_q6, lhd nXC'⟩
     ·go_simp
      have hbx := BoxAt.new wq3 (.bool false) (.string ⟨#[]⟩) 24
      have hbc := (Below.refl wq3.heap.size wq3).alloc (Nat.le_refl _) (.cells #[.bool false, .string ⟨#[]⟩] 24)
      obtain ⟨gX, hgX⟩ : ∃ k, wq3.heap.size = k := ⟨_, rfl⟩
      have leX : w.heap.size ≤ gX := by rw [← hgX]; exact D_q3.out.size
      have nXA : gX ≠ gA := by rw [← hgX]; have := A_q3.out.2.2.2.2.2; omega
      have nXA' : gA ≠ gX := fun h => nXA h.symm
      have A_q7 := lhd (A_q3.out.below hbc A_q3.out.2.2.2.2.2)
      have nXB : gX ≠ gB := by rw [← hgX]; have := B_q3.out.2.2.2.2.2; omega
      have nXB' : gB ≠ gX := fun h => nXB h.symm
      have B_q7 := lhd (B_q3.out.below hbc B_q3.out.2.2.2.2.2)
      have nXC : gX ≠ gC := by rw [← hgX]; have := C_q3.out.2.2.2.2.2; omega
      have nXC' : gC ≠ gX := fun h => nXC h.symm
      have C_q7 := lhd (C_q3.out.below hbc C_q3.out.2.2.2.2.2)
      have D_q7 := lhd (D_q3.out.trans (hbc.mono D_q3.out.size))
      refine hK.out _ _ (hSm.out _ ⟨A_q7.out, B_q7.out⟩) (fun _ => ?_)
      clear hK K hbc
      rw [hgX] at hbx ⊢
      clear hgX
      generalize wq3.alloc (.cells #[.bool false, .string ⟨#[]⟩] 24) = wq7 at *
      have X_q7 := lhd hbx
      clear hbx
      try simp only [Act.put, ny1, ny2, ny3, ny4, ny5, ny6]
      refine wpAnyH_ready (rs := [10]) (by kernel_rfl) (by simp) ?_
      refine AllReadyH.cons rfl (fun K hK => ?_) AllReadyH.nil
      go_simp
      refine (HAd.out _).mono ?_
      rintro e wq8 ⟨rfl, hbc⟩
      have A_q8 := lhd (A_q7.out.below hbc A_q7.out.2.2.2.2.2)
      have B_q8 := lhd (B_q7.out.below hbc B_q7.out.2.2.2.2.2)
      have C_q8 := lhd (C_q7.out.below hbc C_q7.out.2.2.2.2.2)
      have D_q8 := lhd (D_q7.out.trans (hbc.mono D_q7.out.size))
      have X_q8 := lhd (X_q7.out.below hbc X_q7.out.2.2.2.2)
      dsimp only
      refine hK.out _ _ (hSm.out _ ⟨A_q8.out, B_q8.out⟩) (fun _ => ?_)
      clear hK K hbc
      try simp only [Act.put, ny1, ny2, ny3, ny4, ny5, ny6]
      refine wpAnyH_ready (rs := [12]) (by kernel_rfl) (by simp) ?_
      refine AllReadyH.cons rfl (fun K hK => ?_) AllReadyH.nil
      obtain ⟨z0, z1, z2, z3, _⟩ := X_q8.out
      have A_q9 := lhd (((A_q8.out).far ⟨gX, 0, none⟩ (.bool PN.neg) nXA).far ⟨gX, 1, none⟩ (.string PN.mag) nXA)
      have B_q9 := lhd (((B_q8.out).far ⟨gX, 0, none⟩ (.bool PN.neg) nXB).far ⟨gX, 1, none⟩ (.string PN.mag) nXB)
      have C_q9 := lhd (((C_q8.out).far ⟨gX, 0, none⟩ (.bool PN.neg) nXC).far ⟨gX, 1, none⟩ (.string PN.mag) nXC)
      have D_q9 := lhd (((D_q8.out).setCell (p := ⟨gX, 0, none⟩) leX (.bool PN.neg)).setCell (p := ⟨gX, 1, none⟩) leX (.string PN.mag))
      have X_q9 := lhd (X_q8.out.set2 (.bool PN.neg) (.string PN.mag))
      go_simp
      refine hK.out _ _ (hSm.out _ ⟨A_q9.out, B_q9.out⟩) (fun _ => ?_)
      clear hK K z0 z1 z2 z3
      refine wpAnyH_done (by kernel_rfl) ?_ _
      go_wp2_with fail
      go_meet
      exact ⟨gX, rfl, X_q9, A_q9, B_q9, C_q9, D_q9, lhd nXC'⟩
    ·go_simp
     have hbx := BoxAt.new wq2 (.bool false) (.string ⟨#[]⟩) 24
     have hbc := (Below.refl wq2.heap.size wq2).alloc (Nat.le_refl _) (.cells #[.bool false, .string ⟨#[]⟩] 24)
     obtain ⟨gX, hgX⟩ : ∃ k, wq2.heap.size = k := ⟨_, rfl⟩
     have leX : w.heap.size ≤ gX := by rw [← hgX]; exact D_q2.out.size
     have nXA : gX ≠ gA := by rw [← hgX]; have := A_q2.out.2.2.2.2.2; omega
     have nXA' : gA ≠ gX := fun h => nXA h.symm
     have A_q10 := lhd (A_q2.out.below hbc A_q2.out.2.2.2.2.2)
     have nXB : gX ≠ gB := by rw [← hgX]; have := B_q2.out.2.2.2.2.2; omega
     have nXB' : gB ≠ gX := fun h => nXB h.symm
     have B_q10 := lhd (B_q2.out.below hbc B_q2.out.2.2.2.2.2)
     have nXC : gX ≠ gC := by rw [← hgX]; have := C_q2.out.2.2.2.2.2; omega
     have nXC' : gC ≠ gX := fun h => nXC h.symm
     have C_q10 := lhd (C_q2.out.below hbc C_q2.out.2.2.2.2.2)
     have D_q10 := lhd (D_q2.out.trans (hbc.mono D_q2.out.size))
     refine hK.out _ _ (hSm.out _ ⟨A_q10.out, B_q10.out⟩) (fun _ => ?_)
     clear hK K hbc
     rw [hgX] at hbx ⊢
     clear hgX
     generalize wq2.alloc (.cells #[.bool false, .string ⟨#[]⟩] 24) = wq10 at *
     have X_q10 := lhd hbx
     clear hbx
     try simp only [Act.put, ny1, ny2, ny3, ny4, ny5, ny6]
     refine wpAnyH_ready (rs := [9]) (by kernel_rfl) (by simp) ?_
     refine AllReadyH.cons rfl (fun K hK => ?_) AllReadyH.nil
     go_simp
     refine (HM2.out _).mono ?_
     rintro e wq11 ⟨rfl, hbc⟩
     have A_q11 := lhd (A_q10.out.below hbc A_q10.out.2.2.2.2.2)
     have B_q11 := lhd (B_q10.out.below hbc B_q10.out.2.2.2.2.2)
     have C_q11 := lhd (C_q10.out.below hbc C_q10.out.2.2.2.2.2)
     have D_q11 := lhd (D_q10.out.trans (hbc.mono D_q10.out.size))
     have X_q11 := lhd (X_q10.out.below hbc X_q10.out.2.2.2.2)
     dsimp only
     refine hK.out _ _ (hSm.out _ ⟨A_q11.out, B_q11.out⟩) (fun _ => ?_)
     clear hK K hbc
     try simp only [Act.put, ny1, ny2, ny3, ny4, ny5, ny6]
     refine wpAnyH_ready (rs := [10]) (by kernel_rfl) (by simp) ?_
     refine AllReadyH.cons rfl (fun K hK => ?_) AllReadyH.nil
     go_simp
     refine (HAd.out _).mono ?_
     rintro e wq12 ⟨rfl, hbc⟩
     have A_q12 := lhd (A_q11.out.below hbc A_q11.out.2.2.2.2.2)
     have B_q12 := lhd (B_q11.out.below hbc B_q11.out.2.2.2.2.2)
     have C_q12 := lhd (C_q11.out.below hbc C_q11.out.2.2.2.2.2)
     have D_q12 := lhd (D_q11.out.trans (hbc.mono D_q11.out.size))
     have X_q12 := lhd (X_q11.out.below hbc X_q11.out.2.2.2.2)
     dsimp only
     refine hK.out _ _ (hSm.out _ ⟨A_q12.out, B_q12.out⟩) (fun _ => ?_)
     clear hK K hbc
     try simp only [Act.put, ny1, ny2, ny3, ny4, ny5, ny6]
     refine wpAnyH_ready (rs := [12]) (by kernel_rfl) (by simp) ?_
     refine AllReadyH.cons rfl (fun K hK => ?_) AllReadyH.nil
     obtain ⟨z0, z1, z2, z3, _⟩ := X_q12.out
     have A_q13 := lhd (((A_q12.out).far ⟨gX, 0, none⟩ (.bool PN.neg) nXA).far ⟨gX, 1, none⟩ (.string PN.mag) nXA)
     have B_q13 := lhd (((B_q12.out).far ⟨gX, 0, none⟩ (.bool PN.neg) nXB).far ⟨gX, 1, none⟩ (.string PN.mag) nXB)
     have C_q13 := lhd (((C_q12.out).far ⟨gX, 0, none⟩ (.bool PN.neg) nXC).far ⟨gX, 1, none⟩ (.string PN.mag) nXC)
     have D_q13 := lhd (((D_q12.out).setCell (p := ⟨gX, 0, none⟩) leX (.bool PN.neg)).setCell (p := ⟨gX, 1, none⟩) leX (.string PN.mag))
     have X_q13 := lhd (X_q12.out.set2 (.bool PN.neg) (.string PN.mag))
     go_simp
     refine hK.out _ _ (hSm.out _ ⟨A_q13.out, B_q13.out⟩) (fun _ => ?_)
     clear hK K z0 z1 z2 z3
     refine wpAnyH_done (by kernel_rfl) ?_ _
     go_wp2_with fail
     go_meet
     exact ⟨gX, rfl, X_q13, A_q13, B_q13, C_q13, D_q13, lhd nXC'⟩
   ·go_simp
    have hbx := BoxAt.new wd (.bool false) (.string ⟨#[]⟩) 24
    have hbc := (Below.refl wd.heap.size wd).alloc (Nat.le_refl _) (.cells #[.bool false, .string ⟨#[]⟩] 24)
    obtain ⟨gX, hgX⟩ : ∃ k, wd.heap.size = k := ⟨_, rfl⟩
    have leX : w.heap.size ≤ gX := by rw [← hgX]; exact D_q1.out.size
    have nXA : gX ≠ gA := by rw [← hgX]; have := A_q1.out.2.2.2.2.2; omega
    have nXA' : gA ≠ gX := fun h => nXA h.symm
    have A_q14 := lhd (A_q1.out.below hbc A_q1.out.2.2.2.2.2)
    have nXB : gX ≠ gB := by rw [← hgX]; have := B_q1.out.2.2.2.2.2; omega
    have nXB' : gB ≠ gX := fun h => nXB h.symm
    have B_q14 := lhd (B_q1.out.below hbc B_q1.out.2.2.2.2.2)
    have nXC : gX ≠ gC := by rw [← hgX]; have := C_q1.out.2.2.2.2.2; omega
    have nXC' : gC ≠ gX := fun h => nXC h.symm
    have C_q14 := lhd (C_q1.out.below hbc C_q1.out.2.2.2.2.2)
    have D_q14 := lhd (D_q1.out.trans (hbc.mono D_q1.out.size))
    refine hK.out _ _ (hSm.out _ ⟨A_q14.out, B_q14.out⟩) (fun _ => ?_)
    clear hK K hbc
    rw [hgX] at hbx ⊢
    clear hgX
    generalize wd.alloc (.cells #[.bool false, .string ⟨#[]⟩] 24) = wq14 at *
    have X_q14 := lhd hbx
    clear hbx
    try simp only [Act.put, ny1, ny2, ny3, ny4, ny5, ny6]
    refine wpAnyH_ready (rs := [4]) (by kernel_rfl) (by simp) ?_
    refine AllReadyH.cons rfl (fun K hK => ?_) AllReadyH.nil
    go_simp
    refine (HM1.out _).mono ?_
    rintro e wq15 ⟨rfl, hbc⟩
    have A_q15 := lhd (A_q14.out.below hbc A_q14.out.2.2.2.2.2)
    have B_q15 := lhd (B_q14.out.below hbc B_q14.out.2.2.2.2.2)
    have C_q15 := lhd (C_q14.out.below hbc C_q14.out.2.2.2.2.2)
    have D_q15 := lhd (D_q14.out.trans (hbc.mono D_q14.out.size))
    have X_q15 := lhd (X_q14.out.below hbc X_q14.out.2.2.2.2)
    dsimp only
    refine hK.out _ _ (hSm.out _ ⟨A_q15.out, B_q15.out⟩) (fun _ => ?_)
    clear hK K hbc
    try simp only [Act.put, ny1, ny2, ny3, ny4, ny5, ny6]
    refine wpAnyH_ready (rs := [9]) (by kernel_rfl) (by simp) ?_
    refine AllReadyH.cons rfl (fun K hK => ?_) AllReadyH.nil
    go_simp
    refine (HM2.out _).mono ?_
    rintro e wq16 ⟨rfl, hbc⟩
    have A_q16 := lhd (A_q15.out.below hbc A_q15.out.2.2.2.2.2)
    have B_q16 := lhd (B_q15.out.below hbc B_q15.out.2.2.2.2.2)
    have C_q16 := lhd (C_q15.out.below hbc C_q15.out.2.2.2.2.2)
    have D_q16 := lhd (D_q15.out.trans (hbc.mono D_q15.out.size))
    have X_q16 := lhd (X_q15.out.below hbc X_q15.out.2.2.2.2)
    dsimp only
    refine hK.out _ _ (hSm.out _ ⟨A_q16.out, B_q16.out⟩) (fun _ => ?_)
    clear hK K hbc
    try simp only [Act.put, ny1, ny2, ny3, ny4, ny5, ny6]
    refine wpAnyH_ready (rs := [10]) (by kernel_rfl) (by simp) ?_
    refine AllReadyH.cons rfl (fun K hK => ?_) AllReadyH.nil
    go_simp
    refine (HAd.out _).mono ?_
    rintro e wq17 ⟨rfl, hbc⟩
    have A_q17 := lhd (A_q16.out.below hbc A_q16.out.2.2.2.2.2)
    have B_q17 := lhd (B_q16.out.below hbc B_q16.out.2.2.2.2.2)
    have C_q17 := lhd (C_q16.out.below hbc C_q16.out.2.2.2.2.2)
    have D_q17 := lhd (D_q16.out.trans (hbc.mono D_q16.out.size))
    have X_q17 := lhd (X_q16.out.below hbc X_q16.out.2.2.2.2)
    dsimp only
    refine hK.out _ _ (hSm.out _ ⟨A_q17.out, B_q17.out⟩) (fun _ => ?_)
    clear hK K hbc
    try simp only [Act.put, ny1, ny2, ny3, ny4, ny5, ny6]
    refine wpAnyH_ready (rs := [12]) (by kernel_rfl) (by simp) ?_
    refine AllReadyH.cons rfl (fun K hK => ?_) AllReadyH.nil
    obtain ⟨z0, z1, z2, z3, _⟩ := X_q17.out
    have A_q18 := lhd (((A_q17.out).far ⟨gX, 0, none⟩ (.bool PN.neg) nXA).far ⟨gX, 1, none⟩ (.string PN.mag) nXA)
    have B_q18 := lhd (((B_q17.out).far ⟨gX, 0, none⟩ (.bool PN.neg) nXB).far ⟨gX, 1, none⟩ (.string PN.mag) nXB)
    have C_q18 := lhd (((C_q17.out).far ⟨gX, 0, none⟩ (.bool PN.neg) nXC).far ⟨gX, 1, none⟩ (.string PN.mag) nXC)
    have D_q18 := lhd (((D_q17.out).setCell (p := ⟨gX, 0, none⟩) leX (.bool PN.neg)).setCell (p := ⟨gX, 1, none⟩) leX (.string PN.mag))
    have X_q18 := lhd (X_q17.out.set2 (.bool PN.neg) (.string PN.mag))
    go_simp
    refine hK.out _ _ (hSm.out _ ⟨A_q18.out, B_q18.out⟩) (fun _ => ?_)
    clear hK K z0 z1 z2 z3
    refine wpAnyH_done (by kernel_rfl) ?_ _
    go_wp2_with fail
    go_meet
    exact ⟨gX, rfl, X_q18, A_q18, B_q18, C_q18, D_q18, lhd nXC'⟩
  case rest =>
   obtain ⟨gX, rfl, HX, HA, HB, HC, HZ, HnX⟩ := hcut
   have ncx := HnX.out
   clear HnX HM1 HM2 HAd
   go_upto_region 3 with (fail)
   obtain ⟨SS, hSe⟩ : ∃ SS : World → Prop, SS = fun W => Box4 W gA (.bool N1.neg) (.string N1.mag) (.bool D1.neg) (.string D1.mag) ∧ Box4 W gB (.bool N2.neg) (.string N2.mag) (.bool D2.neg) (.string D2.mag) ∧ BoxAt W gX (.bool PN.neg) (.string PN.mag) := ⟨_, rfl⟩
   have hSm : Hid (∀ W, (Box4 W gA (.bool N1.neg) (.string N1.mag) (.bool D1.neg) (.string D1.mag) ∧ Box4 W gB (.bool N2.neg) (.string N2.mag) (.bool D2.neg) (.string D2.mag) ∧ BoxAt W gX (.bool PN.neg) (.string PN.mag)) → SS W) := lhd (fun W hW => by rw [hSe]; exact hW)
   refine wp_region_held_drew (S := SS) (by kernel_rfl) (hSm.out _ ⟨Box4.drw HA.out, Box4.drw HB.out, BoxAt.drw HX.out⟩) (fun _ => ?_)
   have A_q1 := lhd (Box4.drw HA.out)
   have B_q1 := lhd (Box4.drw HB.out)
   have C_q1 := lhd (Box4.drw HC.out)
   have Z_q1 := lhd (HZ.out.drew)
   have X_q1 := lhd (BoxAt.drw HX.out)
   refine wpAnyH_take (i := 0) (v := ?_) rfl (by kernel_rfl) (by kernel_rfl) (by kernel_rfl) (fun _ _ _ h => h) (Or.inl ⟨by rfl, ?_⟩) (hSm.out _ ⟨A_q1.out, B_q1.out, X_q1.out⟩) ?_
   rotate_left 1
   next => intro w hSw; rw [hSe] at hSw; obtain ⟨⟨u00, u01, u02, u03, _, _⟩, ⟨u10, u11, u12, u13, _, _⟩, ⟨u20, u21, _, _, _⟩⟩ := hSw; go_simp; try with_reducible rfl
   try simp only [Act.put, ny1, ny2, ny3, ny4, ny5, ny6]
   refine wpAnyH_take (i := 1) (v := ?_) rfl (by kernel_rfl) (by kernel_rfl) (by kernel_rfl) (fun _ _ _ h => h) (Or.inl ⟨by rfl, ?_⟩) (hSm.out _ ⟨A_q1.out, B_q1.out, X_q1.out⟩) ?_
   rotate_left 1
   next => intro w hSw; rw [hSe] at hSw; obtain ⟨⟨u00, u01, u02, u03, _, _⟩, ⟨u10, u11, u12, u13, _, _⟩, ⟨u20, u21, _, _, _⟩⟩ := hSw; go_simp; try with_reducible rfl
   try simp only [Act.put, ny1, ny2, ny3, ny4, ny5, ny6]
   refine wpAnyH_take (i := 2) (v := ?_) rfl (by kernel_rfl) (by kernel_rfl) (by kernel_rfl) (fun _ _ _ h => h) (Or.inl ⟨by rfl, ?_⟩) (hSm.out _ ⟨A_q1.out, B_q1.out, X_q1.out⟩) ?_
   rotate_left 1
   next => intro w hSw; rw [hSe] at hSw; obtain ⟨⟨u00, u01, u02, u03, _, _⟩, ⟨u10, u11, u12, u13, _, _⟩, ⟨u20, u21, _, _, _⟩⟩ := hSw; go_simp; try with_reducible rfl
   try simp only [Act.put, ny1, ny2, ny3, ny4, ny5, ny6]
   refine wpAnyH_take (i := 3) (v := ?_) rfl (by kernel_rfl) (by kernel_rfl) (by kernel_rfl) (fun _ _ _ h => h) (Or.inl ⟨by rfl, ?_⟩) (hSm.out _ ⟨A_q1.out, B_q1.out, X_q1.out⟩) ?_
   rotate_left 1
   next => intro w hSw; rw [hSe] at hSw; obtain ⟨⟨u00, u01, u02, u03, _, _⟩, ⟨u10, u11, u12, u13, _, _⟩, ⟨u20, u21, _, _, _⟩⟩ := hSw; go_simp; try with_reducible rfl
   try simp only [Act.put, ny1, ny2, ny3, ny4, ny5, ny6]
   refine wpAnyH_take (i := 4) (v := ?_) rfl (by kernel_rfl) (by kernel_rfl) (by kernel_rfl) (fun _ _ _ h => h) (Or.inl ⟨by rfl, ?_⟩) (hSm.out _ ⟨A_q1.out, B_q1.out, X_q1.out⟩) ?_
   rotate_left 1
   next => intro w hSw; rw [hSe] at hSw; obtain ⟨⟨u00, u01, u02, u03, _, _⟩, ⟨u10, u11, u12, u13, _, _⟩, ⟨u20, u21, _, _, _⟩⟩ := hSw; go_simp; try with_reducible rfl
   try simp only [Act.put, ny1, ny2, ny3, ny4, ny5, ny6]
   refine wpAnyH_ready (rs := [5]) (by kernel_rfl) (by simp) ?_
   refine AllReadyH.cons rfl (fun K hK => ?_) AllReadyH.nil
   go_simp
   refine (HM3.out _).mono ?_
   rintro e wq2 ⟨rfl, hbc⟩
   have A_q2 := lhd (A_q1.out.below hbc A_q1.out.2.2.2.2.2)
   have B_q2 := lhd (B_q1.out.below hbc B_q1.out.2.2.2.2.2)
   have C_q2 := lhd (C_q1.out.below hbc C_q1.out.2.2.2.2.2)
   have Z_q2 := lhd (Z_q1.out.trans (hbc.mono Z_q1.out.size))
   have X_q2 := lhd (X_q1.out.below hbc X_q1.out.2.2.2.2)
   dsimp only
   refine hK.out _ _ (hSm.out _ ⟨A_q2.out, B_q2.out, X_q2.out⟩) (fun _ => ?_)
   clear hK K hbc
   try simp only [Act.put, ny1, ny2, ny3, ny4, ny5, ny6]
   refine wpAnyH_ready (rs := [6]) (by kernel_rfl) (by simp) ?_
   refine AllReadyH.cons rfl (fun K hK => ?_) AllReadyH.nil
   go_simp
   refine (HL.out _).mono ?_
   rintro e wq3 ⟨rfl, hbc⟩
   have A_q3 := lhd (A_q2.out.below hbc A_q2.out.2.2.2.2.2)
   have B_q3 := lhd (B_q2.out.below hbc B_q2.out.2.2.2.2.2)
   have C_q3 := lhd (C_q2.out.below hbc C_q2.out.2.2.2.2.2)
   have Z_q3 := lhd (Z_q2.out.trans (hbc.mono Z_q2.out.size))
   have X_q3 := lhd (X_q2.out.below hbc X_q2.out.2.2.2.2)
   dsimp only
   refine hK.out _ _ (hSm.out _ ⟨A_q3.out, B_q3.out, X_q3.out⟩) (fun _ => ?_)
   clear hK K hbc
   try simp only [Act.put, ny1, ny2, ny3, ny4, ny5, ny6]
   refine wpAnyH_ready (rs := [7]) (by kernel_rfl) (by simp) ?_
   refine AllReadyH.cons rfl (fun K hK => ?_) AllReadyH.nil
   obtain ⟨z0, z1, z2, z3, zf, _⟩ := C_q3.out
   have zf0 := zf 0
   have zf1 := zf 1
   have zf2 := zf 2
   have zf3 := zf 3
   have A_q4 := lhd (((((A_q3.out).far ⟨gC, 0, none⟩ (.bool Q1.neg) nca).far ⟨gC, 1, none⟩ (.string Q1.mag) nca).far ⟨gC, 2, none⟩ (.bool Q2.neg) nca).far ⟨gC, 3, none⟩ (.string Q2.mag) nca)
   have B_q4 := lhd (((((B_q3.out).far ⟨gC, 0, none⟩ (.bool Q1.neg) ncb).far ⟨gC, 1, none⟩ (.string Q1.mag) ncb).far ⟨gC, 2, none⟩ (.bool Q2.neg) ncb).far ⟨gC, 3, none⟩ (.string Q2.mag) ncb)
   have C_q4 := lhd (C_q3.out.set4 (.bool Q1.neg) (.string Q1.mag) (.bool Q2.neg) (.string Q2.mag))
   have Z_q4 := lhd (((((Z_q3.out).setCell (p := ⟨gC, 0, none⟩) lC (.bool Q1.neg)).setCell (p := ⟨gC, 1, none⟩) lC (.string Q1.mag)).setCell (p := ⟨gC, 2, none⟩) lC (.bool Q2.neg)).setCell (p := ⟨gC, 3, none⟩) lC (.string Q2.mag))
   have X_q4 := lhd (((((X_q3.out).far ⟨gC, 0, none⟩ (.bool Q1.neg) ncx).far ⟨gC, 1, none⟩ (.string Q1.mag) ncx).far ⟨gC, 2, none⟩ (.bool Q2.neg) ncx).far ⟨gC, 3, none⟩ (.string Q2.mag) ncx)
   go_simp
   refine hK.out _ _ (hSm.out _ ⟨A_q4.out, B_q4.out, X_q4.out⟩) (fun _ => ?_)
   clear hK K z0 z1 z2 z3 zf zf0 zf1 zf2 zf3
   refine wpAnyH_done (by kernel_rfl) ?_ _
   obtain ⟨c0, c1, c2, c3, cf, _⟩ := C_q4.out
   have cf0 := cf 0
   have cf1 := cf 1
   have cf2 := cf 2
   have cf3 := cf 3
   go_wp2_with fail
   refine bodyPost_ret (v := .agg #[.bool Q1.neg, .string Q1.mag, .bool Q2.neg, .string Q2.mag]) ?_ rfl ⟨rfl, Z_q4.out⟩
   simp [results, Tryz.results25, go_sem, c0, c1, c2, c3]
end Go.Proofs.YtmbamcpndbimaaaGreatDoor
