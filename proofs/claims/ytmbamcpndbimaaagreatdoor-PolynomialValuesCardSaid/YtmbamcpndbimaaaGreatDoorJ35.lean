/- grooveref03.Primitive: the walk. -/
import Derived.Test.YtmbamcpndbimaaaGreatDoorJ30
import Derived.Test.YtmbamcpndbimaaaGreatDoorJ34
import Derived.Test.YtmbamcpndbimaaaGreatDoorJ33
import Derived.Test.YtmbamcpndbimaaaGreatDoorJ23
namespace Go.Proofs.YtmbamcpndbimaaaGreatDoor
open List renaming getElem_toArray → ny1, getElem_cons_zero → ny2, getElem_cons_succ → ny3, setIfInBounds_toArray → ny4, set_cons_zero → ny5, set_cons_succ → ny6
open Go.RowKit Go.Shelf
theorem absZ_valZ (z : ZI) : absZ z = (valZ z).natAbs := by unfold valZ; split <;> omega
set_option maxRecDepth 100000 in
set_option maxHeartbeats 16000000 in
theorem refPrim_any (n : Nat) (Z : Nat → ZI) (p : Option Addr) (c : Nat) {e : Nat} (f : Nat → Int) (n1 : Nat) (hn : n ≤ 1000) (he : e ≤ 70000000) (hz : ∀ k, k < n → (Z k).mag.size < 10000000) (hfe : ∀ k, cf Z n k = f k) (hf : ∀ k, Bn (f k) e) (hne : dgN f n = n1) (w : World) (hX : GRow w p n Z) :
  Calls Tryz.prog 36 #[.slice p n c] w (RetC (prC f n1) w) := by
 have hfn : dgN (fun k => valZ (Z k)) n = n1 := by rw [← hne]; exact dgN_congr n fun i hi => by rw [← hfe]; exact (if_pos hi).symm
 have hf0 : ∀ i, n1 ≤ i → f i = 0 := fun i hi => by
  rcases Nat.lt_or_ge i n with h | h
  ·exact dgN_over f n i (by omega) h
  ·rw [← hfe, cf_out Z n i h]
 have hn1 : n1 ≤ n := by rw [← hne]; exact dgN_le f n
 have hvz : ∀ k, k < n → valZ (Z k) = f k := fun k hk => by rw [← hfe]; exact (if_pos hk).symm
 have hd1 := refDeg3_any n Z p c (by omega) (fun k hk => Nat.le_of_lt (Nat.lt_of_lt_of_le (hz k hk) (by decide))) w hX
 rw [hfn] at hd1
 have htop : 0 < n1 → f (n1 - 1) ≠ 0 := fun h => by rw [← hne] at h ⊢; exact dgN_top f n h
 have Htop := lhd htop
 have HD1 := lhd hd1
 have Hf0 := lhd (fun i hi => hf0 i hi)
 by_cases h0 : n1 = 0
 ·subst h0
  clear hd1 hz hvz hfn hne hfe hf htop
  go_enter Tryz.func36, Tryz.ntmps36
  go_wp2_with fail
  refine HD1.out.mono ?_
  rintro e1 w1 ⟨rfl, hb1⟩
  dsimp only
  have Hb1 := lhd hb1
  clear hb1 HD1
  go_wp2_with fail
  go_ret
  exact ⟨_, _, _, rfl, ⟨.inl rfl, fun i _ => by unfold prC; rw [Hf0.out i (Nat.zero_le _), Int.zero_ediv], fun h => absurd h (Nat.lt_irrefl 0)⟩, Hb1.out.alloc Hb1.out.size _⟩
 have hn0 : 0 < n1 := by omega
 have b0 : ¬ (n1 : Int) - 1 < 0 := by omega
 have hl := htop hn0
 have Hl := lhd hl
 have Hf := lhd hf
 have hgb := gcN_bn hf
 have HGd := lhd (fun i (hi : i < n) W => refGcdZ_any (canon ((gcN f i : Nat) : Int)) (Z i) (Nat.le_trans ((show Bn ((gcN f i : Nat) : Int) e from hgb i).size 90000000 (by omega)) (Nat.le_refl _)) (by have := hz i hi; omega) (gcN f (i + 1)) (by rw [absZ_canon, absZ_valZ (Z i), hvz i hi]; rfl) W)
 have hg0 : prG f n1 ≠ 0 := prG_ne hn0 hl
 have hgB : Bn (prG f n1) e := by
  unfold Bn
  rw [prG_abs]; exact hgb n1
 have HDv := lhd (fun i (hi : i < n1) W => refDivX_any (Z i) (canon (prG f n1)) (by have := hz i (by omega); omega) (hgB.size 90000000 (by omega)) (f i) (prG f n1) (hvz i (by omega)) (valZ_canon _) hg0 (prG_dvd f hi) W)
 obtain ⟨M, hM⟩ : ∃ k, n1 - 1 = k := ⟨_, rfl⟩
 have hM1 : (n1 : Int) - 1 = (M : Int) := by omega
 have HM := lhd (show n1 = M + 1 by omega)
 have hMn : M < n := by omega
 have HCm := lhd (fun W => refCmpZ_any (Z M) ⟨false, ⟨#[]⟩⟩ (by have := hz M hMn; omega) (by decide) (f M) 0 (hvz M hMn) rfl W)
 have hNg := fun W => refNeg_any (canon ((gcN f n1 : Nat) : Int)) (Nat.le_trans ((show Bn ((gcN f n1 : Nat) : Int) e from hgb n1).size 90000000 (by omega)) (by decide)) W
 rw [valZ_canon] at hNg
 have HNg := lhd hNg
 have hpG : prG f n1 = if f M < 0 then -((gcN f n1 : Nat) : Int) else ((gcN f n1 : Nat) : Int) := by rw [← hM]; rfl
 have HpG := lhd hpG
 have hPC := fun k => prC_bn hf n1 k
 have HCn := lhd (fun q c W (h : RowF W q n1 (prC f n1)) => refCan3_any n1 (fun k => canon (prC f n1 k)) q c (by omega) (fun k _ => Nat.lt_of_le_of_lt ((hPC k).size 90000000 (by omega)) (by decide)) W h)
 simp only [valZ_canon] at HCn
 have hdd : dgN (prC f n1) n1 = n1 := dgN_eq (fun i hi => prC_zero (hf0 i hi)) (fun h => prC_top htop h) (Nat.le_refl _)
 have hPout : ∀ i, n1 ≤ i → prC f n1 i = 0 := fun i hi => prC_zero (hf0 i hi)
 have HPout := lhd hPout
 have Hdd := lhd hdd
 have HPr := lhd (fun i (hi : i < n1) => show prC f n1 i = f i / prG f n1 from rfl)
 rw [hM1] at HD1
 obtain ⟨pb, po, rfl, hpl, hpc⟩ := GRow.cells hX (show 0 < n by omega)
 have Hpc := lhd (fun W (hW : Below w.heap.size w W) k (hk : k < n) => show W.cell? ⟨pb, po + k * 2, none⟩ = some (.bool (Z k).neg) ∧ W.cell? ⟨pb, po + k * 2 + 1, none⟩ = some (.string (Z k).mag) from ⟨(hW.cell (p := ⟨pb, po + k * 2, none⟩) hpl).trans (hpc k hk).1, (hW.cell (p := ⟨pb, po + k * 2 + 1, none⟩) hpl).trans (hpc k hk).2⟩)
 have b0 : ¬ (M : Int) < 0 := by omega
 have HPC := lhd hPC
 clear hX hpl hpc hd1 hz hvz hfn hne hfe hf htop hgb hg0 hgB hNg hpG hPC hdd hPout hM hl h0 hf0 Hl Htop hM1
 go_enter Tryz.func36, Tryz.ntmps36
 go_wp2_with fail
 refine HD1.out.mono ?_
 rintro e1 w1 ⟨rfl, hb1⟩
 dsimp only
 have Hb1 := lhd hb1
 clear hb1 HD1
 go_upto_region 5 with (fail)
 have hbx := BoxAt.new w1 (.bool false) (.string ⟨#[]⟩) 24
 have hal := Hb1.out.alloc Hb1.out.size (.cells #[.bool false, .string ⟨#[]⟩] 24)
 obtain ⟨ga, hga⟩ : ∃ k, w1.heap.size = k := ⟨_, rfl⟩
 have lega : w.heap.size ≤ ga := by rw [← hga]; exact Hb1.out.size
 rw [hga] at hbx ⊢
 have HG0 := lhd (show BoxAt (w1.alloc (.cells #[.bool false, .string ⟨#[]⟩] 24)) ga (.bool (canon ((gcN f 0 : Nat) : Int)).neg) (.string (canon ((gcN f 0 : Nat) : Int)).mag) from hbx)
 have HB0 := lhd hal
 clear hal hbx hga Hb1
 generalize w1.alloc (.cells #[.bool false, .string ⟨#[]⟩] 24) = W0 at *
 go_wp2_with fail
 go_loopw [5] (fun iv wr => ∃ i : Nat, i ≤ n1 ∧ iv = .int .i64 (i : Nat) ∧ Hid (BoxAt wr ga (.bool (canon ((gcN f i : Nat) : Int)).neg) (.string (canon ((gcN f i : Nat) : Int)).mag)) ∧ Hid (Below w.heap.size w wr)) (fun iv _ => n1 - (intOf iv).toNat)
 case atStart => exact ⟨0, by omega, by go_num, HG0, HB0⟩
 case round =>
  clear HG0 HB0
  obtain ⟨i, hi, rfl, HG, HB⟩ := hrel
  have hMo := HM.out
  by_cases hil : i < n1
  ·have i0 : (0 : Int) ≤ (i : Int) := by omega
   have i1 : (i : Int) ≤ (M : Int) := by omega
   have i2 : (i : Int) < (n : Int) := by omega
   have hin : i < n := by omega
   clear hMo
   have hgd := fun W => HGd.out i hin W
   obtain ⟨CG, hCG⟩ : ∃ z, canon ((gcN f i : Nat) : Int) = z := ⟨_, rfl⟩
   obtain ⟨CN, hCN⟩ : ∃ z, canon ((gcN f (i + 1) : Nat) : Int) = z := ⟨_, rfl⟩
   obtain ⟨CX, hCX⟩ : ∃ z, Z i = z := ⟨_, rfl⟩
   rw [hCG, hCN, hCX] at hgd
   rw [hCG] at HG
   have HGd2 := lhd hgd
   have HCN := lhd hCN
   obtain ⟨SS, hSe⟩ : ∃ SS : World → Prop, SS = fun W => W.cell? ⟨pb, po + i * 2, none⟩ = some (.bool CX.neg) ∧ W.cell? ⟨pb, po + i * 2 + 1, none⟩ = some (.string CX.mag) := ⟨_, rfl⟩
   have HSD : Hid (∀ W, Below w.heap.size w W → SS W) := lhd (fun W hW => by
    have h := Hpc.out W hW i hin
    rw [hCX] at h
    rw [hSe]; exact h)
   clear hgd hCG hCN hCX
   go_upto_region 8 with (fail)
   refine wp_region_held_drew (S := SS) (by kernel_rfl) (HSD.out _ HB.out.drew) (fun _ => ?_)
   have G_q1 := lhd (BoxAt.drz HG.out)
   have D_q1 := lhd (HB.out.drew)
   refine wpAnyH_take (i := 1) (v := ?_) rfl (by kernel_rfl) (by kernel_rfl) (by kernel_rfl) (fun _ _ _ h => h) (Or.inl ⟨by rfl, ?_⟩) (HSD.out _ D_q1.out) ?_
   rotate_left 1
   next => intro w hSw; rw [hSe] at hSw; obtain ⟨s1, s2⟩ := hSw; go_simp; try with_reducible rfl
   try simp only [Act.put, ny1, ny2, ny3, ny4, ny5, ny6]
   refine wpAnyH_take (i := 2) (v := ?_) rfl (by kernel_rfl) (by kernel_rfl) (by kernel_rfl) (fun _ _ _ h => h) (Or.inl ⟨by rfl, ?_⟩) (HSD.out _ D_q1.out) ?_
   rotate_left 1
   next => intro w hSw; rw [hSe] at hSw; obtain ⟨s1, s2⟩ := hSw; go_simp; try with_reducible rfl
   try simp only [Act.put, ny1, ny2, ny3, ny4, ny5, ny6]
   refine wpAnyH_take (i := 3) (v := ?_) rfl (by kernel_rfl) (by kernel_rfl) (by kernel_rfl) (fun _ _ _ h => h) (Or.inl ⟨by rfl, ?_⟩) (HSD.out _ D_q1.out) ?_
   rotate_left 1
   next => intro w hSw; rw [hSe] at hSw; obtain ⟨s1, s2⟩ := hSw; go_simp; try with_reducible rfl
   try simp only [Act.put, ny1, ny2, ny3, ny4, ny5, ny6]
   refine wpAnyH_take (i := 4) (v := ?_) rfl (by kernel_rfl) (by kernel_rfl) (by kernel_rfl) (fun _ _ _ h => h) (Or.inl ⟨by rfl, ?_⟩) (HSD.out _ D_q1.out) ?_
   rotate_left 1
   next => intro w hSw; rw [hSe] at hSw; obtain ⟨s1, s2⟩ := hSw; go_simp; try with_reducible rfl
   try simp only [Act.put, ny1, ny2, ny3, ny4, ny5, ny6]
   refine wpAnyH_ready (rs := [0]) (by kernel_rfl) (by simp) ?_
   refine AllReadyH.cons rfl (fun K hK => ?_) AllReadyH.nil
   obtain ⟨z0, z1, _, _, _⟩ := G_q1.out
   go_simp
   refine hK.out _ _ (HSD.out _ D_q1.out) (fun _ => ?_)
   clear hK K z0 z1
   try simp only [Act.put, ny1, ny2, ny3, ny4, ny5, ny6]
   refine wpAnyH_ready (rs := [5]) (by kernel_rfl) (by simp) ?_
   refine AllReadyH.cons rfl (fun K hK => ?_) AllReadyH.nil
   go_simp
   refine (HGd2.out _).mono ?_
   rintro e wq2 ⟨rfl, hbc⟩
   have G_q2 := lhd (G_q1.out.below hbc G_q1.out.2.2.2.2)
   have D_q2 := lhd (D_q1.out.trans (hbc.mono D_q1.out.size))
   dsimp only
   refine hK.out _ _ (HSD.out _ D_q2.out) (fun _ => ?_)
   clear hK K hbc
   try simp only [Act.put, ny1, ny2, ny3, ny4, ny5, ny6]
   refine wpAnyH_ready (rs := [6]) (by kernel_rfl) (by simp) ?_
   refine AllReadyH.cons rfl (fun K hK => ?_) AllReadyH.nil
   obtain ⟨z0, z1, z2, z3, _⟩ := G_q2.out
   have G_q3 := lhd (G_q2.out.set2 (.bool CN.neg) (.string CN.mag))
   have D_q3 := lhd (((D_q2.out).setCell (p := ⟨ga, 0, none⟩) lega (.bool CN.neg)).setCell (p := ⟨ga, 1, none⟩) lega (.string CN.mag))
   go_simp
   refine hK.out _ _ (HSD.out _ D_q3.out) (fun _ => ?_)
   clear hK K z0 z1 z2 z3
   refine wpAnyH_done (by kernel_rfl) ?_ _
   go_wp2_with fail
   go_roundw
   case rel => exact ⟨i + 1, by omega, by go_num, by rw [HCN.out]; exact G_q3, D_q3⟩
   case measure => simp [intOf]; omega
  ·have i1 : ¬ (i : Int) ≤ (M : Int) := by omega
   obtain rfl : i = n1 := by omega
   have hMn2 : (M : Int) < (n : Int) := by omega
   have hM0 : (0 : Int) ≤ (M : Int) := by omega
   clear hMo
   obtain ⟨a0, a1⟩ := Hpc.out wr HB.out M hMn
   obtain ⟨CX, hCX⟩ : ∃ z, Z M = z := ⟨_, rfl⟩
   have hcm := HCm.out
   rw [hCX] at a0 a1 hcm
   have HCm2 := lhd hcm
   obtain ⟨KG, hKG⟩ : ∃ z, canon ((gcN f i : Nat) : Int) = z := ⟨_, rfl⟩
   rw [hKG] at HG HNg
   clear hcm hCX HGd HCm
   by_cases hneg : f M < 0
   ·have hc : cmpI (f M) 0 < 0 := by unfold cmpI; rw [if_pos hneg]; decide
    have hpG := HpG.out
    rw [if_pos hneg] at hpG
    rw [← hpG] at HNg
    clear hpG hneg
    generalize cmpI (f M) 0 = cc at *
    go_wp2_with fail
    refine (HCm2.out _).mono ?_
    rintro e4 w4 ⟨rfl, hb4⟩
    dsimp only
    have HG4 := lhd (HG.out.below hb4 HG.out.2.2.2.2)
    have HB4 := lhd (HB.out.trans (hb4.mono HB.out.size))
    clear hb4 HCm2 a0 a1
    obtain ⟨g0, g1, g2, g3, _⟩ := HG4.out
    go_wp2_with fail
    refine (HNg.out _).mono ?_
    rintro e5 w5 ⟨rfl, hb5⟩
    dsimp only
    have HG5 := lhd (HG4.out.below hb5 HG4.out.2.2.2.2)
    have HB5 := lhd (HB4.out.trans (hb5.mono HB4.out.size))
    clear hb5 HG4 HB4 g0 g1 g2 g3
    obtain ⟨NG, hNG⟩ : ∃ z, canon (prG f i) = z := ⟨_, rfl⟩
    rw [hNG]
    obtain ⟨g0, g1, g2, g3, _⟩ := HG5.out
    go_upto_region 11 with (fail)
    have HG := lhd (HG5.out.set2 (.bool NG.neg) (.string NG.mag))
    have HB := lhd ((HB5.out.setCell (p := ⟨ga, 0, none⟩) lega (.bool NG.neg)).setCell (p := ⟨ga, 1, none⟩) lega (.string NG.mag))
    clear g0 g1 g2 g3 HG5 HB5 hc HNg HpG hKG
    generalize (w5.setCell ⟨ga, 0, none⟩ (.bool NG.neg)).setCell ⟨ga, 1, none⟩ (.string NG.mag) = wc at *
    rw [← hNG] at HG
    clear hNG
    go_wp2_with fail
    go_loopw [6, 7] (fun ov iv wr => ∃ j : Nat, j ≤ i ∧ iv = .int .i64 (j : Nat) ∧ Hid (OwnZ wr wc.heap.size ov (zsF (prC f i) j)) ∧ Hid (Below wc.heap.size wc wr)) (fun _ iv _ => i - (intOf iv).toNat)
    case atStart => exact ⟨0, by omega, by go_num, lhd (OwnZ.made wc (Nat.le_refl _)), lhd ((Below.refl _ _).alloc (Nat.le_refl _) _)⟩
    case round =>
     obtain ⟨j, hj, rfl, HO, HBc⟩ := hrel
     have hMo := HM.out
     by_cases hjl : j < i
     ·have j0 : (0 : Int) ≤ (j : Int) := by omega
      have j1 : (j : Int) ≤ (M : Int) := by omega
      have j2 : (j : Int) < (n : Int) := by omega
      have hjn : j < n := by omega
      clear hMo
      have hdv := fun W => HDv.out j hjl W
      rw [← HPr.out j hjl] at hdv
      have Hnx : Hid (zsF (prC f i) (j + 1) = zsF (prC f i) j ++ [prC f i j]) := lhd (zsF_snoc _ _)
      obtain ⟨y, hy⟩ : ∃ y, prC f i j = y := ⟨_, rfl⟩
      rw [hy] at hdv Hnx
      obtain ⟨CY, hCY⟩ : ∃ z, canon y = z := ⟨_, rfl⟩
      obtain ⟨KG, hKG⟩ : ∃ z, canon (prG f i) = z := ⟨_, rfl⟩
      obtain ⟨CX, hCX⟩ : ∃ z, Z j = z := ⟨_, rfl⟩
      obtain ⟨C0, hC0⟩ : ∃ z, canon 0 = z := ⟨_, rfl⟩
      rw [hCY, hKG, hCX, hC0] at hdv
      have HKc := HG.out
      rw [hKG] at HKc
      have HDv2 := lhd hdv
      have HCY := lhd hCY
      have HKG := lhd hKG
      have hcx := fun W hW => Hpc.out W hW j hjn
      rw [hCX] at hcx
      have hl9 : (zsF (prC f i) j).length < 1000000000 := by rw [zsF_len]; omega
      have HL := lhd hl9
      obtain ⟨SS, hSe⟩ : ∃ SS : World → Prop, SS = fun W => W.cell? ⟨pb, po + j * 2, none⟩ = some (.bool CX.neg) ∧ W.cell? ⟨pb, po + j * 2 + 1, none⟩ = some (.string CX.mag) ∧ W.cell? ⟨ga, 0, none⟩ = some (.bool KG.neg) ∧ W.cell? ⟨ga, 1, none⟩ = some (.string KG.mag) := ⟨_, rfl⟩
      have HSD : Hid (∀ W, Below wr.heap.size wr W → SS W) := lhd (fun W hW => by
       have hWc := HBc.out.trans (hW.mono HBc.out.size)
       have h := hcx W (HB.out.trans (hWc.mono HB.out.size))
       obtain ⟨g0, g1, _, _, hg⟩ := HKc
       rw [hSe]; exact ⟨h.1, h.2, cell_below hWc g0, cell_below hWc g1⟩)
      have HD0 := lhd (Below.refl wr.heap.size wr)
      clear hdv hy hCY hKG hCX hC0 hcx hl9 HKc
      go_upto_region 15 with (fail)
      refine wp_region_held_drew (S := SS) (by kernel_rfl) (HSD.out _ HD0.out.drew) (fun _ => ?_)
      have D_q1 := lhd (HD0.out.drew)
      generalize wr.drew = wd at *
      refine wpAnyH_take (i := 0) (v := ?_) rfl (by kernel_rfl) (by kernel_rfl) (by kernel_rfl) (fun _ _ _ h => h) (Or.inl ⟨by rfl, ?_⟩) (HSD.out _ D_q1.out) ?_
      rotate_left 1
      next => intro w hSw; rw [hSe] at hSw; obtain ⟨s1, s2, s3, s4⟩ := hSw; go_simp; try with_reducible rfl
      try simp only [Act.put, ny1, ny2, ny3, ny4, ny5, ny6]
      refine wpAnyH_take (i := 1) (v := ?_) rfl (by kernel_rfl) (by kernel_rfl) (by kernel_rfl) (fun _ _ _ h => h) (Or.inl ⟨by rfl, ?_⟩) (HSD.out _ D_q1.out) ?_
      rotate_left 1
      next => intro w hSw; rw [hSe] at hSw; obtain ⟨s1, s2, s3, s4⟩ := hSw; go_simp; try with_reducible rfl
      try simp only [Act.put, ny1, ny2, ny3, ny4, ny5, ny6]
      refine wpAnyH_take (i := 2) (v := ?_) rfl (by kernel_rfl) (by kernel_rfl) (by kernel_rfl) (fun _ _ _ h => h) (Or.inl ⟨by rfl, ?_⟩) (HSD.out _ D_q1.out) ?_
      rotate_left 1
      next => intro w hSw; rw [hSe] at hSw; obtain ⟨s1, s2, s3, s4⟩ := hSw; go_simp; try with_reducible rfl
      try simp only [Act.put, ny1, ny2, ny3, ny4, ny5, ny6]
      refine wpAnyH_take (i := 3) (v := ?_) rfl (by kernel_rfl) (by kernel_rfl) (by kernel_rfl) (fun _ _ _ h => h) (Or.inl ⟨by rfl, ?_⟩) (HSD.out _ D_q1.out) ?_
      rotate_left 1
      next => intro w hSw; rw [hSe] at hSw; obtain ⟨s1, s2, s3, s4⟩ := hSw; go_simp; try with_reducible rfl
      try simp only [Act.put, ny1, ny2, ny3, ny4, ny5, ny6]
      refine wpAnyH_take (i := 4) (v := ?_) rfl (by kernel_rfl) (by kernel_rfl) (by kernel_rfl) (fun _ _ _ h => h) (Or.inl ⟨by rfl, ?_⟩) (HSD.out _ D_q1.out) ?_
      rotate_left 1
      next => intro w hSw; rw [hSe] at hSw; obtain ⟨s1, s2, s3, s4⟩ := hSw; go_simp; try with_reducible rfl
      try simp only [Act.put, ny1, ny2, ny3, ny4, ny5, ny6]
      refine wpAnyH_ready (rs := [5, 10, 11]) (by kernel_rfl) (by simp) ?_
      refine AllReadyH.cons rfl (fun K hK => ?_) (AllReadyH.cons rfl (fun K hK => ?_) (AllReadyH.cons rfl (fun K hK => ?_) AllReadyH.nil))
      ·go_simp
       refine (HDv2.out _).mono ?_
       rintro e wq2 ⟨rfl, hbc⟩
       have D_q2 := lhd (D_q1.out.trans (hbc.mono D_q1.out.size))
       dsimp only
       refine hK.out _ _ (HSD.out _ D_q2.out) (fun _ => ?_)
       clear hK K hbc
       refine wpAnyH_take (i := 6) (v := ?_) rfl (by kernel_rfl) (by kernel_rfl) (by kernel_rfl) (fun _ _ _ h => h) (Or.inl ⟨by rfl, ?_⟩) (HSD.out _ D_q2.out) ?_
       rotate_left 1
       next => intro w hSw; rw [hSe] at hSw; obtain ⟨s1, s2, s3, s4⟩ := hSw; go_simp; try with_reducible rfl
       try simp only [Act.put, ny1, ny2, ny3, ny4, ny5, ny6]
       refine wpAnyH_take (i := 7) (v := ?_) rfl (by kernel_rfl) (by kernel_rfl) (by kernel_rfl) (fun _ _ _ h => h) (Or.inl ⟨by rfl, ?_⟩) (HSD.out _ D_q2.out) ?_
       rotate_left 1
       next => intro w hSw; rw [hSe] at hSw; obtain ⟨s1, s2, s3, s4⟩ := hSw; go_simp; try with_reducible rfl
       try simp only [Act.put, ny1, ny2, ny3, ny4, ny5, ny6]
       refine wpAnyH_take (i := 8) (v := ?_) rfl (by kernel_rfl) (by kernel_rfl) (by kernel_rfl) (fun _ _ _ h => h) (Or.inl ⟨by rfl, ?_⟩) (HSD.out _ D_q2.out) ?_
       rotate_left 1
       next => intro w hSw; rw [hSe] at hSw; obtain ⟨s1, s2, s3, s4⟩ := hSw; go_simp; try with_reducible rfl
       try simp only [Act.put, ny1, ny2, ny3, ny4, ny5, ny6]
       refine wpAnyH_take (i := 9) (v := ?_) rfl (by kernel_rfl) (by kernel_rfl) (by kernel_rfl) (fun _ _ _ h => h) (Or.inl ⟨by rfl, ?_⟩) (HSD.out _ D_q2.out) ?_
       rotate_left 1
       next => intro w hSw; rw [hSe] at hSw; obtain ⟨s1, s2, s3, s4⟩ := hSw; go_simp; try with_reducible rfl
       try simp only [Act.put, ny1, ny2, ny3, ny4, ny5, ny6]
       refine wpAnyH_ready (rs := [10, 11]) (by kernel_rfl) (by simp) ?_
       refine AllReadyH.cons rfl (fun K hK => ?_) (AllReadyH.cons rfl (fun K hK => ?_) AllReadyH.nil)
       ·go_simp
        have hbx := BoxAt.new wq2 (.bool false) (.string ⟨#[]⟩) 24
        have hbc := (Below.refl wq2.heap.size wq2).alloc (Nat.le_refl _) (.cells #[.bool false, .string ⟨#[]⟩] 24)
        obtain ⟨gX8, hgX8⟩ : ∃ k, wq2.heap.size = k := ⟨_, rfl⟩
        have leX8 : wr.heap.size ≤ gX8 := by rw [← hgX8]; exact D_q2.out.size
        have D_q3 := lhd (D_q2.out.trans (hbc.mono D_q2.out.size))
        refine hK.out _ _ (HSD.out _ D_q3.out) (fun _ => ?_)
        clear hK K hbc
        rw [hgX8] at hbx ⊢
        clear hgX8
        generalize wq2.alloc (.cells #[.bool false, .string ⟨#[]⟩] 24) = wq3 at *
        have X8_q3 := lhd hbx
        clear hbx
        try simp only [Act.put, ny1, ny2, ny3, ny4, ny5, ny6]
        refine wpAnyH_ready (rs := [11]) (by kernel_rfl) (by simp) ?_
        refine AllReadyH.cons rfl (fun K hK => ?_) AllReadyH.nil
        go_simp
        have hbx := BoxAt.new wq3 (.bool false) (.string ⟨#[]⟩) 24
        have hbc := (Below.refl wq3.heap.size wq3).alloc (Nat.le_refl _) (.cells #[.bool false, .string ⟨#[]⟩] 24)
        obtain ⟨gX9, hgX9⟩ : ∃ k, wq3.heap.size = k := ⟨_, rfl⟩
        have leX9 : wr.heap.size ≤ gX9 := by rw [← hgX9]; exact D_q3.out.size
        have D_q4 := lhd (D_q3.out.trans (hbc.mono D_q3.out.size))
        have nX9X8 : gX9 ≠ gX8 := by rw [← hgX9]; have := X8_q3.out.2.2.2.2; omega
        have nX9X8' : gX8 ≠ gX9 := fun h => nX9X8 h.symm
        have X8_q4 := lhd (X8_q3.out.below hbc X8_q3.out.2.2.2.2)
        refine hK.out _ _ (HSD.out _ D_q4.out) (fun _ => ?_)
        clear hK K hbc
        rw [hgX9] at hbx ⊢
        clear hgX9
        generalize wq3.alloc (.cells #[.bool false, .string ⟨#[]⟩] 24) = wq4 at *
        have X9_q4 := lhd hbx
        clear hbx
        try simp only [Act.put, ny1, ny2, ny3, ny4, ny5, ny6]
        refine wpAnyH_ready (rs := [12]) (by kernel_rfl) (by simp) ?_
        refine AllReadyH.cons rfl (fun K hK => ?_) AllReadyH.nil
        obtain ⟨z0, z1, z2, z3, _⟩ := X8_q4.out
        have D_q5 := lhd (((D_q4.out).setCell (p := ⟨gX8, 0, none⟩) leX8 (.bool CY.neg)).setCell (p := ⟨gX8, 1, none⟩) leX8 (.string CY.mag))
        have X8_q5 := lhd (X8_q4.out.set2 (.bool CY.neg) (.string CY.mag))
        have X9_q5 := lhd (((X9_q4.out).far ⟨gX8, 0, none⟩ (.bool CY.neg) nX9X8').far ⟨gX8, 1, none⟩ (.string CY.mag) nX9X8')
        go_simp
        refine hK.out _ _ (HSD.out _ D_q5.out) (fun _ => ?_)
        clear hK K z0 z1 z2 z3
        generalize ((wq4.setCell ⟨gX8, 0, none⟩ (.bool CY.neg)).setCell ⟨gX8, 1, none⟩ (.string CY.mag)) = wq5 at *
        try simp only [Act.put, ny1, ny2, ny3, ny4, ny5, ny6]
        refine wpAnyH_ready (rs := [13]) (by kernel_rfl) (by simp) ?_
        refine AllReadyH.cons rfl (fun K hK => ?_) AllReadyH.nil
        obtain ⟨z0, z1, z2, z3, _⟩ := X9_q5.out
        have D_q6 := lhd (((D_q5.out).setCell (p := ⟨gX9, 0, none⟩) leX9 (.bool C0.neg)).setCell (p := ⟨gX9, 1, none⟩) leX9 (.string C0.mag))
        have X8_q6 := lhd (((X8_q5.out).far ⟨gX9, 0, none⟩ (.bool C0.neg) nX9X8).far ⟨gX9, 1, none⟩ (.string C0.mag) nX9X8)
        have X9_q6 := lhd (X9_q5.out.set2 (.bool C0.neg) (.string C0.mag))
        go_simp
        refine hK.out _ _ (HSD.out _ D_q6.out) (fun _ => ?_)
        clear hK K z0 z1 z2 z3
        generalize ((wq5.setCell ⟨gX9, 0, none⟩ (.bool C0.neg)).setCell ⟨gX9, 1, none⟩ (.string C0.mag)) = wq6 at *
        refine wpAnyH_take (i := 14) (v := ?_) rfl (by kernel_rfl) (by kernel_rfl) (by kernel_rfl) (fun _ _ _ h => h) (Or.inl ⟨by rfl, ?_⟩) (HSD.out _ D_q6.out) ?_
        rotate_left 1
        next => intro w hSw; rw [hSe] at hSw; obtain ⟨s1, s2, s3, s4⟩ := hSw; go_simp; try with_reducible rfl
        try simp only [Act.put, ny1, ny2, ny3, ny4, ny5, ny6]
        refine wpAnyH_done (by kernel_rfl) ?_ _
        have HX9 := X8_q6
        have HD9 := D_q6
        go_upto_region 16 with (fail)
        obtain ⟨x0, x1, _, _, _⟩ := HX9.out
        have HZ4 := lhd (HO.out.below (Nat.le_refl _) HD9.out)
        have HB9 := lhd (HBc.out.trans (HD9.out.mono HBc.out.size))
        have hys := HB9.out.size
        go_wp2_with (at_builtin; refine wpList_append_zs rfl _ _ rfl wc.heap.size _ (zsF (prC f i) j) rfl (HZ4.out.alloc _) wq6.heap.size 0 1 1 [y] rfl rfl ?_ ?_ ?_ ?_)
        ·intro j hj
         have : j = 0 := by simpa using hj
         subst this
         simp [HCY.out]
        ·have := HL.out; simp; omega
        ·simp; omega
        ·intro v9 w9 hown9 hgr9
         have hb9 : Below wc.heap.size wc w9 := below_append (HB9.out.alloc hys _) (HZ4.out.alloc _) hgr9 (by simp; omega) (Nat.le_refl _)
         rw [← Hnx.out] at hown9
         have HN9 := lhd hown9
         have HY9 := lhd hb9
         clear hown9 hgr9 hb9 HZ4 HB9 hys
         go_wp2
         go_roundw
         case rel => exact ⟨j + 1, by omega, by go_num, HN9, HY9⟩
         case measure => simp [intOf]; omega
       ·go_simp
        have hbx := BoxAt.new wq2 (.bool false) (.string ⟨#[]⟩) 24
        have hbc := (Below.refl wq2.heap.size wq2).alloc (Nat.le_refl _) (.cells #[.bool false, .string ⟨#[]⟩] 24)
        obtain ⟨gX9, hgX9⟩ : ∃ k, wq2.heap.size = k := ⟨_, rfl⟩
        have leX9 : wr.heap.size ≤ gX9 := by rw [← hgX9]; exact D_q2.out.size
        have D_q7 := lhd (D_q2.out.trans (hbc.mono D_q2.out.size))
        refine hK.out _ _ (HSD.out _ D_q7.out) (fun _ => ?_)
        clear hK K hbc
        rw [hgX9] at hbx ⊢
        clear hgX9
        generalize wq2.alloc (.cells #[.bool false, .string ⟨#[]⟩] 24) = wq7 at *
        have X9_q7 := lhd hbx
        clear hbx
        try simp only [Act.put, ny1, ny2, ny3, ny4, ny5, ny6]
        refine wpAnyH_ready (rs := [10]) (by kernel_rfl) (by simp) ?_
        refine AllReadyH.cons rfl (fun K hK => ?_) AllReadyH.nil
        go_simp
        have hbx := BoxAt.new wq7 (.bool false) (.string ⟨#[]⟩) 24
        have hbc := (Below.refl wq7.heap.size wq7).alloc (Nat.le_refl _) (.cells #[.bool false, .string ⟨#[]⟩] 24)
        obtain ⟨gX8, hgX8⟩ : ∃ k, wq7.heap.size = k := ⟨_, rfl⟩
        have leX8 : wr.heap.size ≤ gX8 := by rw [← hgX8]; exact D_q7.out.size
        have D_q8 := lhd (D_q7.out.trans (hbc.mono D_q7.out.size))
        have nX8X9 : gX8 ≠ gX9 := by rw [← hgX8]; have := X9_q7.out.2.2.2.2; omega
        have nX8X9' : gX9 ≠ gX8 := fun h => nX8X9 h.symm
        have X9_q8 := lhd (X9_q7.out.below hbc X9_q7.out.2.2.2.2)
        refine hK.out _ _ (HSD.out _ D_q8.out) (fun _ => ?_)
        clear hK K hbc
        rw [hgX8] at hbx ⊢
        clear hgX8
        generalize wq7.alloc (.cells #[.bool false, .string ⟨#[]⟩] 24) = wq8 at *
        have X8_q8 := lhd hbx
        clear hbx
        try simp only [Act.put, ny1, ny2, ny3, ny4, ny5, ny6]
        refine wpAnyH_ready (rs := [12]) (by kernel_rfl) (by simp) ?_
        refine AllReadyH.cons rfl (fun K hK => ?_) AllReadyH.nil
        obtain ⟨z0, z1, z2, z3, _⟩ := X8_q8.out
        have D_q9 := lhd (((D_q8.out).setCell (p := ⟨gX8, 0, none⟩) leX8 (.bool CY.neg)).setCell (p := ⟨gX8, 1, none⟩) leX8 (.string CY.mag))
        have X9_q9 := lhd (((X9_q8.out).far ⟨gX8, 0, none⟩ (.bool CY.neg) nX8X9).far ⟨gX8, 1, none⟩ (.string CY.mag) nX8X9)
        have X8_q9 := lhd (X8_q8.out.set2 (.bool CY.neg) (.string CY.mag))
        go_simp
        refine hK.out _ _ (HSD.out _ D_q9.out) (fun _ => ?_)
        clear hK K z0 z1 z2 z3
        generalize ((wq8.setCell ⟨gX8, 0, none⟩ (.bool CY.neg)).setCell ⟨gX8, 1, none⟩ (.string CY.mag)) = wq9 at *
        try simp only [Act.put, ny1, ny2, ny3, ny4, ny5, ny6]
        refine wpAnyH_ready (rs := [13]) (by kernel_rfl) (by simp) ?_
        refine AllReadyH.cons rfl (fun K hK => ?_) AllReadyH.nil
        obtain ⟨z0, z1, z2, z3, _⟩ := X9_q9.out
        have D_q10 := lhd (((D_q9.out).setCell (p := ⟨gX9, 0, none⟩) leX9 (.bool C0.neg)).setCell (p := ⟨gX9, 1, none⟩) leX9 (.string C0.mag))
        have X9_q10 := lhd (X9_q9.out.set2 (.bool C0.neg) (.string C0.mag))
        have X8_q10 := lhd (((X8_q9.out).far ⟨gX9, 0, none⟩ (.bool C0.neg) nX8X9').far ⟨gX9, 1, none⟩ (.string C0.mag) nX8X9')
        go_simp
        refine hK.out _ _ (HSD.out _ D_q10.out) (fun _ => ?_)
        clear hK K z0 z1 z2 z3
        generalize ((wq9.setCell ⟨gX9, 0, none⟩ (.bool C0.neg)).setCell ⟨gX9, 1, none⟩ (.string C0.mag)) = wq10 at *
        refine wpAnyH_take (i := 14) (v := ?_) rfl (by kernel_rfl) (by kernel_rfl) (by kernel_rfl) (fun _ _ _ h => h) (Or.inl ⟨by rfl, ?_⟩) (HSD.out _ D_q10.out) ?_
        rotate_left 1
        next => intro w hSw; rw [hSe] at hSw; obtain ⟨s1, s2, s3, s4⟩ := hSw; go_simp; try with_reducible rfl
        try simp only [Act.put, ny1, ny2, ny3, ny4, ny5, ny6]
        refine wpAnyH_done (by kernel_rfl) ?_ _
        have HX9 := X8_q10
        have HD9 := D_q10
        go_upto_region 16 with (fail)
        obtain ⟨x0, x1, _, _, _⟩ := HX9.out
        have HZ4 := lhd (HO.out.below (Nat.le_refl _) HD9.out)
        have HB9 := lhd (HBc.out.trans (HD9.out.mono HBc.out.size))
        have hys := HB9.out.size
        go_wp2_with (at_builtin; refine wpList_append_zs rfl _ _ rfl wc.heap.size _ (zsF (prC f i) j) rfl (HZ4.out.alloc _) wq10.heap.size 0 1 1 [y] rfl rfl ?_ ?_ ?_ ?_)
        ·intro j hj
         have : j = 0 := by simpa using hj
         subst this
         simp [HCY.out]
        ·have := HL.out; simp; omega
        ·simp; omega
        ·intro v9 w9 hown9 hgr9
         have hb9 : Below wc.heap.size wc w9 := below_append (HB9.out.alloc hys _) (HZ4.out.alloc _) hgr9 (by simp; omega) (Nat.le_refl _)
         rw [← Hnx.out] at hown9
         have HN9 := lhd hown9
         have HY9 := lhd hb9
         clear hown9 hgr9 hb9 HZ4 HB9 hys
         go_wp2
         go_roundw
         case rel => exact ⟨j + 1, by omega, by go_num, HN9, HY9⟩
         case measure => simp [intOf]; omega
      ·go_simp
       have hbx := BoxAt.new wd (.bool false) (.string ⟨#[]⟩) 24
       have hbc := (Below.refl wd.heap.size wd).alloc (Nat.le_refl _) (.cells #[.bool false, .string ⟨#[]⟩] 24)
       obtain ⟨gX8, hgX8⟩ : ∃ k, wd.heap.size = k := ⟨_, rfl⟩
       have leX8 : wr.heap.size ≤ gX8 := by rw [← hgX8]; exact D_q1.out.size
       have D_q11 := lhd (D_q1.out.trans (hbc.mono D_q1.out.size))
       refine hK.out _ _ (HSD.out _ D_q11.out) (fun _ => ?_)
       clear hK K hbc
       rw [hgX8] at hbx ⊢
       clear hgX8
       generalize wd.alloc (.cells #[.bool false, .string ⟨#[]⟩] 24) = wq11 at *
       have X8_q11 := lhd hbx
       clear hbx
       try simp only [Act.put, ny1, ny2, ny3, ny4, ny5, ny6]
       refine wpAnyH_ready (rs := [5, 11]) (by kernel_rfl) (by simp) ?_
       refine AllReadyH.cons rfl (fun K hK => ?_) (AllReadyH.cons rfl (fun K hK => ?_) AllReadyH.nil)
       ·go_simp
        refine (HDv2.out _).mono ?_
        rintro e wq12 ⟨rfl, hbc⟩
        have D_q12 := lhd (D_q11.out.trans (hbc.mono D_q11.out.size))
        have X8_q12 := lhd (X8_q11.out.below hbc X8_q11.out.2.2.2.2)
        dsimp only
        refine hK.out _ _ (HSD.out _ D_q12.out) (fun _ => ?_)
        clear hK K hbc
        refine wpAnyH_take (i := 6) (v := ?_) rfl (by kernel_rfl) (by kernel_rfl) (by kernel_rfl) (fun _ _ _ h => h) (Or.inl ⟨by rfl, ?_⟩) (HSD.out _ D_q12.out) ?_
        rotate_left 1
        next => intro w hSw; rw [hSe] at hSw; obtain ⟨s1, s2, s3, s4⟩ := hSw; go_simp; try with_reducible rfl
        try simp only [Act.put, ny1, ny2, ny3, ny4, ny5, ny6]
        refine wpAnyH_take (i := 7) (v := ?_) rfl (by kernel_rfl) (by kernel_rfl) (by kernel_rfl) (fun _ _ _ h => h) (Or.inl ⟨by rfl, ?_⟩) (HSD.out _ D_q12.out) ?_
        rotate_left 1
        next => intro w hSw; rw [hSe] at hSw; obtain ⟨s1, s2, s3, s4⟩ := hSw; go_simp; try with_reducible rfl
        try simp only [Act.put, ny1, ny2, ny3, ny4, ny5, ny6]
        refine wpAnyH_take (i := 8) (v := ?_) rfl (by kernel_rfl) (by kernel_rfl) (by kernel_rfl) (fun _ _ _ h => h) (Or.inl ⟨by rfl, ?_⟩) (HSD.out _ D_q12.out) ?_
        rotate_left 1
        next => intro w hSw; rw [hSe] at hSw; obtain ⟨s1, s2, s3, s4⟩ := hSw; go_simp; try with_reducible rfl
        try simp only [Act.put, ny1, ny2, ny3, ny4, ny5, ny6]
        refine wpAnyH_take (i := 9) (v := ?_) rfl (by kernel_rfl) (by kernel_rfl) (by kernel_rfl) (fun _ _ _ h => h) (Or.inl ⟨by rfl, ?_⟩) (HSD.out _ D_q12.out) ?_
        rotate_left 1
        next => intro w hSw; rw [hSe] at hSw; obtain ⟨s1, s2, s3, s4⟩ := hSw; go_simp; try with_reducible rfl
        try simp only [Act.put, ny1, ny2, ny3, ny4, ny5, ny6]
        refine wpAnyH_ready (rs := [11]) (by kernel_rfl) (by simp) ?_
        refine AllReadyH.cons rfl (fun K hK => ?_) AllReadyH.nil
        go_simp
        have hbx := BoxAt.new wq12 (.bool false) (.string ⟨#[]⟩) 24
        have hbc := (Below.refl wq12.heap.size wq12).alloc (Nat.le_refl _) (.cells #[.bool false, .string ⟨#[]⟩] 24)
        obtain ⟨gX9, hgX9⟩ : ∃ k, wq12.heap.size = k := ⟨_, rfl⟩
        have leX9 : wr.heap.size ≤ gX9 := by rw [← hgX9]; exact D_q12.out.size
        have D_q13 := lhd (D_q12.out.trans (hbc.mono D_q12.out.size))
        have nX9X8 : gX9 ≠ gX8 := by rw [← hgX9]; have := X8_q12.out.2.2.2.2; omega
        have nX9X8' : gX8 ≠ gX9 := fun h => nX9X8 h.symm
        have X8_q13 := lhd (X8_q12.out.below hbc X8_q12.out.2.2.2.2)
        refine hK.out _ _ (HSD.out _ D_q13.out) (fun _ => ?_)
        clear hK K hbc
        rw [hgX9] at hbx ⊢
        clear hgX9
        generalize wq12.alloc (.cells #[.bool false, .string ⟨#[]⟩] 24) = wq13 at *
        have X9_q13 := lhd hbx
        clear hbx
        try simp only [Act.put, ny1, ny2, ny3, ny4, ny5, ny6]
        refine wpAnyH_ready (rs := [12]) (by kernel_rfl) (by simp) ?_
        refine AllReadyH.cons rfl (fun K hK => ?_) AllReadyH.nil
        obtain ⟨z0, z1, z2, z3, _⟩ := X8_q13.out
        have D_q14 := lhd (((D_q13.out).setCell (p := ⟨gX8, 0, none⟩) leX8 (.bool CY.neg)).setCell (p := ⟨gX8, 1, none⟩) leX8 (.string CY.mag))
        have X8_q14 := lhd (X8_q13.out.set2 (.bool CY.neg) (.string CY.mag))
        have X9_q14 := lhd (((X9_q13.out).far ⟨gX8, 0, none⟩ (.bool CY.neg) nX9X8').far ⟨gX8, 1, none⟩ (.string CY.mag) nX9X8')
        go_simp
        refine hK.out _ _ (HSD.out _ D_q14.out) (fun _ => ?_)
        clear hK K z0 z1 z2 z3
        generalize ((wq13.setCell ⟨gX8, 0, none⟩ (.bool CY.neg)).setCell ⟨gX8, 1, none⟩ (.string CY.mag)) = wq14 at *
        try simp only [Act.put, ny1, ny2, ny3, ny4, ny5, ny6]
        refine wpAnyH_ready (rs := [13]) (by kernel_rfl) (by simp) ?_
        refine AllReadyH.cons rfl (fun K hK => ?_) AllReadyH.nil
        obtain ⟨z0, z1, z2, z3, _⟩ := X9_q14.out
        have D_q15 := lhd (((D_q14.out).setCell (p := ⟨gX9, 0, none⟩) leX9 (.bool C0.neg)).setCell (p := ⟨gX9, 1, none⟩) leX9 (.string C0.mag))
        have X8_q15 := lhd (((X8_q14.out).far ⟨gX9, 0, none⟩ (.bool C0.neg) nX9X8).far ⟨gX9, 1, none⟩ (.string C0.mag) nX9X8)
        have X9_q15 := lhd (X9_q14.out.set2 (.bool C0.neg) (.string C0.mag))
        go_simp
        refine hK.out _ _ (HSD.out _ D_q15.out) (fun _ => ?_)
        clear hK K z0 z1 z2 z3
        generalize ((wq14.setCell ⟨gX9, 0, none⟩ (.bool C0.neg)).setCell ⟨gX9, 1, none⟩ (.string C0.mag)) = wq15 at *
        refine wpAnyH_take (i := 14) (v := ?_) rfl (by kernel_rfl) (by kernel_rfl) (by kernel_rfl) (fun _ _ _ h => h) (Or.inl ⟨by rfl, ?_⟩) (HSD.out _ D_q15.out) ?_
        rotate_left 1
        next => intro w hSw; rw [hSe] at hSw; obtain ⟨s1, s2, s3, s4⟩ := hSw; go_simp; try with_reducible rfl
        try simp only [Act.put, ny1, ny2, ny3, ny4, ny5, ny6]
        refine wpAnyH_done (by kernel_rfl) ?_ _
        have HX9 := X8_q15
        have HD9 := D_q15
        go_upto_region 16 with (fail)
        obtain ⟨x0, x1, _, _, _⟩ := HX9.out
        have HZ4 := lhd (HO.out.below (Nat.le_refl _) HD9.out)
        have HB9 := lhd (HBc.out.trans (HD9.out.mono HBc.out.size))
        have hys := HB9.out.size
        go_wp2_with (at_builtin; refine wpList_append_zs rfl _ _ rfl wc.heap.size _ (zsF (prC f i) j) rfl (HZ4.out.alloc _) wq15.heap.size 0 1 1 [y] rfl rfl ?_ ?_ ?_ ?_)
        ·intro j hj
         have : j = 0 := by simpa using hj
         subst this
         simp [HCY.out]
        ·have := HL.out; simp; omega
        ·simp; omega
        ·intro v9 w9 hown9 hgr9
         have hb9 : Below wc.heap.size wc w9 := below_append (HB9.out.alloc hys _) (HZ4.out.alloc _) hgr9 (by simp; omega) (Nat.le_refl _)
         rw [← Hnx.out] at hown9
         have HN9 := lhd hown9
         have HY9 := lhd hb9
         clear hown9 hgr9 hb9 HZ4 HB9 hys
         go_wp2
         go_roundw
         case rel => exact ⟨j + 1, by omega, by go_num, HN9, HY9⟩
         case measure => simp [intOf]; omega
       ·go_simp
        have hbx := BoxAt.new wq11 (.bool false) (.string ⟨#[]⟩) 24
        have hbc := (Below.refl wq11.heap.size wq11).alloc (Nat.le_refl _) (.cells #[.bool false, .string ⟨#[]⟩] 24)
        obtain ⟨gX9, hgX9⟩ : ∃ k, wq11.heap.size = k := ⟨_, rfl⟩
        have leX9 : wr.heap.size ≤ gX9 := by rw [← hgX9]; exact D_q11.out.size
        have D_q16 := lhd (D_q11.out.trans (hbc.mono D_q11.out.size))
        have nX9X8 : gX9 ≠ gX8 := by rw [← hgX9]; have := X8_q11.out.2.2.2.2; omega
        have nX9X8' : gX8 ≠ gX9 := fun h => nX9X8 h.symm
        have X8_q16 := lhd (X8_q11.out.below hbc X8_q11.out.2.2.2.2)
        refine hK.out _ _ (HSD.out _ D_q16.out) (fun _ => ?_)
        clear hK K hbc
        rw [hgX9] at hbx ⊢
        clear hgX9
        generalize wq11.alloc (.cells #[.bool false, .string ⟨#[]⟩] 24) = wq16 at *
        have X9_q16 := lhd hbx
        clear hbx
        try simp only [Act.put, ny1, ny2, ny3, ny4, ny5, ny6]
        refine wpAnyH_ready (rs := [5]) (by kernel_rfl) (by simp) ?_
        refine AllReadyH.cons rfl (fun K hK => ?_) AllReadyH.nil
        go_simp
        refine (HDv2.out _).mono ?_
        rintro e wq17 ⟨rfl, hbc⟩
        have D_q17 := lhd (D_q16.out.trans (hbc.mono D_q16.out.size))
        have X8_q17 := lhd (X8_q16.out.below hbc X8_q16.out.2.2.2.2)
        have X9_q17 := lhd (X9_q16.out.below hbc X9_q16.out.2.2.2.2)
        dsimp only
        refine hK.out _ _ (HSD.out _ D_q17.out) (fun _ => ?_)
        clear hK K hbc
        refine wpAnyH_take (i := 6) (v := ?_) rfl (by kernel_rfl) (by kernel_rfl) (by kernel_rfl) (fun _ _ _ h => h) (Or.inl ⟨by rfl, ?_⟩) (HSD.out _ D_q17.out) ?_
        rotate_left 1
        next => intro w hSw; rw [hSe] at hSw; obtain ⟨s1, s2, s3, s4⟩ := hSw; go_simp; try with_reducible rfl
        try simp only [Act.put, ny1, ny2, ny3, ny4, ny5, ny6]
        refine wpAnyH_take (i := 7) (v := ?_) rfl (by kernel_rfl) (by kernel_rfl) (by kernel_rfl) (fun _ _ _ h => h) (Or.inl ⟨by rfl, ?_⟩) (HSD.out _ D_q17.out) ?_
        rotate_left 1
        next => intro w hSw; rw [hSe] at hSw; obtain ⟨s1, s2, s3, s4⟩ := hSw; go_simp; try with_reducible rfl
        try simp only [Act.put, ny1, ny2, ny3, ny4, ny5, ny6]
        refine wpAnyH_take (i := 8) (v := ?_) rfl (by kernel_rfl) (by kernel_rfl) (by kernel_rfl) (fun _ _ _ h => h) (Or.inl ⟨by rfl, ?_⟩) (HSD.out _ D_q17.out) ?_
        rotate_left 1
        next => intro w hSw; rw [hSe] at hSw; obtain ⟨s1, s2, s3, s4⟩ := hSw; go_simp; try with_reducible rfl
        try simp only [Act.put, ny1, ny2, ny3, ny4, ny5, ny6]
        refine wpAnyH_take (i := 9) (v := ?_) rfl (by kernel_rfl) (by kernel_rfl) (by kernel_rfl) (fun _ _ _ h => h) (Or.inl ⟨by rfl, ?_⟩) (HSD.out _ D_q17.out) ?_
        rotate_left 1
        next => intro w hSw; rw [hSe] at hSw; obtain ⟨s1, s2, s3, s4⟩ := hSw; go_simp; try with_reducible rfl
        try simp only [Act.put, ny1, ny2, ny3, ny4, ny5, ny6]
        refine wpAnyH_ready (rs := [12]) (by kernel_rfl) (by simp) ?_
        refine AllReadyH.cons rfl (fun K hK => ?_) AllReadyH.nil
        obtain ⟨z0, z1, z2, z3, _⟩ := X8_q17.out
        have D_q18 := lhd (((D_q17.out).setCell (p := ⟨gX8, 0, none⟩) leX8 (.bool CY.neg)).setCell (p := ⟨gX8, 1, none⟩) leX8 (.string CY.mag))
        have X8_q18 := lhd (X8_q17.out.set2 (.bool CY.neg) (.string CY.mag))
        have X9_q18 := lhd (((X9_q17.out).far ⟨gX8, 0, none⟩ (.bool CY.neg) nX9X8').far ⟨gX8, 1, none⟩ (.string CY.mag) nX9X8')
        go_simp
        refine hK.out _ _ (HSD.out _ D_q18.out) (fun _ => ?_)
        clear hK K z0 z1 z2 z3
        generalize ((wq17.setCell ⟨gX8, 0, none⟩ (.bool CY.neg)).setCell ⟨gX8, 1, none⟩ (.string CY.mag)) = wq18 at *
        try simp only [Act.put, ny1, ny2, ny3, ny4, ny5, ny6]
        refine wpAnyH_ready (rs := [13]) (by kernel_rfl) (by simp) ?_
        refine AllReadyH.cons rfl (fun K hK => ?_) AllReadyH.nil
        obtain ⟨z0, z1, z2, z3, _⟩ := X9_q18.out
        have D_q19 := lhd (((D_q18.out).setCell (p := ⟨gX9, 0, none⟩) leX9 (.bool C0.neg)).setCell (p := ⟨gX9, 1, none⟩) leX9 (.string C0.mag))
        have X8_q19 := lhd (((X8_q18.out).far ⟨gX9, 0, none⟩ (.bool C0.neg) nX9X8).far ⟨gX9, 1, none⟩ (.string C0.mag) nX9X8)
        have X9_q19 := lhd (X9_q18.out.set2 (.bool C0.neg) (.string C0.mag))
        go_simp
        refine hK.out _ _ (HSD.out _ D_q19.out) (fun _ => ?_)
        clear hK K z0 z1 z2 z3
        generalize ((wq18.setCell ⟨gX9, 0, none⟩ (.bool C0.neg)).setCell ⟨gX9, 1, none⟩ (.string C0.mag)) = wq19 at *
        refine wpAnyH_take (i := 14) (v := ?_) rfl (by kernel_rfl) (by kernel_rfl) (by kernel_rfl) (fun _ _ _ h => h) (Or.inl ⟨by rfl, ?_⟩) (HSD.out _ D_q19.out) ?_
        rotate_left 1
        next => intro w hSw; rw [hSe] at hSw; obtain ⟨s1, s2, s3, s4⟩ := hSw; go_simp; try with_reducible rfl
        try simp only [Act.put, ny1, ny2, ny3, ny4, ny5, ny6]
        refine wpAnyH_done (by kernel_rfl) ?_ _
        have HX9 := X8_q19
        have HD9 := D_q19
        go_upto_region 16 with (fail)
        obtain ⟨x0, x1, _, _, _⟩ := HX9.out
        have HZ4 := lhd (HO.out.below (Nat.le_refl _) HD9.out)
        have HB9 := lhd (HBc.out.trans (HD9.out.mono HBc.out.size))
        have hys := HB9.out.size
        go_wp2_with (at_builtin; refine wpList_append_zs rfl _ _ rfl wc.heap.size _ (zsF (prC f i) j) rfl (HZ4.out.alloc _) wq19.heap.size 0 1 1 [y] rfl rfl ?_ ?_ ?_ ?_)
        ·intro j hj
         have : j = 0 := by simpa using hj
         subst this
         simp [HCY.out]
        ·have := HL.out; simp; omega
        ·simp; omega
        ·intro v9 w9 hown9 hgr9
         have hb9 : Below wc.heap.size wc w9 := below_append (HB9.out.alloc hys _) (HZ4.out.alloc _) hgr9 (by simp; omega) (Nat.le_refl _)
         rw [← Hnx.out] at hown9
         have HN9 := lhd hown9
         have HY9 := lhd hb9
         clear hown9 hgr9 hb9 HZ4 HB9 hys
         go_wp2
         go_roundw
         case rel => exact ⟨j + 1, by omega, by go_num, HN9, HY9⟩
         case measure => simp [intOf]; omega
      ·go_simp
       have hbx := BoxAt.new wd (.bool false) (.string ⟨#[]⟩) 24
       have hbc := (Below.refl wd.heap.size wd).alloc (Nat.le_refl _) (.cells #[.bool false, .string ⟨#[]⟩] 24)
       obtain ⟨gX9, hgX9⟩ : ∃ k, wd.heap.size = k := ⟨_, rfl⟩
       have leX9 : wr.heap.size ≤ gX9 := by rw [← hgX9]; exact D_q1.out.size
       have D_q20 := lhd (D_q1.out.trans (hbc.mono D_q1.out.size))
       refine hK.out _ _ (HSD.out _ D_q20.out) (fun _ => ?_)
       clear hK K hbc
       rw [hgX9] at hbx ⊢
       clear hgX9
       generalize wd.alloc (.cells #[.bool false, .string ⟨#[]⟩] 24) = wq20 at *
       have X9_q20 := lhd hbx
       clear hbx
       try simp only [Act.put, ny1, ny2, ny3, ny4, ny5, ny6]
       refine wpAnyH_ready (rs := [5, 10]) (by kernel_rfl) (by simp) ?_
       refine AllReadyH.cons rfl (fun K hK => ?_) (AllReadyH.cons rfl (fun K hK => ?_) AllReadyH.nil)
       ·go_simp
        refine (HDv2.out _).mono ?_
        rintro e wq21 ⟨rfl, hbc⟩
        have D_q21 := lhd (D_q20.out.trans (hbc.mono D_q20.out.size))
        have X9_q21 := lhd (X9_q20.out.below hbc X9_q20.out.2.2.2.2)
        dsimp only
        refine hK.out _ _ (HSD.out _ D_q21.out) (fun _ => ?_)
        clear hK K hbc
        refine wpAnyH_take (i := 6) (v := ?_) rfl (by kernel_rfl) (by kernel_rfl) (by kernel_rfl) (fun _ _ _ h => h) (Or.inl ⟨by rfl, ?_⟩) (HSD.out _ D_q21.out) ?_
        rotate_left 1
        next => intro w hSw; rw [hSe] at hSw; obtain ⟨s1, s2, s3, s4⟩ := hSw; go_simp; try with_reducible rfl
        try simp only [Act.put, ny1, ny2, ny3, ny4, ny5, ny6]
        refine wpAnyH_take (i := 7) (v := ?_) rfl (by kernel_rfl) (by kernel_rfl) (by kernel_rfl) (fun _ _ _ h => h) (Or.inl ⟨by rfl, ?_⟩) (HSD.out _ D_q21.out) ?_
        rotate_left 1
        next => intro w hSw; rw [hSe] at hSw; obtain ⟨s1, s2, s3, s4⟩ := hSw; go_simp; try with_reducible rfl
        try simp only [Act.put, ny1, ny2, ny3, ny4, ny5, ny6]
        refine wpAnyH_take (i := 8) (v := ?_) rfl (by kernel_rfl) (by kernel_rfl) (by kernel_rfl) (fun _ _ _ h => h) (Or.inl ⟨by rfl, ?_⟩) (HSD.out _ D_q21.out) ?_
        rotate_left 1
        next => intro w hSw; rw [hSe] at hSw; obtain ⟨s1, s2, s3, s4⟩ := hSw; go_simp; try with_reducible rfl
        try simp only [Act.put, ny1, ny2, ny3, ny4, ny5, ny6]
        refine wpAnyH_take (i := 9) (v := ?_) rfl (by kernel_rfl) (by kernel_rfl) (by kernel_rfl) (fun _ _ _ h => h) (Or.inl ⟨by rfl, ?_⟩) (HSD.out _ D_q21.out) ?_
        rotate_left 1
        next => intro w hSw; rw [hSe] at hSw; obtain ⟨s1, s2, s3, s4⟩ := hSw; go_simp; try with_reducible rfl
        try simp only [Act.put, ny1, ny2, ny3, ny4, ny5, ny6]
        refine wpAnyH_ready (rs := [10]) (by kernel_rfl) (by simp) ?_
        refine AllReadyH.cons rfl (fun K hK => ?_) AllReadyH.nil
        go_simp
        have hbx := BoxAt.new wq21 (.bool false) (.string ⟨#[]⟩) 24
        have hbc := (Below.refl wq21.heap.size wq21).alloc (Nat.le_refl _) (.cells #[.bool false, .string ⟨#[]⟩] 24)
        obtain ⟨gX8, hgX8⟩ : ∃ k, wq21.heap.size = k := ⟨_, rfl⟩
        have leX8 : wr.heap.size ≤ gX8 := by rw [← hgX8]; exact D_q21.out.size
        have D_q22 := lhd (D_q21.out.trans (hbc.mono D_q21.out.size))
        have nX8X9 : gX8 ≠ gX9 := by rw [← hgX8]; have := X9_q21.out.2.2.2.2; omega
        have nX8X9' : gX9 ≠ gX8 := fun h => nX8X9 h.symm
        have X9_q22 := lhd (X9_q21.out.below hbc X9_q21.out.2.2.2.2)
        refine hK.out _ _ (HSD.out _ D_q22.out) (fun _ => ?_)
        clear hK K hbc
        rw [hgX8] at hbx ⊢
        clear hgX8
        generalize wq21.alloc (.cells #[.bool false, .string ⟨#[]⟩] 24) = wq22 at *
        have X8_q22 := lhd hbx
        clear hbx
        try simp only [Act.put, ny1, ny2, ny3, ny4, ny5, ny6]
        refine wpAnyH_ready (rs := [12]) (by kernel_rfl) (by simp) ?_
        refine AllReadyH.cons rfl (fun K hK => ?_) AllReadyH.nil
        obtain ⟨z0, z1, z2, z3, _⟩ := X8_q22.out
        have D_q23 := lhd (((D_q22.out).setCell (p := ⟨gX8, 0, none⟩) leX8 (.bool CY.neg)).setCell (p := ⟨gX8, 1, none⟩) leX8 (.string CY.mag))
        have X9_q23 := lhd (((X9_q22.out).far ⟨gX8, 0, none⟩ (.bool CY.neg) nX8X9).far ⟨gX8, 1, none⟩ (.string CY.mag) nX8X9)
        have X8_q23 := lhd (X8_q22.out.set2 (.bool CY.neg) (.string CY.mag))
        go_simp
        refine hK.out _ _ (HSD.out _ D_q23.out) (fun _ => ?_)
        clear hK K z0 z1 z2 z3
        generalize ((wq22.setCell ⟨gX8, 0, none⟩ (.bool CY.neg)).setCell ⟨gX8, 1, none⟩ (.string CY.mag)) = wq23 at *
        try simp only [Act.put, ny1, ny2, ny3, ny4, ny5, ny6]
        refine wpAnyH_ready (rs := [13]) (by kernel_rfl) (by simp) ?_
        refine AllReadyH.cons rfl (fun K hK => ?_) AllReadyH.nil
        obtain ⟨z0, z1, z2, z3, _⟩ := X9_q23.out
        have D_q24 := lhd (((D_q23.out).setCell (p := ⟨gX9, 0, none⟩) leX9 (.bool C0.neg)).setCell (p := ⟨gX9, 1, none⟩) leX9 (.string C0.mag))
        have X9_q24 := lhd (X9_q23.out.set2 (.bool C0.neg) (.string C0.mag))
        have X8_q24 := lhd (((X8_q23.out).far ⟨gX9, 0, none⟩ (.bool C0.neg) nX8X9').far ⟨gX9, 1, none⟩ (.string C0.mag) nX8X9')
        go_simp
        refine hK.out _ _ (HSD.out _ D_q24.out) (fun _ => ?_)
        clear hK K z0 z1 z2 z3
        generalize ((wq23.setCell ⟨gX9, 0, none⟩ (.bool C0.neg)).setCell ⟨gX9, 1, none⟩ (.string C0.mag)) = wq24 at *
        refine wpAnyH_take (i := 14) (v := ?_) rfl (by kernel_rfl) (by kernel_rfl) (by kernel_rfl) (fun _ _ _ h => h) (Or.inl ⟨by rfl, ?_⟩) (HSD.out _ D_q24.out) ?_
        rotate_left 1
        next => intro w hSw; rw [hSe] at hSw; obtain ⟨s1, s2, s3, s4⟩ := hSw; go_simp; try with_reducible rfl
        try simp only [Act.put, ny1, ny2, ny3, ny4, ny5, ny6]
        refine wpAnyH_done (by kernel_rfl) ?_ _
        have HX9 := X8_q24
        have HD9 := D_q24
        go_upto_region 16 with (fail)
        obtain ⟨x0, x1, _, _, _⟩ := HX9.out
        have HZ4 := lhd (HO.out.below (Nat.le_refl _) HD9.out)
        have HB9 := lhd (HBc.out.trans (HD9.out.mono HBc.out.size))
        have hys := HB9.out.size
        go_wp2_with (at_builtin; refine wpList_append_zs rfl _ _ rfl wc.heap.size _ (zsF (prC f i) j) rfl (HZ4.out.alloc _) wq24.heap.size 0 1 1 [y] rfl rfl ?_ ?_ ?_ ?_)
        ·intro j hj
         have : j = 0 := by simpa using hj
         subst this
         simp [HCY.out]
        ·have := HL.out; simp; omega
        ·simp; omega
        ·intro v9 w9 hown9 hgr9
         have hb9 : Below wc.heap.size wc w9 := below_append (HB9.out.alloc hys _) (HZ4.out.alloc _) hgr9 (by simp; omega) (Nat.le_refl _)
         rw [← Hnx.out] at hown9
         have HN9 := lhd hown9
         have HY9 := lhd hb9
         clear hown9 hgr9 hb9 HZ4 HB9 hys
         go_wp2
         go_roundw
         case rel => exact ⟨j + 1, by omega, by go_num, HN9, HY9⟩
         case measure => simp [intOf]; omega
       ·go_simp
        have hbx := BoxAt.new wq20 (.bool false) (.string ⟨#[]⟩) 24
        have hbc := (Below.refl wq20.heap.size wq20).alloc (Nat.le_refl _) (.cells #[.bool false, .string ⟨#[]⟩] 24)
        obtain ⟨gX8, hgX8⟩ : ∃ k, wq20.heap.size = k := ⟨_, rfl⟩
        have leX8 : wr.heap.size ≤ gX8 := by rw [← hgX8]; exact D_q20.out.size
        have D_q25 := lhd (D_q20.out.trans (hbc.mono D_q20.out.size))
        have nX8X9 : gX8 ≠ gX9 := by rw [← hgX8]; have := X9_q20.out.2.2.2.2; omega
        have nX8X9' : gX9 ≠ gX8 := fun h => nX8X9 h.symm
        have X9_q25 := lhd (X9_q20.out.below hbc X9_q20.out.2.2.2.2)
        refine hK.out _ _ (HSD.out _ D_q25.out) (fun _ => ?_)
        clear hK K hbc
        rw [hgX8] at hbx ⊢
        clear hgX8
        generalize wq20.alloc (.cells #[.bool false, .string ⟨#[]⟩] 24) = wq25 at *
        have X8_q25 := lhd hbx
        clear hbx
        try simp only [Act.put, ny1, ny2, ny3, ny4, ny5, ny6]
        refine wpAnyH_ready (rs := [5]) (by kernel_rfl) (by simp) ?_
        refine AllReadyH.cons rfl (fun K hK => ?_) AllReadyH.nil
        go_simp
        refine (HDv2.out _).mono ?_
        rintro e wq26 ⟨rfl, hbc⟩
        have D_q26 := lhd (D_q25.out.trans (hbc.mono D_q25.out.size))
        have X9_q26 := lhd (X9_q25.out.below hbc X9_q25.out.2.2.2.2)
        have X8_q26 := lhd (X8_q25.out.below hbc X8_q25.out.2.2.2.2)
        dsimp only
        refine hK.out _ _ (HSD.out _ D_q26.out) (fun _ => ?_)
        clear hK K hbc
        refine wpAnyH_take (i := 6) (v := ?_) rfl (by kernel_rfl) (by kernel_rfl) (by kernel_rfl) (fun _ _ _ h => h) (Or.inl ⟨by rfl, ?_⟩) (HSD.out _ D_q26.out) ?_
        rotate_left 1
        next => intro w hSw; rw [hSe] at hSw; obtain ⟨s1, s2, s3, s4⟩ := hSw; go_simp; try with_reducible rfl
        try simp only [Act.put, ny1, ny2, ny3, ny4, ny5, ny6]
        refine wpAnyH_take (i := 7) (v := ?_) rfl (by kernel_rfl) (by kernel_rfl) (by kernel_rfl) (fun _ _ _ h => h) (Or.inl ⟨by rfl, ?_⟩) (HSD.out _ D_q26.out) ?_
        rotate_left 1
        next => intro w hSw; rw [hSe] at hSw; obtain ⟨s1, s2, s3, s4⟩ := hSw; go_simp; try with_reducible rfl
        try simp only [Act.put, ny1, ny2, ny3, ny4, ny5, ny6]
        refine wpAnyH_take (i := 8) (v := ?_) rfl (by kernel_rfl) (by kernel_rfl) (by kernel_rfl) (fun _ _ _ h => h) (Or.inl ⟨by rfl, ?_⟩) (HSD.out _ D_q26.out) ?_
        rotate_left 1
        next => intro w hSw; rw [hSe] at hSw; obtain ⟨s1, s2, s3, s4⟩ := hSw; go_simp; try with_reducible rfl
        try simp only [Act.put, ny1, ny2, ny3, ny4, ny5, ny6]
        refine wpAnyH_take (i := 9) (v := ?_) rfl (by kernel_rfl) (by kernel_rfl) (by kernel_rfl) (fun _ _ _ h => h) (Or.inl ⟨by rfl, ?_⟩) (HSD.out _ D_q26.out) ?_
        rotate_left 1
        next => intro w hSw; rw [hSe] at hSw; obtain ⟨s1, s2, s3, s4⟩ := hSw; go_simp; try with_reducible rfl
        try simp only [Act.put, ny1, ny2, ny3, ny4, ny5, ny6]
        refine wpAnyH_ready (rs := [12]) (by kernel_rfl) (by simp) ?_
        refine AllReadyH.cons rfl (fun K hK => ?_) AllReadyH.nil
        obtain ⟨z0, z1, z2, z3, _⟩ := X8_q26.out
        have D_q27 := lhd (((D_q26.out).setCell (p := ⟨gX8, 0, none⟩) leX8 (.bool CY.neg)).setCell (p := ⟨gX8, 1, none⟩) leX8 (.string CY.mag))
        have X9_q27 := lhd (((X9_q26.out).far ⟨gX8, 0, none⟩ (.bool CY.neg) nX8X9).far ⟨gX8, 1, none⟩ (.string CY.mag) nX8X9)
        have X8_q27 := lhd (X8_q26.out.set2 (.bool CY.neg) (.string CY.mag))
        go_simp
        refine hK.out _ _ (HSD.out _ D_q27.out) (fun _ => ?_)
        clear hK K z0 z1 z2 z3
        generalize ((wq26.setCell ⟨gX8, 0, none⟩ (.bool CY.neg)).setCell ⟨gX8, 1, none⟩ (.string CY.mag)) = wq27 at *
        try simp only [Act.put, ny1, ny2, ny3, ny4, ny5, ny6]
        refine wpAnyH_ready (rs := [13]) (by kernel_rfl) (by simp) ?_
        refine AllReadyH.cons rfl (fun K hK => ?_) AllReadyH.nil
        obtain ⟨z0, z1, z2, z3, _⟩ := X9_q27.out
        have D_q28 := lhd (((D_q27.out).setCell (p := ⟨gX9, 0, none⟩) leX9 (.bool C0.neg)).setCell (p := ⟨gX9, 1, none⟩) leX9 (.string C0.mag))
        have X9_q28 := lhd (X9_q27.out.set2 (.bool C0.neg) (.string C0.mag))
        have X8_q28 := lhd (((X8_q27.out).far ⟨gX9, 0, none⟩ (.bool C0.neg) nX8X9').far ⟨gX9, 1, none⟩ (.string C0.mag) nX8X9')
        go_simp
        refine hK.out _ _ (HSD.out _ D_q28.out) (fun _ => ?_)
        clear hK K z0 z1 z2 z3
        generalize ((wq27.setCell ⟨gX9, 0, none⟩ (.bool C0.neg)).setCell ⟨gX9, 1, none⟩ (.string C0.mag)) = wq28 at *
        refine wpAnyH_take (i := 14) (v := ?_) rfl (by kernel_rfl) (by kernel_rfl) (by kernel_rfl) (fun _ _ _ h => h) (Or.inl ⟨by rfl, ?_⟩) (HSD.out _ D_q28.out) ?_
        rotate_left 1
        next => intro w hSw; rw [hSe] at hSw; obtain ⟨s1, s2, s3, s4⟩ := hSw; go_simp; try with_reducible rfl
        try simp only [Act.put, ny1, ny2, ny3, ny4, ny5, ny6]
        refine wpAnyH_done (by kernel_rfl) ?_ _
        have HX9 := X8_q28
        have HD9 := D_q28
        go_upto_region 16 with (fail)
        obtain ⟨x0, x1, _, _, _⟩ := HX9.out
        have HZ4 := lhd (HO.out.below (Nat.le_refl _) HD9.out)
        have HB9 := lhd (HBc.out.trans (HD9.out.mono HBc.out.size))
        have hys := HB9.out.size
        go_wp2_with (at_builtin; refine wpList_append_zs rfl _ _ rfl wc.heap.size _ (zsF (prC f i) j) rfl (HZ4.out.alloc _) wq28.heap.size 0 1 1 [y] rfl rfl ?_ ?_ ?_ ?_)
        ·intro j hj
         have : j = 0 := by simpa using hj
         subst this
         simp [HCY.out]
        ·have := HL.out; simp; omega
        ·simp; omega
        ·intro v9 w9 hown9 hgr9
         have hb9 : Below wc.heap.size wc w9 := below_append (HB9.out.alloc hys _) (HZ4.out.alloc _) hgr9 (by simp; omega) (Nat.le_refl _)
         rw [← Hnx.out] at hown9
         have HN9 := lhd hown9
         have HY9 := lhd hb9
         clear hown9 hgr9 hb9 HZ4 HB9 hys
         go_wp2
         go_roundw
         case rel => exact ⟨j + 1, by omega, by go_num, HN9, HY9⟩
         case measure => simp [intOf]; omega
     ·have j1 : ¬ (j : Int) ≤ (M : Int) := by omega
      obtain rfl : j = i := by omega
      clear hMo
      have hz9 := HO.out
      obtain ⟨r, cap, rfl, _, hrow, _⟩ := hz9.rowF
      have Hrow := lhd hrow
      clear hz9 hrow HO
      go_wp2_with fail
      refine (HCn.out _ _ _ Hrow.out).mono ?_
      rintro e5 w5 ⟨q5, c5, rfl, hr5, hb5⟩
      dsimp only
      have Hr5 := lhd hr5
      have Hb5 := lhd (HB.out.trans ((HBc.out.trans (hb5.mono HBc.out.size)).mono HB.out.size))
      clear hr5 hb5
      go_wp2_with fail
      go_ret
      exact ⟨q5, _, c5, rfl, cn_dg Hr5.out HPout.out, Hb5.out⟩
   ·have hc : ¬ cmpI (f M) 0 < 0 := by
     unfold cmpI
     rw [if_neg hneg]
     split <;> decide
    have hpG := HpG.out
    rw [if_neg hneg] at hpG
    have HG := lhd (show BoxAt wr ga (.bool (canon (prG f i)).neg) (.string (canon (prG f i)).mag) by rw [hpG, hKG]; exact HG.out)
    clear hpG hneg HNg HpG hKG
    generalize cmpI (f M) 0 = cc at *
    go_wp2_with fail
    refine (HCm2.out _).mono ?_
    rintro e4 wc ⟨rfl, hb4⟩
    dsimp only
    have HG := lhd (HG.out.below hb4 HG.out.2.2.2.2)
    have HB := lhd (HB.out.trans (hb4.mono HB.out.size))
    clear hb4 HCm2 a0 a1
    go_wp2_with fail
    go_loopw [6, 7] (fun ov iv wr => ∃ j : Nat, j ≤ i ∧ iv = .int .i64 (j : Nat) ∧ Hid (OwnZ wr wc.heap.size ov (zsF (prC f i) j)) ∧ Hid (Below wc.heap.size wc wr)) (fun _ iv _ => i - (intOf iv).toNat)
    case atStart => exact ⟨0, by omega, by go_num, lhd (OwnZ.made wc (Nat.le_refl _)), lhd ((Below.refl _ _).alloc (Nat.le_refl _) _)⟩
    case round =>
     obtain ⟨j, hj, rfl, HO, HBc⟩ := hrel
     have hMo := HM.out
     by_cases hjl : j < i
     ·have j0 : (0 : Int) ≤ (j : Int) := by omega
      have j1 : (j : Int) ≤ (M : Int) := by omega
      have j2 : (j : Int) < (n : Int) := by omega
      have hjn : j < n := by omega
      clear hMo
      have hdv := fun W => HDv.out j hjl W
      rw [← HPr.out j hjl] at hdv
      have Hnx : Hid (zsF (prC f i) (j + 1) = zsF (prC f i) j ++ [prC f i j]) := lhd (zsF_snoc _ _)
      obtain ⟨y, hy⟩ : ∃ y, prC f i j = y := ⟨_, rfl⟩
      rw [hy] at hdv Hnx
      obtain ⟨CY, hCY⟩ : ∃ z, canon y = z := ⟨_, rfl⟩
      obtain ⟨KG, hKG⟩ : ∃ z, canon (prG f i) = z := ⟨_, rfl⟩
      obtain ⟨CX, hCX⟩ : ∃ z, Z j = z := ⟨_, rfl⟩
      obtain ⟨C0, hC0⟩ : ∃ z, canon 0 = z := ⟨_, rfl⟩
      rw [hCY, hKG, hCX, hC0] at hdv
      have HKc := HG.out
      rw [hKG] at HKc
      have HDv2 := lhd hdv
      have HCY := lhd hCY
      have HKG := lhd hKG
      have hcx := fun W hW => Hpc.out W hW j hjn
      rw [hCX] at hcx
      have hl9 : (zsF (prC f i) j).length < 1000000000 := by rw [zsF_len]; omega
      have HL := lhd hl9
      obtain ⟨SS, hSe⟩ : ∃ SS : World → Prop, SS = fun W => W.cell? ⟨pb, po + j * 2, none⟩ = some (.bool CX.neg) ∧ W.cell? ⟨pb, po + j * 2 + 1, none⟩ = some (.string CX.mag) ∧ W.cell? ⟨ga, 0, none⟩ = some (.bool KG.neg) ∧ W.cell? ⟨ga, 1, none⟩ = some (.string KG.mag) := ⟨_, rfl⟩
      have HSD : Hid (∀ W, Below wr.heap.size wr W → SS W) := lhd (fun W hW => by
       have hWc := HBc.out.trans (hW.mono HBc.out.size)
       have h := hcx W (HB.out.trans (hWc.mono HB.out.size))
       obtain ⟨g0, g1, _, _, hg⟩ := HKc
       rw [hSe]; exact ⟨h.1, h.2, cell_below hWc g0, cell_below hWc g1⟩)
      have HD0 := lhd (Below.refl wr.heap.size wr)
      clear hdv hy hCY hKG hCX hC0 hcx hl9 HKc
      go_upto_region 15 with (fail)
      refine wp_region_held_drew (S := SS) (by kernel_rfl) (HSD.out _ HD0.out.drew) (fun _ => ?_)
      have D_q1 := lhd (HD0.out.drew)
      generalize wr.drew = wd at *
      refine wpAnyH_take (i := 0) (v := ?_) rfl (by kernel_rfl) (by kernel_rfl) (by kernel_rfl) (fun _ _ _ h => h) (Or.inl ⟨by rfl, ?_⟩) (HSD.out _ D_q1.out) ?_
      rotate_left 1
      next => intro w hSw; rw [hSe] at hSw; obtain ⟨s1, s2, s3, s4⟩ := hSw; go_simp; try with_reducible rfl
      try simp only [Act.put, ny1, ny2, ny3, ny4, ny5, ny6]
      refine wpAnyH_take (i := 1) (v := ?_) rfl (by kernel_rfl) (by kernel_rfl) (by kernel_rfl) (fun _ _ _ h => h) (Or.inl ⟨by rfl, ?_⟩) (HSD.out _ D_q1.out) ?_
      rotate_left 1
      next => intro w hSw; rw [hSe] at hSw; obtain ⟨s1, s2, s3, s4⟩ := hSw; go_simp; try with_reducible rfl
      try simp only [Act.put, ny1, ny2, ny3, ny4, ny5, ny6]
      refine wpAnyH_take (i := 2) (v := ?_) rfl (by kernel_rfl) (by kernel_rfl) (by kernel_rfl) (fun _ _ _ h => h) (Or.inl ⟨by rfl, ?_⟩) (HSD.out _ D_q1.out) ?_
      rotate_left 1
      next => intro w hSw; rw [hSe] at hSw; obtain ⟨s1, s2, s3, s4⟩ := hSw; go_simp; try with_reducible rfl
      try simp only [Act.put, ny1, ny2, ny3, ny4, ny5, ny6]
      refine wpAnyH_take (i := 3) (v := ?_) rfl (by kernel_rfl) (by kernel_rfl) (by kernel_rfl) (fun _ _ _ h => h) (Or.inl ⟨by rfl, ?_⟩) (HSD.out _ D_q1.out) ?_
      rotate_left 1
      next => intro w hSw; rw [hSe] at hSw; obtain ⟨s1, s2, s3, s4⟩ := hSw; go_simp; try with_reducible rfl
      try simp only [Act.put, ny1, ny2, ny3, ny4, ny5, ny6]
      refine wpAnyH_take (i := 4) (v := ?_) rfl (by kernel_rfl) (by kernel_rfl) (by kernel_rfl) (fun _ _ _ h => h) (Or.inl ⟨by rfl, ?_⟩) (HSD.out _ D_q1.out) ?_
      rotate_left 1
      next => intro w hSw; rw [hSe] at hSw; obtain ⟨s1, s2, s3, s4⟩ := hSw; go_simp; try with_reducible rfl
      try simp only [Act.put, ny1, ny2, ny3, ny4, ny5, ny6]
      refine wpAnyH_ready (rs := [5, 10, 11]) (by kernel_rfl) (by simp) ?_
      refine AllReadyH.cons rfl (fun K hK => ?_) (AllReadyH.cons rfl (fun K hK => ?_) (AllReadyH.cons rfl (fun K hK => ?_) AllReadyH.nil))
      ·go_simp
       refine (HDv2.out _).mono ?_
       rintro e wq2 ⟨rfl, hbc⟩
       have D_q2 := lhd (D_q1.out.trans (hbc.mono D_q1.out.size))
       dsimp only
       refine hK.out _ _ (HSD.out _ D_q2.out) (fun _ => ?_)
       clear hK K hbc
       refine wpAnyH_take (i := 6) (v := ?_) rfl (by kernel_rfl) (by kernel_rfl) (by kernel_rfl) (fun _ _ _ h => h) (Or.inl ⟨by rfl, ?_⟩) (HSD.out _ D_q2.out) ?_
       rotate_left 1
       next => intro w hSw; rw [hSe] at hSw; obtain ⟨s1, s2, s3, s4⟩ := hSw; go_simp; try with_reducible rfl
       try simp only [Act.put, ny1, ny2, ny3, ny4, ny5, ny6]
       refine wpAnyH_take (i := 7) (v := ?_) rfl (by kernel_rfl) (by kernel_rfl) (by kernel_rfl) (fun _ _ _ h => h) (Or.inl ⟨by rfl, ?_⟩) (HSD.out _ D_q2.out) ?_
       rotate_left 1
       next => intro w hSw; rw [hSe] at hSw; obtain ⟨s1, s2, s3, s4⟩ := hSw; go_simp; try with_reducible rfl
       try simp only [Act.put, ny1, ny2, ny3, ny4, ny5, ny6]
       refine wpAnyH_take (i := 8) (v := ?_) rfl (by kernel_rfl) (by kernel_rfl) (by kernel_rfl) (fun _ _ _ h => h) (Or.inl ⟨by rfl, ?_⟩) (HSD.out _ D_q2.out) ?_
       rotate_left 1
       next => intro w hSw; rw [hSe] at hSw; obtain ⟨s1, s2, s3, s4⟩ := hSw; go_simp; try with_reducible rfl
       try simp only [Act.put, ny1, ny2, ny3, ny4, ny5, ny6]
       refine wpAnyH_take (i := 9) (v := ?_) rfl (by kernel_rfl) (by kernel_rfl) (by kernel_rfl) (fun _ _ _ h => h) (Or.inl ⟨by rfl, ?_⟩) (HSD.out _ D_q2.out) ?_
       rotate_left 1
       next => intro w hSw; rw [hSe] at hSw; obtain ⟨s1, s2, s3, s4⟩ := hSw; go_simp; try with_reducible rfl
       try simp only [Act.put, ny1, ny2, ny3, ny4, ny5, ny6]
       refine wpAnyH_ready (rs := [10, 11]) (by kernel_rfl) (by simp) ?_
       refine AllReadyH.cons rfl (fun K hK => ?_) (AllReadyH.cons rfl (fun K hK => ?_) AllReadyH.nil)
       ·go_simp
        have hbx := BoxAt.new wq2 (.bool false) (.string ⟨#[]⟩) 24
        have hbc := (Below.refl wq2.heap.size wq2).alloc (Nat.le_refl _) (.cells #[.bool false, .string ⟨#[]⟩] 24)
        obtain ⟨gX8, hgX8⟩ : ∃ k, wq2.heap.size = k := ⟨_, rfl⟩
        have leX8 : wr.heap.size ≤ gX8 := by rw [← hgX8]; exact D_q2.out.size
        have D_q3 := lhd (D_q2.out.trans (hbc.mono D_q2.out.size))
        refine hK.out _ _ (HSD.out _ D_q3.out) (fun _ => ?_)
        clear hK K hbc
        rw [hgX8] at hbx ⊢
        clear hgX8
        generalize wq2.alloc (.cells #[.bool false, .string ⟨#[]⟩] 24) = wq3 at *
        have X8_q3 := lhd hbx
        clear hbx
        try simp only [Act.put, ny1, ny2, ny3, ny4, ny5, ny6]
        refine wpAnyH_ready (rs := [11]) (by kernel_rfl) (by simp) ?_
        refine AllReadyH.cons rfl (fun K hK => ?_) AllReadyH.nil
        go_simp
        have hbx := BoxAt.new wq3 (.bool false) (.string ⟨#[]⟩) 24
        have hbc := (Below.refl wq3.heap.size wq3).alloc (Nat.le_refl _) (.cells #[.bool false, .string ⟨#[]⟩] 24)
        obtain ⟨gX9, hgX9⟩ : ∃ k, wq3.heap.size = k := ⟨_, rfl⟩
        have leX9 : wr.heap.size ≤ gX9 := by rw [← hgX9]; exact D_q3.out.size
        have D_q4 := lhd (D_q3.out.trans (hbc.mono D_q3.out.size))
        have nX9X8 : gX9 ≠ gX8 := by rw [← hgX9]; have := X8_q3.out.2.2.2.2; omega
        have nX9X8' : gX8 ≠ gX9 := fun h => nX9X8 h.symm
        have X8_q4 := lhd (X8_q3.out.below hbc X8_q3.out.2.2.2.2)
        refine hK.out _ _ (HSD.out _ D_q4.out) (fun _ => ?_)
        clear hK K hbc
        rw [hgX9] at hbx ⊢
        clear hgX9
        generalize wq3.alloc (.cells #[.bool false, .string ⟨#[]⟩] 24) = wq4 at *
        have X9_q4 := lhd hbx
        clear hbx
        try simp only [Act.put, ny1, ny2, ny3, ny4, ny5, ny6]
        refine wpAnyH_ready (rs := [12]) (by kernel_rfl) (by simp) ?_
        refine AllReadyH.cons rfl (fun K hK => ?_) AllReadyH.nil
        obtain ⟨z0, z1, z2, z3, _⟩ := X8_q4.out
        have D_q5 := lhd (((D_q4.out).setCell (p := ⟨gX8, 0, none⟩) leX8 (.bool CY.neg)).setCell (p := ⟨gX8, 1, none⟩) leX8 (.string CY.mag))
        have X8_q5 := lhd (X8_q4.out.set2 (.bool CY.neg) (.string CY.mag))
        have X9_q5 := lhd (((X9_q4.out).far ⟨gX8, 0, none⟩ (.bool CY.neg) nX9X8').far ⟨gX8, 1, none⟩ (.string CY.mag) nX9X8')
        go_simp
        refine hK.out _ _ (HSD.out _ D_q5.out) (fun _ => ?_)
        clear hK K z0 z1 z2 z3
        generalize ((wq4.setCell ⟨gX8, 0, none⟩ (.bool CY.neg)).setCell ⟨gX8, 1, none⟩ (.string CY.mag)) = wq5 at *
        try simp only [Act.put, ny1, ny2, ny3, ny4, ny5, ny6]
        refine wpAnyH_ready (rs := [13]) (by kernel_rfl) (by simp) ?_
        refine AllReadyH.cons rfl (fun K hK => ?_) AllReadyH.nil
        obtain ⟨z0, z1, z2, z3, _⟩ := X9_q5.out
        have D_q6 := lhd (((D_q5.out).setCell (p := ⟨gX9, 0, none⟩) leX9 (.bool C0.neg)).setCell (p := ⟨gX9, 1, none⟩) leX9 (.string C0.mag))
        have X8_q6 := lhd (((X8_q5.out).far ⟨gX9, 0, none⟩ (.bool C0.neg) nX9X8).far ⟨gX9, 1, none⟩ (.string C0.mag) nX9X8)
        have X9_q6 := lhd (X9_q5.out.set2 (.bool C0.neg) (.string C0.mag))
        go_simp
        refine hK.out _ _ (HSD.out _ D_q6.out) (fun _ => ?_)
        clear hK K z0 z1 z2 z3
        generalize ((wq5.setCell ⟨gX9, 0, none⟩ (.bool C0.neg)).setCell ⟨gX9, 1, none⟩ (.string C0.mag)) = wq6 at *
        refine wpAnyH_take (i := 14) (v := ?_) rfl (by kernel_rfl) (by kernel_rfl) (by kernel_rfl) (fun _ _ _ h => h) (Or.inl ⟨by rfl, ?_⟩) (HSD.out _ D_q6.out) ?_
        rotate_left 1
        next => intro w hSw; rw [hSe] at hSw; obtain ⟨s1, s2, s3, s4⟩ := hSw; go_simp; try with_reducible rfl
        try simp only [Act.put, ny1, ny2, ny3, ny4, ny5, ny6]
        refine wpAnyH_done (by kernel_rfl) ?_ _
        have HX9 := X8_q6
        have HD9 := D_q6
        go_upto_region 16 with (fail)
        obtain ⟨x0, x1, _, _, _⟩ := HX9.out
        have HZ4 := lhd (HO.out.below (Nat.le_refl _) HD9.out)
        have HB9 := lhd (HBc.out.trans (HD9.out.mono HBc.out.size))
        have hys := HB9.out.size
        go_wp2_with (at_builtin; refine wpList_append_zs rfl _ _ rfl wc.heap.size _ (zsF (prC f i) j) rfl (HZ4.out.alloc _) wq6.heap.size 0 1 1 [y] rfl rfl ?_ ?_ ?_ ?_)
        ·intro j hj
         have : j = 0 := by simpa using hj
         subst this
         simp [HCY.out]
        ·have := HL.out; simp; omega
        ·simp; omega
        ·intro v9 w9 hown9 hgr9
         have hb9 : Below wc.heap.size wc w9 := below_append (HB9.out.alloc hys _) (HZ4.out.alloc _) hgr9 (by simp; omega) (Nat.le_refl _)
         rw [← Hnx.out] at hown9
         have HN9 := lhd hown9
         have HY9 := lhd hb9
         clear hown9 hgr9 hb9 HZ4 HB9 hys
         go_wp2
         go_roundw
         case rel => exact ⟨j + 1, by omega, by go_num, HN9, HY9⟩
         case measure => simp [intOf]; omega
       ·go_simp
        have hbx := BoxAt.new wq2 (.bool false) (.string ⟨#[]⟩) 24
        have hbc := (Below.refl wq2.heap.size wq2).alloc (Nat.le_refl _) (.cells #[.bool false, .string ⟨#[]⟩] 24)
        obtain ⟨gX9, hgX9⟩ : ∃ k, wq2.heap.size = k := ⟨_, rfl⟩
        have leX9 : wr.heap.size ≤ gX9 := by rw [← hgX9]; exact D_q2.out.size
        have D_q7 := lhd (D_q2.out.trans (hbc.mono D_q2.out.size))
        refine hK.out _ _ (HSD.out _ D_q7.out) (fun _ => ?_)
        clear hK K hbc
        rw [hgX9] at hbx ⊢
        clear hgX9
        generalize wq2.alloc (.cells #[.bool false, .string ⟨#[]⟩] 24) = wq7 at *
        have X9_q7 := lhd hbx
        clear hbx
        try simp only [Act.put, ny1, ny2, ny3, ny4, ny5, ny6]
        refine wpAnyH_ready (rs := [10]) (by kernel_rfl) (by simp) ?_
        refine AllReadyH.cons rfl (fun K hK => ?_) AllReadyH.nil
        go_simp
        have hbx := BoxAt.new wq7 (.bool false) (.string ⟨#[]⟩) 24
        have hbc := (Below.refl wq7.heap.size wq7).alloc (Nat.le_refl _) (.cells #[.bool false, .string ⟨#[]⟩] 24)
        obtain ⟨gX8, hgX8⟩ : ∃ k, wq7.heap.size = k := ⟨_, rfl⟩
        have leX8 : wr.heap.size ≤ gX8 := by rw [← hgX8]; exact D_q7.out.size
        have D_q8 := lhd (D_q7.out.trans (hbc.mono D_q7.out.size))
        have nX8X9 : gX8 ≠ gX9 := by rw [← hgX8]; have := X9_q7.out.2.2.2.2; omega
        have nX8X9' : gX9 ≠ gX8 := fun h => nX8X9 h.symm
        have X9_q8 := lhd (X9_q7.out.below hbc X9_q7.out.2.2.2.2)
        refine hK.out _ _ (HSD.out _ D_q8.out) (fun _ => ?_)
        clear hK K hbc
        rw [hgX8] at hbx ⊢
        clear hgX8
        generalize wq7.alloc (.cells #[.bool false, .string ⟨#[]⟩] 24) = wq8 at *
        have X8_q8 := lhd hbx
        clear hbx
        try simp only [Act.put, ny1, ny2, ny3, ny4, ny5, ny6]
        refine wpAnyH_ready (rs := [12]) (by kernel_rfl) (by simp) ?_
        refine AllReadyH.cons rfl (fun K hK => ?_) AllReadyH.nil
        obtain ⟨z0, z1, z2, z3, _⟩ := X8_q8.out
        have D_q9 := lhd (((D_q8.out).setCell (p := ⟨gX8, 0, none⟩) leX8 (.bool CY.neg)).setCell (p := ⟨gX8, 1, none⟩) leX8 (.string CY.mag))
        have X9_q9 := lhd (((X9_q8.out).far ⟨gX8, 0, none⟩ (.bool CY.neg) nX8X9).far ⟨gX8, 1, none⟩ (.string CY.mag) nX8X9)
        have X8_q9 := lhd (X8_q8.out.set2 (.bool CY.neg) (.string CY.mag))
        go_simp
        refine hK.out _ _ (HSD.out _ D_q9.out) (fun _ => ?_)
        clear hK K z0 z1 z2 z3
        generalize ((wq8.setCell ⟨gX8, 0, none⟩ (.bool CY.neg)).setCell ⟨gX8, 1, none⟩ (.string CY.mag)) = wq9 at *
        try simp only [Act.put, ny1, ny2, ny3, ny4, ny5, ny6]
        refine wpAnyH_ready (rs := [13]) (by kernel_rfl) (by simp) ?_
        refine AllReadyH.cons rfl (fun K hK => ?_) AllReadyH.nil
        obtain ⟨z0, z1, z2, z3, _⟩ := X9_q9.out
        have D_q10 := lhd (((D_q9.out).setCell (p := ⟨gX9, 0, none⟩) leX9 (.bool C0.neg)).setCell (p := ⟨gX9, 1, none⟩) leX9 (.string C0.mag))
        have X9_q10 := lhd (X9_q9.out.set2 (.bool C0.neg) (.string C0.mag))
        have X8_q10 := lhd (((X8_q9.out).far ⟨gX9, 0, none⟩ (.bool C0.neg) nX8X9').far ⟨gX9, 1, none⟩ (.string C0.mag) nX8X9')
        go_simp
        refine hK.out _ _ (HSD.out _ D_q10.out) (fun _ => ?_)
        clear hK K z0 z1 z2 z3
        generalize ((wq9.setCell ⟨gX9, 0, none⟩ (.bool C0.neg)).setCell ⟨gX9, 1, none⟩ (.string C0.mag)) = wq10 at *
        refine wpAnyH_take (i := 14) (v := ?_) rfl (by kernel_rfl) (by kernel_rfl) (by kernel_rfl) (fun _ _ _ h => h) (Or.inl ⟨by rfl, ?_⟩) (HSD.out _ D_q10.out) ?_
        rotate_left 1
        next => intro w hSw; rw [hSe] at hSw; obtain ⟨s1, s2, s3, s4⟩ := hSw; go_simp; try with_reducible rfl
        try simp only [Act.put, ny1, ny2, ny3, ny4, ny5, ny6]
        refine wpAnyH_done (by kernel_rfl) ?_ _
        have HX9 := X8_q10
        have HD9 := D_q10
        go_upto_region 16 with (fail)
        obtain ⟨x0, x1, _, _, _⟩ := HX9.out
        have HZ4 := lhd (HO.out.below (Nat.le_refl _) HD9.out)
        have HB9 := lhd (HBc.out.trans (HD9.out.mono HBc.out.size))
        have hys := HB9.out.size
        go_wp2_with (at_builtin; refine wpList_append_zs rfl _ _ rfl wc.heap.size _ (zsF (prC f i) j) rfl (HZ4.out.alloc _) wq10.heap.size 0 1 1 [y] rfl rfl ?_ ?_ ?_ ?_)
        ·intro j hj
         have : j = 0 := by simpa using hj
         subst this
         simp [HCY.out]
        ·have := HL.out; simp; omega
        ·simp; omega
        ·intro v9 w9 hown9 hgr9
         have hb9 : Below wc.heap.size wc w9 := below_append (HB9.out.alloc hys _) (HZ4.out.alloc _) hgr9 (by simp; omega) (Nat.le_refl _)
         rw [← Hnx.out] at hown9
         have HN9 := lhd hown9
         have HY9 := lhd hb9
         clear hown9 hgr9 hb9 HZ4 HB9 hys
         go_wp2
         go_roundw
         case rel => exact ⟨j + 1, by omega, by go_num, HN9, HY9⟩
         case measure => simp [intOf]; omega
      ·go_simp
       have hbx := BoxAt.new wd (.bool false) (.string ⟨#[]⟩) 24
       have hbc := (Below.refl wd.heap.size wd).alloc (Nat.le_refl _) (.cells #[.bool false, .string ⟨#[]⟩] 24)
       obtain ⟨gX8, hgX8⟩ : ∃ k, wd.heap.size = k := ⟨_, rfl⟩
       have leX8 : wr.heap.size ≤ gX8 := by rw [← hgX8]; exact D_q1.out.size
       have D_q11 := lhd (D_q1.out.trans (hbc.mono D_q1.out.size))
       refine hK.out _ _ (HSD.out _ D_q11.out) (fun _ => ?_)
       clear hK K hbc
       rw [hgX8] at hbx ⊢
       clear hgX8
       generalize wd.alloc (.cells #[.bool false, .string ⟨#[]⟩] 24) = wq11 at *
       have X8_q11 := lhd hbx
       clear hbx
       try simp only [Act.put, ny1, ny2, ny3, ny4, ny5, ny6]
       refine wpAnyH_ready (rs := [5, 11]) (by kernel_rfl) (by simp) ?_
       refine AllReadyH.cons rfl (fun K hK => ?_) (AllReadyH.cons rfl (fun K hK => ?_) AllReadyH.nil)
       ·go_simp
        refine (HDv2.out _).mono ?_
        rintro e wq12 ⟨rfl, hbc⟩
        have D_q12 := lhd (D_q11.out.trans (hbc.mono D_q11.out.size))
        have X8_q12 := lhd (X8_q11.out.below hbc X8_q11.out.2.2.2.2)
        dsimp only
        refine hK.out _ _ (HSD.out _ D_q12.out) (fun _ => ?_)
        clear hK K hbc
        refine wpAnyH_take (i := 6) (v := ?_) rfl (by kernel_rfl) (by kernel_rfl) (by kernel_rfl) (fun _ _ _ h => h) (Or.inl ⟨by rfl, ?_⟩) (HSD.out _ D_q12.out) ?_
        rotate_left 1
        next => intro w hSw; rw [hSe] at hSw; obtain ⟨s1, s2, s3, s4⟩ := hSw; go_simp; try with_reducible rfl
        try simp only [Act.put, ny1, ny2, ny3, ny4, ny5, ny6]
        refine wpAnyH_take (i := 7) (v := ?_) rfl (by kernel_rfl) (by kernel_rfl) (by kernel_rfl) (fun _ _ _ h => h) (Or.inl ⟨by rfl, ?_⟩) (HSD.out _ D_q12.out) ?_
        rotate_left 1
        next => intro w hSw; rw [hSe] at hSw; obtain ⟨s1, s2, s3, s4⟩ := hSw; go_simp; try with_reducible rfl
        try simp only [Act.put, ny1, ny2, ny3, ny4, ny5, ny6]
        refine wpAnyH_take (i := 8) (v := ?_) rfl (by kernel_rfl) (by kernel_rfl) (by kernel_rfl) (fun _ _ _ h => h) (Or.inl ⟨by rfl, ?_⟩) (HSD.out _ D_q12.out) ?_
        rotate_left 1
        next => intro w hSw; rw [hSe] at hSw; obtain ⟨s1, s2, s3, s4⟩ := hSw; go_simp; try with_reducible rfl
        try simp only [Act.put, ny1, ny2, ny3, ny4, ny5, ny6]
        refine wpAnyH_take (i := 9) (v := ?_) rfl (by kernel_rfl) (by kernel_rfl) (by kernel_rfl) (fun _ _ _ h => h) (Or.inl ⟨by rfl, ?_⟩) (HSD.out _ D_q12.out) ?_
        rotate_left 1
        next => intro w hSw; rw [hSe] at hSw; obtain ⟨s1, s2, s3, s4⟩ := hSw; go_simp; try with_reducible rfl
        try simp only [Act.put, ny1, ny2, ny3, ny4, ny5, ny6]
        refine wpAnyH_ready (rs := [11]) (by kernel_rfl) (by simp) ?_
        refine AllReadyH.cons rfl (fun K hK => ?_) AllReadyH.nil
        go_simp
        have hbx := BoxAt.new wq12 (.bool false) (.string ⟨#[]⟩) 24
        have hbc := (Below.refl wq12.heap.size wq12).alloc (Nat.le_refl _) (.cells #[.bool false, .string ⟨#[]⟩] 24)
        obtain ⟨gX9, hgX9⟩ : ∃ k, wq12.heap.size = k := ⟨_, rfl⟩
        have leX9 : wr.heap.size ≤ gX9 := by rw [← hgX9]; exact D_q12.out.size
        have D_q13 := lhd (D_q12.out.trans (hbc.mono D_q12.out.size))
        have nX9X8 : gX9 ≠ gX8 := by rw [← hgX9]; have := X8_q12.out.2.2.2.2; omega
        have nX9X8' : gX8 ≠ gX9 := fun h => nX9X8 h.symm
        have X8_q13 := lhd (X8_q12.out.below hbc X8_q12.out.2.2.2.2)
        refine hK.out _ _ (HSD.out _ D_q13.out) (fun _ => ?_)
        clear hK K hbc
        rw [hgX9] at hbx ⊢
        clear hgX9
        generalize wq12.alloc (.cells #[.bool false, .string ⟨#[]⟩] 24) = wq13 at *
        have X9_q13 := lhd hbx
        clear hbx
        try simp only [Act.put, ny1, ny2, ny3, ny4, ny5, ny6]
        refine wpAnyH_ready (rs := [12]) (by kernel_rfl) (by simp) ?_
        refine AllReadyH.cons rfl (fun K hK => ?_) AllReadyH.nil
        obtain ⟨z0, z1, z2, z3, _⟩ := X8_q13.out
        have D_q14 := lhd (((D_q13.out).setCell (p := ⟨gX8, 0, none⟩) leX8 (.bool CY.neg)).setCell (p := ⟨gX8, 1, none⟩) leX8 (.string CY.mag))
        have X8_q14 := lhd (X8_q13.out.set2 (.bool CY.neg) (.string CY.mag))
        have X9_q14 := lhd (((X9_q13.out).far ⟨gX8, 0, none⟩ (.bool CY.neg) nX9X8').far ⟨gX8, 1, none⟩ (.string CY.mag) nX9X8')
        go_simp
        refine hK.out _ _ (HSD.out _ D_q14.out) (fun _ => ?_)
        clear hK K z0 z1 z2 z3
        generalize ((wq13.setCell ⟨gX8, 0, none⟩ (.bool CY.neg)).setCell ⟨gX8, 1, none⟩ (.string CY.mag)) = wq14 at *
        try simp only [Act.put, ny1, ny2, ny3, ny4, ny5, ny6]
        refine wpAnyH_ready (rs := [13]) (by kernel_rfl) (by simp) ?_
        refine AllReadyH.cons rfl (fun K hK => ?_) AllReadyH.nil
        obtain ⟨z0, z1, z2, z3, _⟩ := X9_q14.out
        have D_q15 := lhd (((D_q14.out).setCell (p := ⟨gX9, 0, none⟩) leX9 (.bool C0.neg)).setCell (p := ⟨gX9, 1, none⟩) leX9 (.string C0.mag))
        have X8_q15 := lhd (((X8_q14.out).far ⟨gX9, 0, none⟩ (.bool C0.neg) nX9X8).far ⟨gX9, 1, none⟩ (.string C0.mag) nX9X8)
        have X9_q15 := lhd (X9_q14.out.set2 (.bool C0.neg) (.string C0.mag))
        go_simp
        refine hK.out _ _ (HSD.out _ D_q15.out) (fun _ => ?_)
        clear hK K z0 z1 z2 z3
        generalize ((wq14.setCell ⟨gX9, 0, none⟩ (.bool C0.neg)).setCell ⟨gX9, 1, none⟩ (.string C0.mag)) = wq15 at *
        refine wpAnyH_take (i := 14) (v := ?_) rfl (by kernel_rfl) (by kernel_rfl) (by kernel_rfl) (fun _ _ _ h => h) (Or.inl ⟨by rfl, ?_⟩) (HSD.out _ D_q15.out) ?_
        rotate_left 1
        next => intro w hSw; rw [hSe] at hSw; obtain ⟨s1, s2, s3, s4⟩ := hSw; go_simp; try with_reducible rfl
        try simp only [Act.put, ny1, ny2, ny3, ny4, ny5, ny6]
        refine wpAnyH_done (by kernel_rfl) ?_ _
        have HX9 := X8_q15
        have HD9 := D_q15
        go_upto_region 16 with (fail)
        obtain ⟨x0, x1, _, _, _⟩ := HX9.out
        have HZ4 := lhd (HO.out.below (Nat.le_refl _) HD9.out)
        have HB9 := lhd (HBc.out.trans (HD9.out.mono HBc.out.size))
        have hys := HB9.out.size
        go_wp2_with (at_builtin; refine wpList_append_zs rfl _ _ rfl wc.heap.size _ (zsF (prC f i) j) rfl (HZ4.out.alloc _) wq15.heap.size 0 1 1 [y] rfl rfl ?_ ?_ ?_ ?_)
        ·intro j hj
         have : j = 0 := by simpa using hj
         subst this
         simp [HCY.out]
        ·have := HL.out; simp; omega
        ·simp; omega
        ·intro v9 w9 hown9 hgr9
         have hb9 : Below wc.heap.size wc w9 := below_append (HB9.out.alloc hys _) (HZ4.out.alloc _) hgr9 (by simp; omega) (Nat.le_refl _)
         rw [← Hnx.out] at hown9
         have HN9 := lhd hown9
         have HY9 := lhd hb9
         clear hown9 hgr9 hb9 HZ4 HB9 hys
         go_wp2
         go_roundw
         case rel => exact ⟨j + 1, by omega, by go_num, HN9, HY9⟩
         case measure => simp [intOf]; omega
       ·go_simp
        have hbx := BoxAt.new wq11 (.bool false) (.string ⟨#[]⟩) 24
        have hbc := (Below.refl wq11.heap.size wq11).alloc (Nat.le_refl _) (.cells #[.bool false, .string ⟨#[]⟩] 24)
        obtain ⟨gX9, hgX9⟩ : ∃ k, wq11.heap.size = k := ⟨_, rfl⟩
        have leX9 : wr.heap.size ≤ gX9 := by rw [← hgX9]; exact D_q11.out.size
        have D_q16 := lhd (D_q11.out.trans (hbc.mono D_q11.out.size))
        have nX9X8 : gX9 ≠ gX8 := by rw [← hgX9]; have := X8_q11.out.2.2.2.2; omega
        have nX9X8' : gX8 ≠ gX9 := fun h => nX9X8 h.symm
        have X8_q16 := lhd (X8_q11.out.below hbc X8_q11.out.2.2.2.2)
        refine hK.out _ _ (HSD.out _ D_q16.out) (fun _ => ?_)
        clear hK K hbc
        rw [hgX9] at hbx ⊢
        clear hgX9
        generalize wq11.alloc (.cells #[.bool false, .string ⟨#[]⟩] 24) = wq16 at *
        have X9_q16 := lhd hbx
        clear hbx
        try simp only [Act.put, ny1, ny2, ny3, ny4, ny5, ny6]
        refine wpAnyH_ready (rs := [5]) (by kernel_rfl) (by simp) ?_
        refine AllReadyH.cons rfl (fun K hK => ?_) AllReadyH.nil
        go_simp
        refine (HDv2.out _).mono ?_
        rintro e wq17 ⟨rfl, hbc⟩
        have D_q17 := lhd (D_q16.out.trans (hbc.mono D_q16.out.size))
        have X8_q17 := lhd (X8_q16.out.below hbc X8_q16.out.2.2.2.2)
        have X9_q17 := lhd (X9_q16.out.below hbc X9_q16.out.2.2.2.2)
        dsimp only
        refine hK.out _ _ (HSD.out _ D_q17.out) (fun _ => ?_)
        clear hK K hbc
        refine wpAnyH_take (i := 6) (v := ?_) rfl (by kernel_rfl) (by kernel_rfl) (by kernel_rfl) (fun _ _ _ h => h) (Or.inl ⟨by rfl, ?_⟩) (HSD.out _ D_q17.out) ?_
        rotate_left 1
        next => intro w hSw; rw [hSe] at hSw; obtain ⟨s1, s2, s3, s4⟩ := hSw; go_simp; try with_reducible rfl
        try simp only [Act.put, ny1, ny2, ny3, ny4, ny5, ny6]
        refine wpAnyH_take (i := 7) (v := ?_) rfl (by kernel_rfl) (by kernel_rfl) (by kernel_rfl) (fun _ _ _ h => h) (Or.inl ⟨by rfl, ?_⟩) (HSD.out _ D_q17.out) ?_
        rotate_left 1
        next => intro w hSw; rw [hSe] at hSw; obtain ⟨s1, s2, s3, s4⟩ := hSw; go_simp; try with_reducible rfl
        try simp only [Act.put, ny1, ny2, ny3, ny4, ny5, ny6]
        refine wpAnyH_take (i := 8) (v := ?_) rfl (by kernel_rfl) (by kernel_rfl) (by kernel_rfl) (fun _ _ _ h => h) (Or.inl ⟨by rfl, ?_⟩) (HSD.out _ D_q17.out) ?_
        rotate_left 1
        next => intro w hSw; rw [hSe] at hSw; obtain ⟨s1, s2, s3, s4⟩ := hSw; go_simp; try with_reducible rfl
        try simp only [Act.put, ny1, ny2, ny3, ny4, ny5, ny6]
        refine wpAnyH_take (i := 9) (v := ?_) rfl (by kernel_rfl) (by kernel_rfl) (by kernel_rfl) (fun _ _ _ h => h) (Or.inl ⟨by rfl, ?_⟩) (HSD.out _ D_q17.out) ?_
        rotate_left 1
        next => intro w hSw; rw [hSe] at hSw; obtain ⟨s1, s2, s3, s4⟩ := hSw; go_simp; try with_reducible rfl
        try simp only [Act.put, ny1, ny2, ny3, ny4, ny5, ny6]
        refine wpAnyH_ready (rs := [12]) (by kernel_rfl) (by simp) ?_
        refine AllReadyH.cons rfl (fun K hK => ?_) AllReadyH.nil
        obtain ⟨z0, z1, z2, z3, _⟩ := X8_q17.out
        have D_q18 := lhd (((D_q17.out).setCell (p := ⟨gX8, 0, none⟩) leX8 (.bool CY.neg)).setCell (p := ⟨gX8, 1, none⟩) leX8 (.string CY.mag))
        have X8_q18 := lhd (X8_q17.out.set2 (.bool CY.neg) (.string CY.mag))
        have X9_q18 := lhd (((X9_q17.out).far ⟨gX8, 0, none⟩ (.bool CY.neg) nX9X8').far ⟨gX8, 1, none⟩ (.string CY.mag) nX9X8')
        go_simp
        refine hK.out _ _ (HSD.out _ D_q18.out) (fun _ => ?_)
        clear hK K z0 z1 z2 z3
        generalize ((wq17.setCell ⟨gX8, 0, none⟩ (.bool CY.neg)).setCell ⟨gX8, 1, none⟩ (.string CY.mag)) = wq18 at *
        try simp only [Act.put, ny1, ny2, ny3, ny4, ny5, ny6]
        refine wpAnyH_ready (rs := [13]) (by kernel_rfl) (by simp) ?_
        refine AllReadyH.cons rfl (fun K hK => ?_) AllReadyH.nil
        obtain ⟨z0, z1, z2, z3, _⟩ := X9_q18.out
        have D_q19 := lhd (((D_q18.out).setCell (p := ⟨gX9, 0, none⟩) leX9 (.bool C0.neg)).setCell (p := ⟨gX9, 1, none⟩) leX9 (.string C0.mag))
        have X8_q19 := lhd (((X8_q18.out).far ⟨gX9, 0, none⟩ (.bool C0.neg) nX9X8).far ⟨gX9, 1, none⟩ (.string C0.mag) nX9X8)
        have X9_q19 := lhd (X9_q18.out.set2 (.bool C0.neg) (.string C0.mag))
        go_simp
        refine hK.out _ _ (HSD.out _ D_q19.out) (fun _ => ?_)
        clear hK K z0 z1 z2 z3
        generalize ((wq18.setCell ⟨gX9, 0, none⟩ (.bool C0.neg)).setCell ⟨gX9, 1, none⟩ (.string C0.mag)) = wq19 at *
        refine wpAnyH_take (i := 14) (v := ?_) rfl (by kernel_rfl) (by kernel_rfl) (by kernel_rfl) (fun _ _ _ h => h) (Or.inl ⟨by rfl, ?_⟩) (HSD.out _ D_q19.out) ?_
        rotate_left 1
        next => intro w hSw; rw [hSe] at hSw; obtain ⟨s1, s2, s3, s4⟩ := hSw; go_simp; try with_reducible rfl
        try simp only [Act.put, ny1, ny2, ny3, ny4, ny5, ny6]
        refine wpAnyH_done (by kernel_rfl) ?_ _
        have HX9 := X8_q19
        have HD9 := D_q19
        go_upto_region 16 with (fail)
        obtain ⟨x0, x1, _, _, _⟩ := HX9.out
        have HZ4 := lhd (HO.out.below (Nat.le_refl _) HD9.out)
        have HB9 := lhd (HBc.out.trans (HD9.out.mono HBc.out.size))
        have hys := HB9.out.size
        go_wp2_with (at_builtin; refine wpList_append_zs rfl _ _ rfl wc.heap.size _ (zsF (prC f i) j) rfl (HZ4.out.alloc _) wq19.heap.size 0 1 1 [y] rfl rfl ?_ ?_ ?_ ?_)
        ·intro j hj
         have : j = 0 := by simpa using hj
         subst this
         simp [HCY.out]
        ·have := HL.out; simp; omega
        ·simp; omega
        ·intro v9 w9 hown9 hgr9
         have hb9 : Below wc.heap.size wc w9 := below_append (HB9.out.alloc hys _) (HZ4.out.alloc _) hgr9 (by simp; omega) (Nat.le_refl _)
         rw [← Hnx.out] at hown9
         have HN9 := lhd hown9
         have HY9 := lhd hb9
         clear hown9 hgr9 hb9 HZ4 HB9 hys
         go_wp2
         go_roundw
         case rel => exact ⟨j + 1, by omega, by go_num, HN9, HY9⟩
         case measure => simp [intOf]; omega
      ·go_simp
       have hbx := BoxAt.new wd (.bool false) (.string ⟨#[]⟩) 24
       have hbc := (Below.refl wd.heap.size wd).alloc (Nat.le_refl _) (.cells #[.bool false, .string ⟨#[]⟩] 24)
       obtain ⟨gX9, hgX9⟩ : ∃ k, wd.heap.size = k := ⟨_, rfl⟩
       have leX9 : wr.heap.size ≤ gX9 := by rw [← hgX9]; exact D_q1.out.size
       have D_q20 := lhd (D_q1.out.trans (hbc.mono D_q1.out.size))
       refine hK.out _ _ (HSD.out _ D_q20.out) (fun _ => ?_)
       clear hK K hbc
       rw [hgX9] at hbx ⊢
       clear hgX9
       generalize wd.alloc (.cells #[.bool false, .string ⟨#[]⟩] 24) = wq20 at *
       have X9_q20 := lhd hbx
       clear hbx
       try simp only [Act.put, ny1, ny2, ny3, ny4, ny5, ny6]
       refine wpAnyH_ready (rs := [5, 10]) (by kernel_rfl) (by simp) ?_
       refine AllReadyH.cons rfl (fun K hK => ?_) (AllReadyH.cons rfl (fun K hK => ?_) AllReadyH.nil)
       ·go_simp
        refine (HDv2.out _).mono ?_
        rintro e wq21 ⟨rfl, hbc⟩
        have D_q21 := lhd (D_q20.out.trans (hbc.mono D_q20.out.size))
        have X9_q21 := lhd (X9_q20.out.below hbc X9_q20.out.2.2.2.2)
        dsimp only
        refine hK.out _ _ (HSD.out _ D_q21.out) (fun _ => ?_)
        clear hK K hbc
        refine wpAnyH_take (i := 6) (v := ?_) rfl (by kernel_rfl) (by kernel_rfl) (by kernel_rfl) (fun _ _ _ h => h) (Or.inl ⟨by rfl, ?_⟩) (HSD.out _ D_q21.out) ?_
        rotate_left 1
        next => intro w hSw; rw [hSe] at hSw; obtain ⟨s1, s2, s3, s4⟩ := hSw; go_simp; try with_reducible rfl
        try simp only [Act.put, ny1, ny2, ny3, ny4, ny5, ny6]
        refine wpAnyH_take (i := 7) (v := ?_) rfl (by kernel_rfl) (by kernel_rfl) (by kernel_rfl) (fun _ _ _ h => h) (Or.inl ⟨by rfl, ?_⟩) (HSD.out _ D_q21.out) ?_
        rotate_left 1
        next => intro w hSw; rw [hSe] at hSw; obtain ⟨s1, s2, s3, s4⟩ := hSw; go_simp; try with_reducible rfl
        try simp only [Act.put, ny1, ny2, ny3, ny4, ny5, ny6]
        refine wpAnyH_take (i := 8) (v := ?_) rfl (by kernel_rfl) (by kernel_rfl) (by kernel_rfl) (fun _ _ _ h => h) (Or.inl ⟨by rfl, ?_⟩) (HSD.out _ D_q21.out) ?_
        rotate_left 1
        next => intro w hSw; rw [hSe] at hSw; obtain ⟨s1, s2, s3, s4⟩ := hSw; go_simp; try with_reducible rfl
        try simp only [Act.put, ny1, ny2, ny3, ny4, ny5, ny6]
        refine wpAnyH_take (i := 9) (v := ?_) rfl (by kernel_rfl) (by kernel_rfl) (by kernel_rfl) (fun _ _ _ h => h) (Or.inl ⟨by rfl, ?_⟩) (HSD.out _ D_q21.out) ?_
        rotate_left 1
        next => intro w hSw; rw [hSe] at hSw; obtain ⟨s1, s2, s3, s4⟩ := hSw; go_simp; try with_reducible rfl
        try simp only [Act.put, ny1, ny2, ny3, ny4, ny5, ny6]
        refine wpAnyH_ready (rs := [10]) (by kernel_rfl) (by simp) ?_
        refine AllReadyH.cons rfl (fun K hK => ?_) AllReadyH.nil
        go_simp
        have hbx := BoxAt.new wq21 (.bool false) (.string ⟨#[]⟩) 24
        have hbc := (Below.refl wq21.heap.size wq21).alloc (Nat.le_refl _) (.cells #[.bool false, .string ⟨#[]⟩] 24)
        obtain ⟨gX8, hgX8⟩ : ∃ k, wq21.heap.size = k := ⟨_, rfl⟩
        have leX8 : wr.heap.size ≤ gX8 := by rw [← hgX8]; exact D_q21.out.size
        have D_q22 := lhd (D_q21.out.trans (hbc.mono D_q21.out.size))
        have nX8X9 : gX8 ≠ gX9 := by rw [← hgX8]; have := X9_q21.out.2.2.2.2; omega
        have nX8X9' : gX9 ≠ gX8 := fun h => nX8X9 h.symm
        have X9_q22 := lhd (X9_q21.out.below hbc X9_q21.out.2.2.2.2)
        refine hK.out _ _ (HSD.out _ D_q22.out) (fun _ => ?_)
        clear hK K hbc
        rw [hgX8] at hbx ⊢
        clear hgX8
        generalize wq21.alloc (.cells #[.bool false, .string ⟨#[]⟩] 24) = wq22 at *
        have X8_q22 := lhd hbx
        clear hbx
        try simp only [Act.put, ny1, ny2, ny3, ny4, ny5, ny6]
        refine wpAnyH_ready (rs := [12]) (by kernel_rfl) (by simp) ?_
        refine AllReadyH.cons rfl (fun K hK => ?_) AllReadyH.nil
        obtain ⟨z0, z1, z2, z3, _⟩ := X8_q22.out
        have D_q23 := lhd (((D_q22.out).setCell (p := ⟨gX8, 0, none⟩) leX8 (.bool CY.neg)).setCell (p := ⟨gX8, 1, none⟩) leX8 (.string CY.mag))
        have X9_q23 := lhd (((X9_q22.out).far ⟨gX8, 0, none⟩ (.bool CY.neg) nX8X9).far ⟨gX8, 1, none⟩ (.string CY.mag) nX8X9)
        have X8_q23 := lhd (X8_q22.out.set2 (.bool CY.neg) (.string CY.mag))
        go_simp
        refine hK.out _ _ (HSD.out _ D_q23.out) (fun _ => ?_)
        clear hK K z0 z1 z2 z3
        generalize ((wq22.setCell ⟨gX8, 0, none⟩ (.bool CY.neg)).setCell ⟨gX8, 1, none⟩ (.string CY.mag)) = wq23 at *
        try simp only [Act.put, ny1, ny2, ny3, ny4, ny5, ny6]
        refine wpAnyH_ready (rs := [13]) (by kernel_rfl) (by simp) ?_
        refine AllReadyH.cons rfl (fun K hK => ?_) AllReadyH.nil
        obtain ⟨z0, z1, z2, z3, _⟩ := X9_q23.out
        have D_q24 := lhd (((D_q23.out).setCell (p := ⟨gX9, 0, none⟩) leX9 (.bool C0.neg)).setCell (p := ⟨gX9, 1, none⟩) leX9 (.string C0.mag))
        have X9_q24 := lhd (X9_q23.out.set2 (.bool C0.neg) (.string C0.mag))
        have X8_q24 := lhd (((X8_q23.out).far ⟨gX9, 0, none⟩ (.bool C0.neg) nX8X9').far ⟨gX9, 1, none⟩ (.string C0.mag) nX8X9')
        go_simp
        refine hK.out _ _ (HSD.out _ D_q24.out) (fun _ => ?_)
        clear hK K z0 z1 z2 z3
        generalize ((wq23.setCell ⟨gX9, 0, none⟩ (.bool C0.neg)).setCell ⟨gX9, 1, none⟩ (.string C0.mag)) = wq24 at *
        refine wpAnyH_take (i := 14) (v := ?_) rfl (by kernel_rfl) (by kernel_rfl) (by kernel_rfl) (fun _ _ _ h => h) (Or.inl ⟨by rfl, ?_⟩) (HSD.out _ D_q24.out) ?_
        rotate_left 1
        next => intro w hSw; rw [hSe] at hSw; obtain ⟨s1, s2, s3, s4⟩ := hSw; go_simp; try with_reducible rfl
        try simp only [Act.put, ny1, ny2, ny3, ny4, ny5, ny6]
        refine wpAnyH_done (by kernel_rfl) ?_ _
        have HX9 := X8_q24
        have HD9 := D_q24
        go_upto_region 16 with (fail)
        obtain ⟨x0, x1, _, _, _⟩ := HX9.out
        have HZ4 := lhd (HO.out.below (Nat.le_refl _) HD9.out)
        have HB9 := lhd (HBc.out.trans (HD9.out.mono HBc.out.size))
        have hys := HB9.out.size
        go_wp2_with (at_builtin; refine wpList_append_zs rfl _ _ rfl wc.heap.size _ (zsF (prC f i) j) rfl (HZ4.out.alloc _) wq24.heap.size 0 1 1 [y] rfl rfl ?_ ?_ ?_ ?_)
        ·intro j hj
         have : j = 0 := by simpa using hj
         subst this
         simp [HCY.out]
        ·have := HL.out; simp; omega
        ·simp; omega
        ·intro v9 w9 hown9 hgr9
         have hb9 : Below wc.heap.size wc w9 := below_append (HB9.out.alloc hys _) (HZ4.out.alloc _) hgr9 (by simp; omega) (Nat.le_refl _)
         rw [← Hnx.out] at hown9
         have HN9 := lhd hown9
         have HY9 := lhd hb9
         clear hown9 hgr9 hb9 HZ4 HB9 hys
         go_wp2
         go_roundw
         case rel => exact ⟨j + 1, by omega, by go_num, HN9, HY9⟩
         case measure => simp [intOf]; omega
       ·go_simp
        have hbx := BoxAt.new wq20 (.bool false) (.string ⟨#[]⟩) 24
        have hbc := (Below.refl wq20.heap.size wq20).alloc (Nat.le_refl _) (.cells #[.bool false, .string ⟨#[]⟩] 24)
        obtain ⟨gX8, hgX8⟩ : ∃ k, wq20.heap.size = k := ⟨_, rfl⟩
        have leX8 : wr.heap.size ≤ gX8 := by rw [← hgX8]; exact D_q20.out.size
        have D_q25 := lhd (D_q20.out.trans (hbc.mono D_q20.out.size))
        have nX8X9 : gX8 ≠ gX9 := by rw [← hgX8]; have := X9_q20.out.2.2.2.2; omega
        have nX8X9' : gX9 ≠ gX8 := fun h => nX8X9 h.symm
        have X9_q25 := lhd (X9_q20.out.below hbc X9_q20.out.2.2.2.2)
        refine hK.out _ _ (HSD.out _ D_q25.out) (fun _ => ?_)
        clear hK K hbc
        rw [hgX8] at hbx ⊢
        clear hgX8
        generalize wq20.alloc (.cells #[.bool false, .string ⟨#[]⟩] 24) = wq25 at *
        have X8_q25 := lhd hbx
        clear hbx
        try simp only [Act.put, ny1, ny2, ny3, ny4, ny5, ny6]
        refine wpAnyH_ready (rs := [5]) (by kernel_rfl) (by simp) ?_
        refine AllReadyH.cons rfl (fun K hK => ?_) AllReadyH.nil
        go_simp
        refine (HDv2.out _).mono ?_
        rintro e wq26 ⟨rfl, hbc⟩
        have D_q26 := lhd (D_q25.out.trans (hbc.mono D_q25.out.size))
        have X9_q26 := lhd (X9_q25.out.below hbc X9_q25.out.2.2.2.2)
        have X8_q26 := lhd (X8_q25.out.below hbc X8_q25.out.2.2.2.2)
        dsimp only
        refine hK.out _ _ (HSD.out _ D_q26.out) (fun _ => ?_)
        clear hK K hbc
        refine wpAnyH_take (i := 6) (v := ?_) rfl (by kernel_rfl) (by kernel_rfl) (by kernel_rfl) (fun _ _ _ h => h) (Or.inl ⟨by rfl, ?_⟩) (HSD.out _ D_q26.out) ?_
        rotate_left 1
        next => intro w hSw; rw [hSe] at hSw; obtain ⟨s1, s2, s3, s4⟩ := hSw; go_simp; try with_reducible rfl
        try simp only [Act.put, ny1, ny2, ny3, ny4, ny5, ny6]
        refine wpAnyH_take (i := 7) (v := ?_) rfl (by kernel_rfl) (by kernel_rfl) (by kernel_rfl) (fun _ _ _ h => h) (Or.inl ⟨by rfl, ?_⟩) (HSD.out _ D_q26.out) ?_
        rotate_left 1
        next => intro w hSw; rw [hSe] at hSw; obtain ⟨s1, s2, s3, s4⟩ := hSw; go_simp; try with_reducible rfl
        try simp only [Act.put, ny1, ny2, ny3, ny4, ny5, ny6]
        refine wpAnyH_take (i := 8) (v := ?_) rfl (by kernel_rfl) (by kernel_rfl) (by kernel_rfl) (fun _ _ _ h => h) (Or.inl ⟨by rfl, ?_⟩) (HSD.out _ D_q26.out) ?_
        rotate_left 1
        next => intro w hSw; rw [hSe] at hSw; obtain ⟨s1, s2, s3, s4⟩ := hSw; go_simp; try with_reducible rfl
        try simp only [Act.put, ny1, ny2, ny3, ny4, ny5, ny6]
        refine wpAnyH_take (i := 9) (v := ?_) rfl (by kernel_rfl) (by kernel_rfl) (by kernel_rfl) (fun _ _ _ h => h) (Or.inl ⟨by rfl, ?_⟩) (HSD.out _ D_q26.out) ?_
        rotate_left 1
        next => intro w hSw; rw [hSe] at hSw; obtain ⟨s1, s2, s3, s4⟩ := hSw; go_simp; try with_reducible rfl
        try simp only [Act.put, ny1, ny2, ny3, ny4, ny5, ny6]
        refine wpAnyH_ready (rs := [12]) (by kernel_rfl) (by simp) ?_
        refine AllReadyH.cons rfl (fun K hK => ?_) AllReadyH.nil
        obtain ⟨z0, z1, z2, z3, _⟩ := X8_q26.out
        have D_q27 := lhd (((D_q26.out).setCell (p := ⟨gX8, 0, none⟩) leX8 (.bool CY.neg)).setCell (p := ⟨gX8, 1, none⟩) leX8 (.string CY.mag))
        have X9_q27 := lhd (((X9_q26.out).far ⟨gX8, 0, none⟩ (.bool CY.neg) nX8X9).far ⟨gX8, 1, none⟩ (.string CY.mag) nX8X9)
        have X8_q27 := lhd (X8_q26.out.set2 (.bool CY.neg) (.string CY.mag))
        go_simp
        refine hK.out _ _ (HSD.out _ D_q27.out) (fun _ => ?_)
        clear hK K z0 z1 z2 z3
        generalize ((wq26.setCell ⟨gX8, 0, none⟩ (.bool CY.neg)).setCell ⟨gX8, 1, none⟩ (.string CY.mag)) = wq27 at *
        try simp only [Act.put, ny1, ny2, ny3, ny4, ny5, ny6]
        refine wpAnyH_ready (rs := [13]) (by kernel_rfl) (by simp) ?_
        refine AllReadyH.cons rfl (fun K hK => ?_) AllReadyH.nil
        obtain ⟨z0, z1, z2, z3, _⟩ := X9_q27.out
        have D_q28 := lhd (((D_q27.out).setCell (p := ⟨gX9, 0, none⟩) leX9 (.bool C0.neg)).setCell (p := ⟨gX9, 1, none⟩) leX9 (.string C0.mag))
        have X9_q28 := lhd (X9_q27.out.set2 (.bool C0.neg) (.string C0.mag))
        have X8_q28 := lhd (((X8_q27.out).far ⟨gX9, 0, none⟩ (.bool C0.neg) nX8X9').far ⟨gX9, 1, none⟩ (.string C0.mag) nX8X9')
        go_simp
        refine hK.out _ _ (HSD.out _ D_q28.out) (fun _ => ?_)
        clear hK K z0 z1 z2 z3
        generalize ((wq27.setCell ⟨gX9, 0, none⟩ (.bool C0.neg)).setCell ⟨gX9, 1, none⟩ (.string C0.mag)) = wq28 at *
        refine wpAnyH_take (i := 14) (v := ?_) rfl (by kernel_rfl) (by kernel_rfl) (by kernel_rfl) (fun _ _ _ h => h) (Or.inl ⟨by rfl, ?_⟩) (HSD.out _ D_q28.out) ?_
        rotate_left 1
        next => intro w hSw; rw [hSe] at hSw; obtain ⟨s1, s2, s3, s4⟩ := hSw; go_simp; try with_reducible rfl
        try simp only [Act.put, ny1, ny2, ny3, ny4, ny5, ny6]
        refine wpAnyH_done (by kernel_rfl) ?_ _
        have HX9 := X8_q28
        have HD9 := D_q28
        go_upto_region 16 with (fail)
        obtain ⟨x0, x1, _, _, _⟩ := HX9.out
        have HZ4 := lhd (HO.out.below (Nat.le_refl _) HD9.out)
        have HB9 := lhd (HBc.out.trans (HD9.out.mono HBc.out.size))
        have hys := HB9.out.size
        go_wp2_with (at_builtin; refine wpList_append_zs rfl _ _ rfl wc.heap.size _ (zsF (prC f i) j) rfl (HZ4.out.alloc _) wq28.heap.size 0 1 1 [y] rfl rfl ?_ ?_ ?_ ?_)
        ·intro j hj
         have : j = 0 := by simpa using hj
         subst this
         simp [HCY.out]
        ·have := HL.out; simp; omega
        ·simp; omega
        ·intro v9 w9 hown9 hgr9
         have hb9 : Below wc.heap.size wc w9 := below_append (HB9.out.alloc hys _) (HZ4.out.alloc _) hgr9 (by simp; omega) (Nat.le_refl _)
         rw [← Hnx.out] at hown9
         have HN9 := lhd hown9
         have HY9 := lhd hb9
         clear hown9 hgr9 hb9 HZ4 HB9 hys
         go_wp2
         go_roundw
         case rel => exact ⟨j + 1, by omega, by go_num, HN9, HY9⟩
         case measure => simp [intOf]; omega
     ·have j1 : ¬ (j : Int) ≤ (M : Int) := by omega
      obtain rfl : j = i := by omega
      clear hMo
      have hz9 := HO.out
      obtain ⟨r, cap, rfl, _, hrow, _⟩ := hz9.rowF
      have Hrow := lhd hrow
      clear hz9 hrow HO
      go_wp2_with fail
      refine (HCn.out _ _ _ Hrow.out).mono ?_
      rintro e5 w5 ⟨q5, c5, rfl, hr5, hb5⟩
      dsimp only
      have Hr5 := lhd hr5
      have Hb5 := lhd (HB.out.trans ((HBc.out.trans (hb5.mono HBc.out.size)).mono HB.out.size))
      clear hr5 hb5
      go_wp2_with fail
      go_ret
      exact ⟨q5, _, c5, rfl, cn_dg Hr5.out HPout.out, Hb5.out⟩
end Go.Proofs.YtmbamcpndbimaaaGreatDoor
