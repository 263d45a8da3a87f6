/- grooveref03: zero, Degree, Canonical, coef, Add, Sub, Derivative; grooveref01.Sub: the walks. -/
import Derived.Test.YtmbamcpndbimaaaGreatDoorJ26
import Derived.Test.YtmbamcpndbimaaaGreatDoorJ28
import Derived.Test.YtmbamcpndbimaaaGreatDoorJ17
namespace Go.Proofs.YtmbamcpndbimaaaGreatDoor
open List renaming getElem_toArray → ny1, getElem_cons_zero → ny2, getElem_cons_succ → ny3, setIfInBounds_toArray → ny4, set_cons_zero → ny5, set_cons_succ → ny6
open Go.RowKit Go.Shelf
theorem absP {z : ZI} {K : Nat} (h : z.mag.size < K) : absZ z < 256 ^ K := Nat.lt_of_lt_of_le (absZ_lt _) (Nat.pow_le_pow_right (by decide) (Nat.le_of_lt h))
set_option maxRecDepth 100000 in
set_option maxHeartbeats 8000000 in
theorem zero3_any (z : ZI) (hz : z.mag.size ≤ 100000000) (w : World) :
  Calls Tryz.prog 58 #[.agg #[.bool z.neg, .string z.mag]] w fun e w' => e = .returned (.bool (decide (valZ z = 0))) ∧ Below w.heap.size w w' := by
 have HC := lhd (fun W => refCmpZ_any z ⟨false, ⟨#[]⟩⟩ hz (by decide) (valZ z) 0 rfl rfl W)
 have hcz : (cmpI (valZ z) 0 == 0) = decide (valZ z = 0) := by
  unfold cmpI
  by_cases h : valZ z = 0
  ·rw [h]; rfl
  ·rw [decide_eq_false h, beq_eq_false_iff_ne]
   split
   ·decide
   ·split
    ·decide
    ·omega
 generalize cmpI (valZ z) 0 = c at *
 generalize decide (valZ z = 0) = d at *
 clear hz
 go_enter Tryz.func58, Tryz.ntmps58
 go_wp2_with fail
 refine (HC.out _).mono ?_
 rintro e w2 ⟨rfl, hb⟩
 dsimp only
 have Hb := lhd (((Below.refl _ w).alloc (Nat.le_refl _) _).trans (hb.mono (by simp)))
 clear hb
 go_wp2
 go_ret
 exact ⟨rfl, Hb.out⟩
set_option maxRecDepth 100000 in
set_option maxHeartbeats 8000000 in
theorem refDeg3_any (n : Nat) (Z : Nat → ZI) (p : Option Addr) (c : Nat) (hn : n ≤ 1000000) (hz : ∀ k, k < n → (Z k).mag.size ≤ 100000000) (w : World) (hX : GRow w p n Z) :
  Calls Tryz.prog 32 #[.slice p n c] w fun e w' => e = .returned (.int .i64 ((dgN (fun k => valZ (Z k)) n : Int) - 1)) ∧ Below w.heap.size w w' := by
 have HX := lhd hX
 have HZr := lhd (fun k (hk : k < n) W => zero3_any (Z k) (hz k hk) W)
 obtain ⟨D, hD⟩ : ∃ D, dgN (fun k => valZ (Z k)) n = D := ⟨_, rfl⟩
 rw [hD]
 have HD := lhd hD
 clear hX hz hD
 go_enter Tryz.func32, Tryz.ntmps32
 go_wp2_with fail
 go_loopw [3] (fun v wr => ∃ j : Nat, j ≤ n ∧ v = .int .i64 ((j : Int) - 1) ∧ Hid (dgN (fun k => valZ (Z k)) j = D) ∧ Hid (Below w.heap.size w wr)) (fun v _ => (intOf v + 1).toNat)
 case atStart => exact ⟨n, Nat.le_refl _, by go_num, HD, lhd (Below.refl _ _)⟩
 case round =>
  obtain ⟨j, hj, rfl, HJ, Hb⟩ := hrel
  by_cases hj0 : 0 < j
  ·obtain ⟨k, rfl⟩ : ∃ k, j = k + 1 := ⟨j - 1, by omega⟩
   rw [show ((k + 1 : Nat) : Int) - 1 = (k : Int) from by omega]
   have hlt : k < n := by omega
   obtain ⟨bb, bo, rfl, _, hbc⟩ := GRow.cells (SlAt.mono HX.out (Nat.le_refl _) Hb.out) hlt
   obtain ⟨b3, b4⟩ := hbc k hlt
   have k0 : (0 : Int) ≤ (k : Int) := by omega
   have k2 : (k : Int) ≥ 0 := by omega
   have k1 : (k : Int) < (n : Int) := by omega
   have hzr := fun W => HZr.out k hlt W
   by_cases h0 : valZ (Z k) = 0
   ·rw [decide_eq_true h0] at hzr
    have HZ2 := lhd hzr
    have HJ2 : Hid (dgN (fun k => valZ (Z k)) k = D) := lhd (by rw [← HJ.out, dgN, if_pos h0])
    obtain ⟨z, hzz⟩ : ∃ z, Z k = z := ⟨_, rfl⟩
    rw [hzz] at b3 b4 HZ2
    clear hbc hzr h0 hzz HJ
    go_wp2_with fail
    refine (HZ2.out _).mono ?_
    rintro e w4 ⟨rfl, hb4⟩
    dsimp only
    have Hb4 := lhd (Hb.out.trans (hb4.mono Hb.out.size))
    clear hb4 Hb b3 b4 HZ2
    go_wp2_with fail
    go_roundw
    case rel => exact ⟨k, by omega, by go_num, HJ2, Hb4⟩
    case measure => simp [intOf]
   ·rw [decide_eq_false h0] at hzr
    have HZ2 := lhd hzr
    have HJ2 : Hid ((k : Int) = (D : Int) - 1) := lhd (by
     have h1 := HJ.out
     rw [dgN, if_neg h0] at h1
     omega)
    obtain ⟨z, hzz⟩ : ∃ z, Z k = z := ⟨_, rfl⟩
    rw [hzz] at b3 b4 HZ2
    clear hbc hzr h0 hzz HJ
    go_wp2_with fail
    refine (HZ2.out _).mono ?_
    rintro e w4 ⟨rfl, hb4⟩
    dsimp only
    have Hb4 := lhd (Hb.out.trans (hb4.mono Hb.out.size))
    clear hb4 Hb b3 b4 HZ2
    go_wp2_with fail
    go_ret
    exact ⟨by rw [← HJ2.out]; rfl, Hb4.out⟩
  ·obtain rfl : j = 0 := by omega
   rw [show ((0 : Nat) : Int) - 1 = -1 from rfl]
   have HJ2 : Hid ((-1 : Int) = (D : Int) - 1) := lhd (by
    have h1 := HJ.out
    rw [dgN] at h1
    omega)
   clear HJ
   go_wp2_with fail
   go_ret
   exact ⟨by rw [← HJ2.out]; rfl, Hb.out⟩
set_option maxRecDepth 100000 in
set_option maxHeartbeats 8000000 in
theorem refCan3_any (n : Nat) (Z : Nat → ZI) (p : Option Addr) (c : Nat) (hn : n ≤ 1000000) (hz : ∀ k, k < n → (Z k).mag.size < 100000000) (w : World) (hX : GRow w p n Z) :
  Calls Tryz.prog 59 #[.slice p n c] w (RetPol (dgN (fun k => valZ (Z k)) n) (fun k => valZ (Z k)) w) := by
 have HX := lhd hX
 have HDg := lhd (fun W h => refDeg3_any n Z p c hn (fun k hk => by have := hz k hk; omega) W h)
 have HAd := lhd (fun k (hk : k < n) W => refAddZ_any (Z k) ⟨false, ⟨#[]⟩⟩ (hz k hk) (by decide) (valZ (Z k)) 0 rfl rfl W)
 have hm := dgN_le (fun k => valZ (Z k)) n
 obtain ⟨f, hf⟩ : ∃ f : Nat → Int, (fun k => valZ (Z k)) = f := ⟨_, rfl⟩
 have Hf : Hid (∀ k, valZ (Z k) = f k) := lhd (fun k => by rw [← hf])
 rw [hf] at HDg hm ⊢
 obtain ⟨m, hmm⟩ : ∃ m, dgN f n = m := ⟨_, rfl⟩
 rw [hmm] at HDg hm ⊢
 obtain ⟨dj, hdj⟩ : ∃ j : Int, (m : Int) - 1 = j := ⟨_, rfl⟩
 rw [hdj] at HDg
 have Hdj := lhd hdj
 have hdb : -1 ≤ dj ∧ dj ≤ 1000000 := by omega
 clear hX hz hf hmm hdj
 go_enter Tryz.func59, Tryz.ntmps59
 go_wp2_with fail
 have hal := (Below.refl w.heap.size w).alloc (Nat.le_refl _) (.cells #[] 24)
 have HX0 := SlAt.mono HX.out (Nat.le_refl _) hal
 refine (HDg.out _ HX0).mono ?_
 rintro e w1 ⟨rfl, hb1⟩
 dsimp only
 have HO1 : Hid (OwnZ w1 w.heap.size (.slice (some ⟨w.heap.size, 0, none⟩) 0 0) (zsF f 0)) := lhd ((OwnZ.made w (Nat.le_refl _)).below (Nat.le_refl _) hb1)
 have HB1 := lhd (hal.trans (hb1.mono hal.size))
 clear hal HX0 hb1 HDg
 go_wp2_with fail
 go_loopw [3, 5] (fun ov iv wr => ∃ i : Nat, i ≤ m ∧ iv = .int .i64 (i : Nat) ∧ Hid (OwnZ wr w.heap.size ov (zsF f i)) ∧ Hid (Below w.heap.size w wr)) (fun _ iv _ => m - (intOf iv).toNat)
 case atStart => exact ⟨0, by omega, by go_num, HO1, HB1⟩
 case round =>
  clear HO1 HB1
  obtain ⟨i, hi, rfl, HO, HB⟩ := hrel
  by_cases hil : i < m
  ·have i0 : (0 : Int) ≤ (i : Int) := by omega
   have i1 : (i : Int) ≤ dj := by have := Hdj.out; omega
   have hin : i < n := by omega
   have i2 : (i : Int) < (n : Int) := by omega
   obtain ⟨bb, bo, rfl, _, hbc⟩ := GRow.cells (SlAt.mono HX.out (Nat.le_refl _) HB.out) hin
   obtain ⟨b3, b4⟩ := hbc i hin
   have had := fun W => HAd.out i hin W
   rw [Hf.out i, Int.add_zero] at had
   have hnx : zsF f (i + 1) = zsF f i ++ [f i] := zsF_snoc f i
   have Hnx := lhd hnx
   have HA := lhd had
   obtain ⟨y, hy⟩ : ∃ y, f i = y := ⟨_, rfl⟩
   obtain ⟨z, hzz⟩ : ∃ z, Z i = z := ⟨_, rfl⟩
   rw [hzz] at b3 b4 HA
   rw [hy] at HA Hnx
   have hs := HB.out.size
   clear hbc had hnx hy hzz
   go_wp2_with fail
   refine (HA.out wr).mono ?_
   rintro e w4 ⟨rfl, hb4⟩
   dsimp only
   have HZ4 := lhd (HO.out.below (Nat.le_refl _) hb4)
   have hb4 := HB.out.trans (hb4.mono HB.out.size)
   have hys := hb4.size
   have Hb4 := lhd hb4
   clear hb4 HO HB b3 b4 HA
   go_wp2_with (at_builtin; refine wpList_append_zs rfl _ _ rfl w.heap.size _ (zsF f i) rfl (HZ4.out.alloc _) w4.heap.size 0 1 1 [y] rfl rfl ?_ ?_ ?_ ?_)
   ·intro j hj
    have : j = 0 := by simpa using hj
    subst this
    simp
   ·rw [zsF_len]; simp; omega
   ·simp; omega
   ·intro v9 w9 hown9 hgr9
    have hb9 : Below w.heap.size w w9 := below_append (Hb4.out.alloc hys _) (HZ4.out.alloc _) hgr9 (by simp; omega) (Nat.le_refl _)
    rw [← Hnx.out] at hown9
    have HZ9 := lhd hown9
    have HY9 := lhd hb9
    clear hown9 hgr9 hb9 HZ4 Hb4 hys
    go_wp2
    go_roundw
    case rel => exact ⟨i + 1, by omega, by go_num, HZ9, HY9⟩
    case measure => simp [intOf]; omega
  ·have i1 : ¬ (i : Int) ≤ dj := by have := Hdj.out; omega
   have hie : i = m := by omega
   have hz9 := HO.out
   rw [hie] at hz9
   obtain ⟨q, cap, rfl, _, hrow, _⟩ := hz9.rowF
   have Hrow := lhd hrow
   clear hz9 hie hrow HO
   go_wp2_with fail
   go_ret
   exact ⟨q, cap, rfl, Hrow.out, HB.out⟩
set_option maxRecDepth 100000 in
set_option maxHeartbeats 8000000 in
theorem coef3_any (n : Nat) (Z : Nat → ZI) (p : Option Addr) (c i : Nat) (hn : n ≤ 1000000) (hi : i ≤ 1000000) (w : World) (hX : GRow w p n Z) :
  Calls Tryz.prog 60 #[.slice p n c, .int .i64 (i : Int)] w (RetZ (zx Z n i) w) := by
 by_cases hin : i < n
 ·obtain ⟨bb, bo, rfl, _, hbc⟩ := GRow.cells hX hin
  obtain ⟨b3, b4⟩ := hbc i hin
  have hzx : zx Z n i = Z i := if_pos hin
  rw [hzx]
  generalize Z i = z at *
  have i0 : (0 : Int) ≤ (i : Int) := by omega
  have i3 : ¬ (i : Int) < 0 := by omega
  have i1 : ¬ (i : Int) ≥ (n : Int) := by omega
  have i2 : (i : Int) < (n : Int) := by omega
  clear hbc hX hzx
  go_enter Tryz.func60, Tryz.ntmps60
  go_wp2_with fail
  refine bodyPost_ret (v := .agg #[.bool z.neg, .string z.mag]) ?_ rfl ⟨rfl, ?_⟩
  ·simp [results, Tryz.results60, go_sem]
  ·first | exact (Below.refl _ _).alloc (Nat.le_refl _) _ | exact (((Below.refl _ _).alloc (Nat.le_refl _) _).setCell (Nat.le_refl _) _).setCell (Nat.le_refl _) _
 ·have hzx : zx Z n i = ⟨false, ⟨#[]⟩⟩ := if_neg hin
  rw [hzx]
  have i3 : ¬ (i : Int) < 0 := by omega
  have i1 : (i : Int) ≥ (n : Int) := by omega
  clear hX hzx
  go_enter Tryz.func60, Tryz.ntmps60
  go_wp2_with fail
  refine bodyPost_ret (v := .agg #[.bool false, .string ⟨#[]⟩]) ?_ rfl ⟨rfl, ?_⟩
  ·simp [results, Tryz.results60, go_sem]
  ·first | exact (Below.refl _ _).alloc (Nat.le_refl _) _ | exact (((Below.refl _ _).alloc (Nat.le_refl _) _).setCell (Nat.le_refl _) _).setCell (Nat.le_refl _) _
set_option maxRecDepth 100000 in
set_option maxHeartbeats 8000000 in
theorem refSubZ_any (zx zy : ZI) (hzx : zx.mag.size < 100000000) (hzy : zy.mag.size < 100000000) (x y : Int) (hvx : valZ zx = x) (hvy : valZ zy = y) (w : World) :
  Calls Tryz.prog 91 #[.agg #[.bool zx.neg, .string zx.mag], .agg #[.bool zy.neg, .string zy.mag]] w (RetZ (canon (x - y)) w) := by
 have hng := fun W => refNeg_any zy (by omega) W
 rw [hvy] at hng
 have hys : (canon (-y)).mag.size < 100000000 := by rw [size_neg, ← hvy]; exact Nat.lt_of_le_of_lt (canon_size_le zy) hzy
 have had := fun W => refAddZ_any zx (canon (-y)) hzx hys x (-y) hvx (valZ_canon _) W
 rw [← Int.sub_eq_add_neg] at had
 have HN := lhd hng
 have HA := lhd had
 generalize canon (-y) = NY at *
 generalize canon (x - y) = R at *
 clear hng had hys hzx hzy hvx hvy
 go_enter Tryz.func91, Tryz.ntmps91
 go_upto_region 1 with (fail)
 obtain ⟨X, hX, hA, hB, hC, hb, _⟩ := three_boxes w (.bool zx.neg) (.string zx.mag) (.bool zy.neg) (.string zy.mag) (.bool false) (.string ⟨#[]⟩) 24
 rw [hX]
 obtain ⟨ga, hga⟩ : ∃ k, w.heap.size = k := ⟨_, rfl⟩
 obtain ⟨gb, hgb⟩ : ∃ k, w.heap.size + 1 = k := ⟨_, rfl⟩
 obtain ⟨gc, hgc⟩ : ∃ k, w.heap.size + 1 + 1 = k := ⟨_, rfl⟩
 have le3 : w.heap.size ≤ gc := by omega
 have ca : gc ≠ ga := by omega
 have cb : gc ≠ gb := by omega
 have HFa := lhd hA
 have HFb := lhd hB
 have HFc := lhd hC
 have Hb := lhd hb
 rw [hga] at HFa
 rw [hgb] at HFb
 rw [hgc] at HFc
 rw [hgc, hgb, hga]
 clear hga hgb hgc hX hA hB hC hb
 obtain ⟨SS, hSe⟩ : ∃ SS : World → Prop, SS = fun W => BoxAt W ga (.bool zx.neg) (.string zx.mag) ∧ BoxAt W gb (.bool zy.neg) (.string zy.mag) := ⟨_, rfl⟩
 have hSm : Hid (∀ W, (BoxAt W ga (.bool zx.neg) (.string zx.mag) ∧ BoxAt W gb (.bool zy.neg) (.string zy.mag)) → SS W) := lhd (fun W hW => by rw [hSe]; exact hW)
 refine wp_region_held_drew (S := SS) (by kernel_rfl) (hSm.out _ ⟨BoxAt.drz HFa.out, BoxAt.drz HFb.out⟩) (fun _ => ?_)
 have A_q1 := lhd (BoxAt.drz HFa.out)
 have B_q1 := lhd (BoxAt.drz HFb.out)
 have C_q1 := lhd (BoxAt.drz HFc.out)
 have Z_q1 := lhd (Hb.out.drew)
 refine wpAnyH_take (i := 0) (v := ?_) rfl (by kernel_rfl) (by kernel_rfl) (by kernel_rfl) (fun _ _ _ h => h) (Or.inl ⟨by rfl, ?_⟩) (hSm.out _ ⟨A_q1.out, B_q1.out⟩) ?_
 rotate_left 1
 next => intro w hSw; rw [hSe] at hSw; obtain ⟨⟨u00, u01, _, _, _⟩, ⟨u10, u11, _, _, _⟩⟩ := hSw; go_simp; try with_reducible rfl
 try simp only [Act.put, ny1, ny2, ny3, ny4, ny5, ny6]
 refine wpAnyH_take (i := 1) (v := ?_) rfl (by kernel_rfl) (by kernel_rfl) (by kernel_rfl) (fun _ _ _ h => h) (Or.inl ⟨by rfl, ?_⟩) (hSm.out _ ⟨A_q1.out, B_q1.out⟩) ?_
 rotate_left 1
 next => intro w hSw; rw [hSe] at hSw; obtain ⟨⟨u00, u01, _, _, _⟩, ⟨u10, u11, _, _, _⟩⟩ := hSw; go_simp; try with_reducible rfl
 try simp only [Act.put, ny1, ny2, ny3, ny4, ny5, ny6]
 refine wpAnyH_ready (rs := [2]) (by kernel_rfl) (by simp) ?_
 refine AllReadyH.cons rfl (fun K hK => ?_) AllReadyH.nil
 go_simp
 refine (HN.out _).mono ?_
 rintro e wq2 ⟨rfl, hbc⟩
 have A_q2 := lhd (A_q1.out.below hbc A_q1.out.2.2.2.2)
 have B_q2 := lhd (B_q1.out.below hbc B_q1.out.2.2.2.2)
 have C_q2 := lhd (C_q1.out.below hbc C_q1.out.2.2.2.2)
 have Z_q2 := lhd (Z_q1.out.trans (hbc.mono Z_q1.out.size))
 dsimp only
 refine hK.out _ _ (hSm.out _ ⟨A_q2.out, B_q2.out⟩) (fun _ => ?_)
 clear hK K hbc
 try simp only [Act.put, ny1, ny2, ny3, ny4, ny5, ny6]
 refine wpAnyH_ready (rs := [3]) (by kernel_rfl) (by simp) ?_
 refine AllReadyH.cons rfl (fun K hK => ?_) AllReadyH.nil
 go_simp
 refine (HA.out _).mono ?_
 rintro e wq3 ⟨rfl, hbc⟩
 have A_q3 := lhd (A_q2.out.below hbc A_q2.out.2.2.2.2)
 have B_q3 := lhd (B_q2.out.below hbc B_q2.out.2.2.2.2)
 have C_q3 := lhd (C_q2.out.below hbc C_q2.out.2.2.2.2)
 have Z_q3 := lhd (Z_q2.out.trans (hbc.mono Z_q2.out.size))
 dsimp only
 refine hK.out _ _ (hSm.out _ ⟨A_q3.out, B_q3.out⟩) (fun _ => ?_)
 clear hK K hbc
 try simp only [Act.put, ny1, ny2, ny3, ny4, ny5, ny6]
 refine wpAnyH_ready (rs := [4]) (by kernel_rfl) (by simp) ?_
 refine AllReadyH.cons rfl (fun K hK => ?_) AllReadyH.nil
 obtain ⟨z0, z1, z2, z3, _⟩ := C_q3.out
 have A_q4 := lhd (((A_q3.out).far ⟨gc, 0, none⟩ (.bool R.neg) ca).far ⟨gc, 1, none⟩ (.string R.mag) ca)
 have B_q4 := lhd (((B_q3.out).far ⟨gc, 0, none⟩ (.bool R.neg) cb).far ⟨gc, 1, none⟩ (.string R.mag) cb)
 have C_q4 := lhd (C_q3.out.set2 (.bool R.neg) (.string R.mag))
 have Z_q4 := lhd (((Z_q3.out).setCell (p := ⟨gc, 0, none⟩) le3 (.bool R.neg)).setCell (p := ⟨gc, 1, none⟩) le3 (.string R.mag))
 go_simp
 refine hK.out _ _ (hSm.out _ ⟨A_q4.out, B_q4.out⟩) (fun _ => ?_)
 clear hK K z0 z1 z2 z3
 refine wpAnyH_done (by kernel_rfl) ?_ _
 obtain ⟨c0, c1, _⟩ := C_q4.out
 go_wp2_with fail
 refine bodyPost_ret (v := .agg #[.bool R.neg, .string R.mag]) ?_ rfl ⟨rfl, Z_q4.out⟩
 simp [results, Tryz.results91, go_sem, c0, c1]
theorem valZ_abs3 (z : ZI) : (valZ z).natAbs = absZ z := by unfold valZ; split <;> omega
set_option maxRecDepth 100000 in
set_option maxHeartbeats 8000000 in
theorem refAdd3_any (n m : Nat) (Z Y : Nat → ZI) (p q : Option Addr) (c d : Nat) (hn : n ≤ 100000) (hm : m ≤ 100000) (hz : ∀ k, k < n → (Z k).mag.size < 10000000) (hy : ∀ k, k < m → (Y k).mag.size < 10000000) (w : World) (hX : GRow w p n Z) (hY : GRow w q m Y) :
  Calls Tryz.prog 61 #[.slice p n c, .slice q m d] w (RetPol (dgN (fun k => cf Z n k + cf Y m k) (mxN n m)) (fun k => cf Z n k + cf Y m k) w) := by
 have HX := lhd hX
 have HY := lhd hY
 have hzx : ∀ k, (zx Z n k).mag.size < 10000000 := fun k => by unfold zx; split; exact hz k (by assumption); decide
 have hyx : ∀ k, (zx Y m k).mag.size < 10000000 := fun k => by unfold zx; split; exact hy k (by assumption); decide
 have HCa := lhd (fun i (hi : i ≤ 1000000) W h => coef3_any n Z p c i (by omega) hi W h)
 have HCb := lhd (fun i (hi : i ≤ 1000000) W h => coef3_any m Y q d i (by omega) hi W h)
 have HFop := lhd (fun i W => refAddZ_any (zx Z n i) (zx Y m i) (by have := hzx i; omega) (by have := hyx i; omega) (cf Z n i) (cf Y m i) (valZ_zx Z n i) (valZ_zx Y m i) W)
 have hsz : ∀ k, (canon (cf Z n k + cf Y m k)).mag.size < 100000000 := fun k => by
  have hz1 := hzx k
  have hy1 := hyx k
  obtain ⟨K, hK⟩ : ∃ K, 10000000 = K := ⟨_, rfl⟩
  rw [hK] at hz1 hy1
  have h1 : (cf Z n k).natAbs < 256 ^ K := by
   rw [← valZ_zx, valZ_abs3]
   exact absP hz1
  have h2 : (cf Y m k).natAbs < 256 ^ K := by
   rw [← valZ_zx, valZ_abs3]
   exact absP hy1
  have h3 := canon_size (cf Z n k + cf Y m k) (k := K + 1) (by
   rw [Nat.pow_succ]
   generalize 256 ^ K = T at *
   omega)
  omega
 obtain ⟨g, hg⟩ : ∃ g : Nat → Int, (fun k => cf Z n k + cf Y m k) = g := ⟨_, rfl⟩
 have hgk : ∀ k, cf Z n k + cf Y m k = g k := fun k => by rw [← hg]
 rw [hg]
 simp only [hgk] at HFop hsz
 obtain ⟨mx, hmx⟩ : ∃ k, mxN n m = k := ⟨_, rfl⟩
 have hmxl : mx ≤ 100000 := by have := mxN_or n m; omega
 have hmax := fun ts t w => ymax2 (P := Tryz.prog) ts t w n m
 rw [hmx] at hmax ⊢
 have HCn := lhd (fun r cr W (h : RowF W r mx g) => refCan3_any mx (fun k => canon (g k)) r cr (by omega) (fun k _ => hsz k) W h)
 simp only [valZ_canon] at HCn
 clear hX hY hz hy hzx hyx hsz hg hgk hmx
 go_enter Tryz.func61, Tryz.ntmps61
 go_wp2_with fail
 go_loopw [5, 6] (fun ov iv wr => ∃ i : Nat, i ≤ mx ∧ iv = .int .i64 (i : Nat) ∧ Hid (OwnZ wr w.heap.size ov (zsF g i)) ∧ Hid (Below w.heap.size w wr)) (fun _ iv _ => mx - (intOf iv).toNat)
 case atStart => exact ⟨0, by omega, by go_num, lhd (OwnZ.made w (Nat.le_refl _)), lhd ((Below.refl _ _).alloc (Nat.le_refl _) _)⟩
 case round =>
  obtain ⟨i, hi, rfl, HO, HB⟩ := hrel
  by_cases hil : i < mx
  ·have i0 : (0 : Int) ≤ (i : Int) := by omega
   have i1 : (i : Int) < (mx : Int) := by omega
   have hi6 : i ≤ 1000000 := by omega
   have HA := lhd (fun W => HFop.out i W)
   have hnx : zsF g (i + 1) = zsF g i ++ [g i] := zsF_snoc g i
   have Hnx := lhd hnx
   have hca := HCa.out i hi6 wr (SlAt.mono HX.out (Nat.le_refl _) HB.out)
   have HCb2 := lhd (fun W h => HCb.out i hi6 W h)
   obtain ⟨y, hyy⟩ : ∃ y, g i = y := ⟨_, rfl⟩
   rw [hyy] at HA Hnx
   generalize zx Z n i = z1 at *
   generalize zx Y m i = z2 at *
   have Hca := lhd hca
   have hs := HB.out.size
   clear hnx hyy hca
   go_wp2_with fail
   refine Hca.out.mono ?_
   rintro e w2 ⟨rfl, hb2⟩
   dsimp only
   have HZ2 := lhd (HO.out.below (Nat.le_refl _) hb2)
   have HB2 := lhd (HB.out.trans (hb2.mono HB.out.size))
   clear hb2 HO HB Hca hs
   go_wp2_with fail
   refine (HCb2.out _ (SlAt.mono HY.out (Nat.le_refl _) HB2.out)).mono ?_
   rintro e w3 ⟨rfl, hb3⟩
   dsimp only
   have HZ3 := lhd (HZ2.out.below (Nat.le_refl _) hb3)
   have HB3 := lhd (HB2.out.trans (hb3.mono HB2.out.size))
   clear hb3 HZ2 HB2 HCb2
   go_wp2_with fail
   refine (HA.out _).mono ?_
   rintro e w4 ⟨rfl, hb4⟩
   dsimp only
   have HZ4 := lhd (HZ3.out.below (Nat.le_refl _) hb4)
   have hb4 := HB3.out.trans (hb4.mono HB3.out.size)
   have hys := hb4.size
   have Hb4 := lhd hb4
   clear hb4 HZ3 HB3 HA
   go_wp2_with (at_builtin; refine wpList_append_zs rfl _ _ rfl w.heap.size _ (zsF g i) rfl (HZ4.out.alloc _) w4.heap.size 0 1 1 [y] rfl rfl ?_ ?_ ?_ ?_)
   ·intro j hj
    have : j = 0 := by simpa using hj
    subst this
    simp
   ·rw [zsF_len]; simp; omega
   ·simp; omega
   ·intro v9 w9 hown9 hgr9
    have hb9 : Below w.heap.size w w9 := below_append (Hb4.out.alloc hys _) (HZ4.out.alloc _) hgr9 (by simp; omega) (Nat.le_refl _)
    rw [← Hnx.out] at hown9
    have HZ9 := lhd hown9
    have HY9 := lhd hb9
    clear hown9 hgr9 hb9 HZ4 Hb4 hys
    go_wp2
    go_roundw
    case rel => exact ⟨i + 1, by omega, by go_num, HZ9, HY9⟩
    case measure => simp [intOf]; omega
  ·have i1 : ¬ (i : Int) < (mx : Int) := by omega
   have hie : i = mx := by omega
   have hz9 := HO.out
   rw [hie] at hz9
   obtain ⟨r, cap, rfl, _, hrow, _⟩ := hz9.rowF
   have Hrow := lhd hrow
   clear hz9 hie hrow HO
   go_wp2_with fail
   refine (HCn.out _ _ _ Hrow.out).mono ?_
   rintro e w5 ⟨q5, c5, rfl, hr5, hb5⟩
   dsimp only
   have Hr5 := lhd hr5
   have Hb5 := lhd (HB.out.trans (hb5.mono HB.out.size))
   clear hr5 hb5
   go_wp2_with fail
   go_ret
   exact ⟨q5, c5, rfl, Hr5.out, Hb5.out⟩
set_option maxRecDepth 100000 in
set_option maxHeartbeats 8000000 in
theorem refSub3_any (n m : Nat) (Z Y : Nat → ZI) (p q : Option Addr) (c d : Nat) (hn : n ≤ 100000) (hm : m ≤ 100000) (hz : ∀ k, k < n → (Z k).mag.size < 10000000) (hy : ∀ k, k < m → (Y k).mag.size < 10000000) (w : World) (hX : GRow w p n Z) (hY : GRow w q m Y) :
  Calls Tryz.prog 64 #[.slice p n c, .slice q m d] w (RetPol (dgN (fun k => cf Z n k - cf Y m k) (mxN n m)) (fun k => cf Z n k - cf Y m k) w) := by
 have HX := lhd hX
 have HY := lhd hY
 have hzx : ∀ k, (zx Z n k).mag.size < 10000000 := fun k => by unfold zx; split; exact hz k (by assumption); decide
 have hyx : ∀ k, (zx Y m k).mag.size < 10000000 := fun k => by unfold zx; split; exact hy k (by assumption); decide
 have HCa := lhd (fun i (hi : i ≤ 1000000) W h => coef3_any n Z p c i (by omega) hi W h)
 have HCb := lhd (fun i (hi : i ≤ 1000000) W h => coef3_any m Y q d i (by omega) hi W h)
 have HFop := lhd (fun i W => refSubZ_any (zx Z n i) (zx Y m i) (by have := hzx i; omega) (by have := hyx i; omega) (cf Z n i) (cf Y m i) (valZ_zx Z n i) (valZ_zx Y m i) W)
 have hsz : ∀ k, (canon (cf Z n k - cf Y m k)).mag.size < 100000000 := fun k => by
  have hz1 := hzx k
  have hy1 := hyx k
  obtain ⟨K, hK⟩ : ∃ K, 10000000 = K := ⟨_, rfl⟩
  rw [hK] at hz1 hy1
  have h1 : (cf Z n k).natAbs < 256 ^ K := by
   rw [← valZ_zx, valZ_abs3]
   exact absP hz1
  have h2 : (cf Y m k).natAbs < 256 ^ K := by
   rw [← valZ_zx, valZ_abs3]
   exact absP hy1
  have h3 := canon_size (cf Z n k - cf Y m k) (k := K + 1) (by
   rw [Nat.pow_succ]
   generalize 256 ^ K = T at *
   omega)
  omega
 obtain ⟨g, hg⟩ : ∃ g : Nat → Int, (fun k => cf Z n k - cf Y m k) = g := ⟨_, rfl⟩
 have hgk : ∀ k, cf Z n k - cf Y m k = g k := fun k => by rw [← hg]
 rw [hg]
 simp only [hgk] at HFop hsz
 obtain ⟨mx, hmx⟩ : ∃ k, mxN n m = k := ⟨_, rfl⟩
 have hmxl : mx ≤ 100000 := by have := mxN_or n m; omega
 have hmax := fun ts t w => ymax2 (P := Tryz.prog) ts t w n m
 rw [hmx] at hmax ⊢
 have HCn := lhd (fun r cr W (h : RowF W r mx g) => refCan3_any mx (fun k => canon (g k)) r cr (by omega) (fun k _ => hsz k) W h)
 simp only [valZ_canon] at HCn
 clear hX hY hz hy hzx hyx hsz hg hgk hmx
 go_enter Tryz.func64, Tryz.ntmps64
 go_wp2_with fail
 go_loopw [5, 6] (fun ov iv wr => ∃ i : Nat, i ≤ mx ∧ iv = .int .i64 (i : Nat) ∧ Hid (OwnZ wr w.heap.size ov (zsF g i)) ∧ Hid (Below w.heap.size w wr)) (fun _ iv _ => mx - (intOf iv).toNat)
 case atStart => exact ⟨0, by omega, by go_num, lhd (OwnZ.made w (Nat.le_refl _)), lhd ((Below.refl _ _).alloc (Nat.le_refl _) _)⟩
 case round =>
  obtain ⟨i, hi, rfl, HO, HB⟩ := hrel
  by_cases hil : i < mx
  ·have i0 : (0 : Int) ≤ (i : Int) := by omega
   have i1 : (i : Int) < (mx : Int) := by omega
   have hi6 : i ≤ 1000000 := by omega
   have HA := lhd (fun W => HFop.out i W)
   have hnx : zsF g (i + 1) = zsF g i ++ [g i] := zsF_snoc g i
   have Hnx := lhd hnx
   have hca := HCa.out i hi6 wr (SlAt.mono HX.out (Nat.le_refl _) HB.out)
   have HCb2 := lhd (fun W h => HCb.out i hi6 W h)
   obtain ⟨y, hyy⟩ : ∃ y, g i = y := ⟨_, rfl⟩
   rw [hyy] at HA Hnx
   generalize zx Z n i = z1 at *
   generalize zx Y m i = z2 at *
   have Hca := lhd hca
   have hs := HB.out.size
   clear hnx hyy hca
   go_wp2_with fail
   refine Hca.out.mono ?_
   rintro e w2 ⟨rfl, hb2⟩
   dsimp only
   have HZ2 := lhd (HO.out.below (Nat.le_refl _) hb2)
   have HB2 := lhd (HB.out.trans (hb2.mono HB.out.size))
   clear hb2 HO HB Hca hs
   go_wp2_with fail
   refine (HCb2.out _ (SlAt.mono HY.out (Nat.le_refl _) HB2.out)).mono ?_
   rintro e w3 ⟨rfl, hb3⟩
   dsimp only
   have HZ3 := lhd (HZ2.out.below (Nat.le_refl _) hb3)
   have HB3 := lhd (HB2.out.trans (hb3.mono HB2.out.size))
   clear hb3 HZ2 HB2 HCb2
   go_wp2_with fail
   refine (HA.out _).mono ?_
   rintro e w4 ⟨rfl, hb4⟩
   dsimp only
   have HZ4 := lhd (HZ3.out.below (Nat.le_refl _) hb4)
   have hb4 := HB3.out.trans (hb4.mono HB3.out.size)
   have hys := hb4.size
   have Hb4 := lhd hb4
   clear hb4 HZ3 HB3 HA
   go_wp2_with (at_builtin; refine wpList_append_zs rfl _ _ rfl w.heap.size _ (zsF g i) rfl (HZ4.out.alloc _) w4.heap.size 0 1 1 [y] rfl rfl ?_ ?_ ?_ ?_)
   ·intro j hj
    have : j = 0 := by simpa using hj
    subst this
    simp
   ·rw [zsF_len]; simp; omega
   ·simp; omega
   ·intro v9 w9 hown9 hgr9
    have hb9 : Below w.heap.size w w9 := below_append (Hb4.out.alloc hys _) (HZ4.out.alloc _) hgr9 (by simp; omega) (Nat.le_refl _)
    rw [← Hnx.out] at hown9
    have HZ9 := lhd hown9
    have HY9 := lhd hb9
    clear hown9 hgr9 hb9 HZ4 Hb4 hys
    go_wp2
    go_roundw
    case rel => exact ⟨i + 1, by omega, by go_num, HZ9, HY9⟩
    case measure => simp [intOf]; omega
  ·have i1 : ¬ (i : Int) < (mx : Int) := by omega
   have hie : i = mx := by omega
   have hz9 := HO.out
   rw [hie] at hz9
   obtain ⟨r, cap, rfl, _, hrow, _⟩ := hz9.rowF
   have Hrow := lhd hrow
   clear hz9 hie hrow HO
   go_wp2_with fail
   refine (HCn.out _ _ _ Hrow.out).mono ?_
   rintro e w5 ⟨q5, c5, rfl, hr5, hb5⟩
   dsimp only
   have Hr5 := lhd hr5
   have Hb5 := lhd (HB.out.trans (hb5.mono HB.out.size))
   clear hr5 hb5
   go_wp2_with fail
   go_ret
   exact ⟨q5, c5, rfl, Hr5.out, Hb5.out⟩
end Go.Proofs.YtmbamcpndbimaaaGreatDoor
