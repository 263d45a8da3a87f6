/- The functions power and primitive of the law of chapter 03: the walks. -/
import Derived.Test.YteoemijgdcpopaaDoorD38
import Derived.Test.YteoemijgdcpopaaDoorD25
import Derived.Laws.StructEq
namespace Go.Proofs.YteoemijgdcpopaaDoor
open Go.RowKit Go.Shelf
theorem bn_pow {x : Int} {e : Nat} (h : Bn x e) : ∀ n : Nat, Bn (x ^ n) (e * n)
  | 0 => by rw [Int.pow_zero]; exact Bn.one _
  | n + 1 => by rw [Int.pow_succ, Nat.mul_add, Nat.mul_one]; exact (bn_pow h n).mul h
set_option maxRecDepth 100000 in
set_option maxHeartbeats 8000000 in
theorem power_any (z : ZI) (n : Nat) (e : Nat) (hn : n ≤ 1000) (he : e ≤ 100000) (hz : z.mag.size ≤ 100000000) (hb : Bn (valZ z) e) (w : World) :
    Calls Tryd.prog 34 #[.agg #[.bool z.neg, .string z.mag], .int .i64 (n : Int)] w (RetPol 1 (fun _ => valZ z ^ n) w) := by
  have HSz := Lib.hid (fun i (hi : i ≤ n) => (bn_pow hb i).size 100000000 (by
    have : e * i ≤ 100000 * 1000 := Nat.mul_le_mul he (by omega)
    omega))
  have Hml := Lib.hid (fun i (hi : i < n) W => mul_any (canon (valZ z ^ i)) z (HSz.out i (by omega)) hz W)
  have Hmv : Hid (∀ i, mkZ (!((canon (valZ z ^ i)).neg == z.neg)) (absZ (canon (valZ z ^ i)) * absZ z) = canon (valZ z ^ (i + 1))) := Lib.hid (fun i => by rw [mulZ_val, valZ_canon, Int.pow_succ])
  have Hof := Lib.hid (fun W => of_any 1 (by decide) (by decide) W)
  have H0 : Hid (canon (1 : Int) = canon (valZ z ^ 0)) := Lib.hid (by rw [Int.pow_zero])
  clear hb hz
  go_enter Tryd.func34, Tryd.ntmps34
  go_upto_region 1 with (fail)
  have hal := (Below.refl w.heap.size w).alloc (Nat.le_refl _) (.cells #[.bool z.neg, .string z.mag] 35)
  have hbx := BoxAt.new w (.bool z.neg) (.string z.mag) 35
  obtain ⟨ga, hga⟩ : ∃ k, w.heap.size = k := ⟨_, rfl⟩
  have Hga := Lib.hid hga
  have B0 := Lib.hid hal
  rw [hga] at hbx ⊢
  have X0 := Lib.hid hbx
  clear hal hbx hga
  generalize w.alloc (.cells #[.bool z.neg, .string z.mag] 35) = W0 at *
  go_wp2_with fail
  refine (Hof.out W0).mono ?_
  rintro e1 W1 ⟨rfl, hb1⟩
  dsimp only
  have B1 := Lib.hid (B0.out.trans (hb1.mono B0.out.size))
  have X1 := Lib.hid (X0.out.below hb1 X0.out.2.2.2.2)
  rw [H0.out]
  clear hb1 B0 X0
  obtain ⟨CO, hCO⟩ : ∃ x, canon (valZ z ^ 0) = x := ⟨_, rfl⟩
  rw [hCO]
  have HCO := Lib.hid hCO
  clear hCO H0
  go_upto_region 2 with (fail)
  have hal := (Below.refl W1.heap.size W1).alloc (Nat.le_refl _) (.cells #[.bool CO.neg, .string CO.mag] 35)
  have hbx := BoxAt.new W1 (.bool CO.neg) (.string CO.mag) 35
  have hne : w.heap.size < W1.heap.size := by have := X1.out.2.2.2.2; have := Hga.out; omega
  have B2 := Lib.hid (B1.out.trans (hal.mono B1.out.size))
  have X2 := Lib.hid (X1.out.below hal X1.out.2.2.2.2)
  rw [Hga.out] at hne
  obtain ⟨gb, hgb⟩ : ∃ k, W1.heap.size = k := ⟨_, rfl⟩
  rw [hgb] at hbx hne ⊢
  have Y2 := Lib.hid hbx
  clear hal hbx hgb B1 X1
  generalize W1.alloc (.cells #[.bool CO.neg, .string CO.mag] 35) = W2 at *
  rw [← HCO.out] at Y2
  have n0 : ¬ gb = ga := by omega
  have n1 : ¬ ga = gb := by omega
  have hw : w.heap.size ≤ gb := by have := Hga.out; omega
  clear hne HCO
  go_wp2_with fail
  go_loopw [8] (fun iv wr => ∃ i : Nat, i ≤ n ∧ iv = .int .i64 (i : Nat) ∧ Hid (BoxAt wr ga (.bool z.neg) (.string z.mag)) ∧ Hid (BoxAt wr gb (.bool (canon (valZ z ^ i)).neg) (.string (canon (valZ z ^ i)).mag)) ∧ Hid (Below w.heap.size w wr)) (fun iv _ => n - (intOf iv).toNat)
  case atStart => exact ⟨0, by omega, by go_num, X2, Y2, B2⟩
  case round =>
    clear X2 Y2 B2
    obtain ⟨i, hi, rfl, HX, HY, HB⟩ := hrel
    by_cases hil : i < n
    · have i0 : (0 : Int) ≤ (i : Int) := by omega
      have i1 : (i : Int) < (n : Int) := by omega
      have HM := Lib.hid (fun W => Hml.out i hil W)
      rw [Hmv.out i] at HM
      obtain ⟨CX, hCX⟩ : ∃ x, canon (valZ z ^ i) = x := ⟨_, rfl⟩
      obtain ⟨CN, hCN⟩ : ∃ x, canon (valZ z ^ (i + 1)) = x := ⟨_, rfl⟩
      rw [hCX] at HY HM
      rw [hCN] at HM
      have HCN := Lib.hid hCN
      clear hCX hCN
      obtain ⟨a0, a1, _, _, hga⟩ := HX.out
      obtain ⟨c0, c1, _, _, hgb⟩ := HY.out
      go_wp2_with fail
      refine (HM.out wr).mono ?_
      rintro e4 w4 ⟨rfl, hb4⟩
      dsimp only
      have HX4 := Lib.hid (HX.out.below hb4 hga)
      have HY4 := Lib.hid (HY.out.below hb4 hgb)
      have HB4 := Lib.hid (HB.out.trans (hb4.mono HB.out.size))
      clear hb4 HX HY HB a0 a1 c0 c1 HM
      obtain ⟨g0, g1, g2, g3, g4⟩ := HY4.out
      have HS := Lib.hid (HY4.out.set2 (.bool CN.neg) (.string CN.mag))
      have HT := Lib.hid ((HX4.out.far ⟨gb, 0, none⟩ (.bool CN.neg) n0).far ⟨gb, 1, none⟩ (.string CN.mag) n0)
      have HU := Lib.hid ((HB4.out.setCell (p := ⟨gb, 0, none⟩) hw (.bool CN.neg)).setCell (p := ⟨gb, 1, none⟩) hw (.string CN.mag))
      clear hga hgb HX4 HY4 HB4
      go_wp2_with fail
      go_roundw
      case rel => exact ⟨i + 1, by omega, by go_num, HT, by rw [HCN.out]; exact HS, HU⟩
      case measure => simp [intOf]; omega
    · have i1 : ¬ (i : Int) < (n : Int) := by omega
      have hie : i = n := by omega
      rw [hie] at HY
      clear hie hi hil HX
      obtain ⟨CX, hCX⟩ : ∃ x, canon (valZ z ^ n) = x := ⟨_, rfl⟩
      rw [hCX] at HY
      have HCX := Lib.hid hCX
      clear hCX
      obtain ⟨c0, c1, _, _, hgb⟩ := HY.out
      go_wp2_with fail
      go_ret
      have hal := HB.out.alloc HB.out.size (.cells #[.bool CX.neg, .string CX.mag] 35)
      have hbx := BoxAt.new wr (.bool CX.neg) (.string CX.mag) 35
      refine ⟨some ⟨wr.heap.size, 0, none⟩, 1, rfl, .inr ⟨wr.heap.size, 0, rfl, hbx.2.2.2.2, fun j hj k hk => ?_⟩, hal⟩
      obtain rfl : j = 0 := by omega
      show _ = some (zg (canon (valZ z ^ n)) k)
      rw [HCX.out]
      rcases (show k = 0 ∨ k = 1 by omega) with rfl | rfl
      · exact hbx.1
      · exact hbx.2.1
/-- A primitive polynomial is told to be one. -/
theorem primLaw_any (n : Nat) (f : Nat → Int) (p : Option Addr) (c : Nat) {e : Nat} (hn : n ≤ 1000) (he : e ≤ 100000000) (hf : ∀ k, Bn (f k) e) (hp : Prim n f) (w : World) (hX : RowF w p n f) :
    Calls Tryd.prog 33 #[.slice p n c] w (RetB true w) := by
  have hn0 := hp.pos
  have hg1 := hp.one
  have hl := hp.lead
  have Hf := Lib.hid hf
  have Hgb := Lib.hid (fun k => gcN_bn hf k)
  have hdg : dgN f n = n := by
    obtain ⟨m, rfl⟩ : ∃ m, n = m + 1 := ⟨n - 1, by omega⟩
    rw [Nat.add_sub_cancel] at hl
    rw [dgN, if_neg (by omega)]
  have hD := fun W (hW : RowF W p n f) => Degree_any n (fun k => canon (f k)) p c (by omega) (fun k _ => (hf k).size _ (by omega)) W hW
  rw [show (fun k => valZ (canon (f k))) = f from funext fun _ => valZ_canon _, hdg] at hD
  have HD := Lib.hid hD
  have HX := Lib.hid hX
  obtain ⟨n1, hn1⟩ : ∃ k, n - 1 = k := ⟨_, rfl⟩
  rw [hn1] at hl
  have n1e : (n : Int) - 1 = (n1 : Int) := by omega
  have n1l : (0 : Int) ≤ (n1 : Int) := by omega
  have n1u : (n1 : Int) < (n : Int) := by omega
  have n1n : n1 < n := by omega
  have hcm := fun W => cmp_any (canon (f n1)) ⟨false, ⟨#[]⟩⟩ ((hf n1).size _ (by omega)) (by decide) W
  rw [valZ_canon, show valZ ⟨false, ⟨#[]⟩⟩ = 0 from rfl, show cmpI (f n1) 0 = 1 from by unfold cmpI; rw [if_neg (by omega), if_pos hl]] at hcm
  have HCm := Lib.hid hcm
  have HOf := Lib.hid (fun W => of_any 1 (by decide) (by decide) W)
  have Hg1 := Lib.hid hg1
  have Hn1 := Lib.hid hn1
  obtain ⟨pb, po, rfl, hpl, hpc⟩ := RowF.cells hX hn0
  have Hpc := Lib.hid (fun W (hW : Below w.heap.size w W) k (hk : k < n) => show W.cell? ⟨pb, po + k * 2, none⟩ = some (.bool (canon (f k)).neg) ∧ W.cell? ⟨pb, po + k * 2 + 1, none⟩ = some (.string (canon (f k)).mag) from ⟨(hW.cell (p := ⟨pb, po + k * 2, none⟩) hpl).trans (hpc k hk).1, (hW.cell (p := ⟨pb, po + k * 2 + 1, none⟩) hpl).trans (hpc k hk).2⟩)
  clear hX hf hl hn1 hpc hg1 hp hdg hD hcm
  go_enter Tryd.func33, Tryd.ntmps33
  go_wp2_with fail
  refine (HD.out w HX.out).mono ?_
  rintro e0 w0 ⟨rfl, hb0⟩
  dsimp only
  have HB0 := Lib.hid hb0
  have hs0 := hb0.size
  rw [n1e]
  clear hb0 HD HX
  go_wp2_with fail
  have hal := HB0.out.alloc hs0 (.cells #[.bool false, .string ⟨#[]⟩] 35)
  have hbx := BoxAt.new w0 (.bool false) (.string ⟨#[]⟩) 35
  obtain ⟨gb, hgb⟩ : ∃ k, w0.heap.size = k := ⟨_, rfl⟩
  have B0 := Lib.hid hal
  have hwg : w.heap.size ≤ gb := by omega
  rw [hgb] at hbx ⊢
  have X0 := Lib.hid (show BoxAt (w0.alloc (.cells #[.bool false, .string ⟨#[]⟩] 35)) gb (.bool (canon ((gcN f 0 : Nat) : Int)).neg) (.string (canon ((gcN f 0 : Nat) : Int)).mag) from hbx)
  clear hal hbx hgb hs0 HB0
  generalize w0.alloc (.cells #[.bool false, .string ⟨#[]⟩] 35) = W0 at *
  go_loopw [11] (fun iv wr => ∃ i : Nat, i ≤ n ∧ iv = .int .i64 (i : Nat) ∧ Hid (BoxAt wr gb (.bool (canon ((gcN f i : Nat) : Int)).neg) (.string (canon ((gcN f i : Nat) : Int)).mag)) ∧ Hid (Below w.heap.size w wr)) (fun iv _ => n - (intOf iv).toNat)
  case atStart => exact ⟨0, by omega, by go_num, X0, B0⟩
  case round =>
    clear X0 B0
    obtain ⟨i, hi, rfl, HG, HB⟩ := hrel
    by_cases hil : i < n
    · have i0 : (0 : Int) ≤ (i : Int) := by omega
      have i1 : (i : Int) < (n : Int) := by omega
      obtain ⟨a0, a1⟩ := Hpc.out wr HB.out i hil
      have hpw : pb < wr.heap.size := by have h1 := HB.out.size; omega
      have hgd := fun W => gcdz_any (canon ((gcN f i : Nat) : Int)) (canon (f i)) ((show Bn ((gcN f i : Nat) : Int) e from Hgb.out i).size 100000000 (by omega)) ((Hf.out i).size 100000000 (by omega)) W
      simp only [absZ_canon, Int.natAbs_natCast] at hgd
      rw [show Nat.gcd (gcN f i) (f i).natAbs = gcN f (i + 1) from rfl] at hgd
      have HGd := Lib.hid hgd
      obtain ⟨CX, hCX⟩ : ∃ z, canon (f i) = z := ⟨_, rfl⟩
      obtain ⟨CG, hCG⟩ : ∃ z, canon ((gcN f i : Nat) : Int) = z := ⟨_, rfl⟩
      obtain ⟨CN, hCN⟩ : ∃ z, canon ((gcN f (i + 1) : Nat) : Int) = z := ⟨_, rfl⟩
      rw [hCX] at a0 a1 HGd
      rw [hCG] at HG HGd
      rw [hCN] at HGd
      have HCN := Lib.hid hCN
      have hgl : gb < wr.heap.size := HG.out.2.2.2.2
      clear hgd hCX hCG hCN
      go_upto_region 6 with (fail)
      clear a0 a1 hpw
      have hal := (Below.refl wr.heap.size wr).alloc (Nat.le_refl _) (.cells #[.bool CX.neg, .string CX.mag] 35)
      have hbx := BoxAt.new wr (.bool CX.neg) (.string CX.mag) 35
      have HG2 := Lib.hid (HG.out.below hal hgl)
      have HB2 := Lib.hid (HB.out.trans (hal.mono HB.out.size))
      obtain ⟨gx, hgx⟩ : ∃ k, wr.heap.size = k := ⟨_, rfl⟩
      rw [hgx] at hbx hgl ⊢
      clear hal HG HB hgx
      generalize wr.alloc (.cells #[.bool CX.neg, .string CX.mag] 35) = X at *
      obtain ⟨x0, x1, _, _, _⟩ := hbx
      obtain ⟨g0, g1, _, _, hgX⟩ := HG2.out
      go_wp2_with fail
      refine (HGd.out X).mono ?_
      rintro e4 w4 ⟨rfl, hb4⟩
      dsimp only
      have HG4 := Lib.hid (HG2.out.below hb4 hgX)
      have HB4 := Lib.hid (HB2.out.trans (hb4.mono HB2.out.size))
      clear hb4 HG2 HB2 x0 x1 g0 g1 HGd hgX
      obtain ⟨g0, g1, g2, g3, g4⟩ := HG4.out
      have hset := BoxAt.set2 HG4.out (.bool CN.neg) (.string CN.mag)
      have HS := Lib.hid hset
      have HU := Lib.hid ((HB4.out.setCell (p := ⟨gb, 0, none⟩) hwg (.bool CN.neg)).setCell (p := ⟨gb, 1, none⟩) hwg (.string CN.mag))
      clear hset HG4 HB4
      go_wp2_with fail
      go_roundw
      case rel => exact ⟨i + 1, by omega, by go_num, by rw [HCN.out]; exact HS, HU⟩
      case measure => simp [intOf]; omega
    · have i1 : ¬ (i : Int) < (n : Int) := by omega
      have hie : i = n := by omega
      rw [hie] at HG
      rw [Hg1.out] at HG
      clear hie hi hil
      have HS0 := Lib.hid (fun W (hW : Below wr.heap.size wr W) => And.intro (Hpc.out W (HB.out.trans (hW.mono HB.out.size)) n1 n1n) (HG.out.below hW HG.out.2.2.2.2))
      obtain ⟨CX, hCX⟩ : ∃ x, canon (f n1) = x := ⟨_, rfl⟩
      obtain ⟨CO, hCO⟩ : ∃ x, canon (1 : Int) = x := ⟨_, rfl⟩
      have hCO2 : canon (((1 : Nat) : Int)) = CO := hCO
      rw [hCX] at HS0 HCm
      rw [hCO] at HOf
      rw [hCO2] at HS0
      have hb1 : (CO.neg == CO.neg) = true := beq_self_eq_true _
      have hb2 : (CO.mag.toList == CO.mag.toList) = true := beq_self_eq_true _
      clear hCX hCO hCO2 HG
      go_upto_region 8 with (fail)
      obtain ⟨SS, hSe⟩ : ∃ SS : World → Prop, SS = fun W => W.cell? ⟨pb, po + n1 * 2, none⟩ = some (.bool CX.neg) ∧ W.cell? ⟨pb, po + n1 * 2 + 1, none⟩ = some (.string CX.mag) ∧ W.cell? ⟨gb, 0, none⟩ = some (.bool CO.neg) ∧ W.cell? ⟨gb, 1, none⟩ = some (.string CO.mag) := ⟨_, rfl⟩
      have HS : Hid (∀ W, Below wr.heap.size wr W → SS W) := Lib.hid (fun W hW => by
        obtain ⟨⟨b0, b1⟩, b2⟩ := HS0.out W hW
        rw [hSe]; exact ⟨b0, b1, b2.1, b2.2.1⟩)
      have hd : Below wr.heap.size wr wr.drew := (Below.refl _ _).drew
      refine wp_region_held_drew (S := SS) (by kernel_rfl) (HS.out _ hd) (fun hSS => ?_)
      refine wpAnyH_take (i := 0) (v := ?_) rfl (by kernel_rfl) (by kernel_rfl) (by kernel_rfl) (fun _ _ _ h => h) (Or.inl ⟨by rfl, ?_⟩) (HS.out _ hd) ?_
      rotate_left 1
      next => intro w hSw; rw [hSe] at hSw; obtain ⟨s1, s2, s3, s4⟩ := hSw; go_simp; try with_reducible rfl
      try simp only [Act.put, List.getElem_toArray, List.getElem_cons_zero, List.getElem_cons_succ, List.setIfInBounds_toArray, List.set_cons_zero, List.set_cons_succ]
      refine wpAnyH_take (i := 1) (v := ?_) rfl (by kernel_rfl) (by kernel_rfl) (by kernel_rfl) (fun _ _ _ h => h) (Or.inl ⟨by rfl, ?_⟩) (HS.out _ hd) ?_
      rotate_left 1
      next => intro w hSw; rw [hSe] at hSw; obtain ⟨s1, s2, s3, s4⟩ := hSw; go_simp; try with_reducible rfl
      try simp only [Act.put, List.getElem_toArray, List.getElem_cons_zero, List.getElem_cons_succ, List.setIfInBounds_toArray, List.set_cons_zero, List.set_cons_succ]
      refine wpAnyH_take (i := 2) (v := ?_) rfl (by kernel_rfl) (by kernel_rfl) (by kernel_rfl) (fun _ _ _ h => h) (Or.inl ⟨by rfl, ?_⟩) (HS.out _ hd) ?_
      rotate_left 1
      next => intro w hSw; rw [hSe] at hSw; obtain ⟨s1, s2, s3, s4⟩ := hSw; go_simp; try with_reducible rfl
      try simp only [Act.put, List.getElem_toArray, List.getElem_cons_zero, List.getElem_cons_succ, List.setIfInBounds_toArray, List.set_cons_zero, List.set_cons_succ]
      refine wpAnyH_take (i := 3) (v := ?_) rfl (by kernel_rfl) (by kernel_rfl) (by kernel_rfl) (fun _ _ _ h => h) (Or.inl ⟨by rfl, ?_⟩) (HS.out _ hd) ?_
      rotate_left 1
      next => intro w hSw; rw [hSe] at hSw; obtain ⟨s1, s2, s3, s4⟩ := hSw; go_simp; try with_reducible rfl
      try simp only [Act.put, List.getElem_toArray, List.getElem_cons_zero, List.getElem_cons_succ, List.setIfInBounds_toArray, List.set_cons_zero, List.set_cons_succ]
      refine wpAnyH_take (i := 4) (v := ?_) rfl (by kernel_rfl) (by kernel_rfl) (by kernel_rfl) (fun _ _ _ h => h) (Or.inl ⟨by rfl, ?_⟩) (HS.out _ hd) ?_
      rotate_left 1
      next => intro w hSw; rw [hSe] at hSw; obtain ⟨s1, s2, s3, s4⟩ := hSw; go_simp; try with_reducible rfl
      try simp only [Act.put, List.getElem_toArray, List.getElem_cons_zero, List.getElem_cons_succ, List.setIfInBounds_toArray, List.set_cons_zero, List.set_cons_succ]
      refine wpAnyH_take (i := 5) (v := ?_) rfl (by kernel_rfl) (by kernel_rfl) (by kernel_rfl) (fun _ _ _ h => h) (Or.inl ⟨by rfl, ?_⟩) (HS.out _ hd) ?_
      rotate_left 1
      next => intro w hSw; rw [hSe] at hSw; obtain ⟨s1, s2, s3, s4⟩ := hSw; go_simp; try with_reducible rfl
      try simp only [Act.put, List.getElem_toArray, List.getElem_cons_zero, List.getElem_cons_succ, List.setIfInBounds_toArray, List.set_cons_zero, List.set_cons_succ]
      refine wpAnyH_take (i := 6) (v := ?_) rfl (by kernel_rfl) (by kernel_rfl) (by kernel_rfl) (fun _ _ _ h => h) (Or.inl ⟨by rfl, ?_⟩) (HS.out _ hd) ?_
      rotate_left 1
      next => intro w hSw; rw [hSe] at hSw; obtain ⟨s1, s2, s3, s4⟩ := hSw; go_simp; try with_reducible rfl
      try simp only [Act.put, List.getElem_toArray, List.getElem_cons_zero, List.getElem_cons_succ, List.setIfInBounds_toArray, List.set_cons_zero, List.set_cons_succ]
      refine wpAnyH_take (i := 7) (v := ?_) rfl (by kernel_rfl) (by kernel_rfl) (by kernel_rfl) (fun _ _ _ h => h) (Or.inl ⟨by rfl, ?_⟩) (HS.out _ hd) ?_
      rotate_left 1
      next => intro w hSw; rw [hSe] at hSw; obtain ⟨s1, s2, s3, s4⟩ := hSw; go_simp; try with_reducible rfl
      try simp only [Act.put, List.getElem_toArray, List.getElem_cons_zero, List.getElem_cons_succ, List.setIfInBounds_toArray, List.set_cons_zero, List.set_cons_succ]
      refine wpAnyH_take (i := 8) (v := ?_) rfl (by kernel_rfl) (by kernel_rfl) (by kernel_rfl) (fun _ _ _ h => h) (Or.inl ⟨by rfl, ?_⟩) (HS.out _ hd) ?_
      rotate_left 1
      next => intro w hSw; rw [hSe] at hSw; obtain ⟨s1, s2, s3, s4⟩ := hSw; go_simp; try with_reducible rfl
      try simp only [Act.put, List.getElem_toArray, List.getElem_cons_zero, List.getElem_cons_succ, List.setIfInBounds_toArray, List.set_cons_zero, List.set_cons_succ]
      refine wpAnyH_take (i := 9) (v := ?_) rfl (by kernel_rfl) (by kernel_rfl) (by kernel_rfl) (fun _ _ _ h => h) (Or.inl ⟨by rfl, ?_⟩) (HS.out _ hd) ?_
      rotate_left 1
      next => intro w hSw; rw [hSe] at hSw; obtain ⟨s1, s2, s3, s4⟩ := hSw; go_simp; try with_reducible rfl
      try simp only [Act.put, List.getElem_toArray, List.getElem_cons_zero, List.getElem_cons_succ, List.setIfInBounds_toArray, List.set_cons_zero, List.set_cons_succ]
      refine wpAnyH_take (i := 10) (v := ?_) rfl (by kernel_rfl) (by kernel_rfl) (by kernel_rfl) (fun _ _ _ h => h) (Or.inl ⟨by rfl, ?_⟩) (HS.out _ hd) ?_
      rotate_left 1
      next => intro w hSw; rw [hSe] at hSw; obtain ⟨s1, s2, s3, s4⟩ := hSw; go_simp; try with_reducible rfl
      try simp only [Act.put, List.getElem_toArray, List.getElem_cons_zero, List.getElem_cons_succ, List.setIfInBounds_toArray, List.set_cons_zero, List.set_cons_succ]
      refine wpAnyH_take (i := 11) (v := ?_) rfl (by kernel_rfl) (by kernel_rfl) (by kernel_rfl) (fun _ _ _ h => h) (Or.inl ⟨by rfl, ?_⟩) (HS.out _ hd) ?_
      rotate_left 1
      next => intro w hSw; rw [hSe] at hSw; obtain ⟨s1, s2, s3, s4⟩ := hSw; go_simp; try with_reducible rfl
      try simp only [Act.put, List.getElem_toArray, List.getElem_cons_zero, List.getElem_cons_succ, List.setIfInBounds_toArray, List.set_cons_zero, List.set_cons_succ]
      refine wpAnyH_take (i := 12) (v := ?_) rfl (by kernel_rfl) (by kernel_rfl) (by kernel_rfl) (fun _ _ _ h => h) (Or.inl ⟨by rfl, ?_⟩) (HS.out _ hd) ?_
      rotate_left 1
      next => intro w hSw; rw [hSe] at hSw; obtain ⟨s1, s2, s3, s4⟩ := hSw; go_simp; try with_reducible rfl
      try simp only [Act.put, List.getElem_toArray, List.getElem_cons_zero, List.getElem_cons_succ, List.setIfInBounds_toArray, List.set_cons_zero, List.set_cons_succ]
      refine wpAnyH_take (i := 13) (v := ?_) rfl (by kernel_rfl) (by kernel_rfl) (by kernel_rfl) (fun _ _ _ h => h) (Or.inl ⟨by rfl, ?_⟩) (HS.out _ hd) ?_
      rotate_left 1
      next => intro w hSw; rw [hSe] at hSw; obtain ⟨s1, s2, s3, s4⟩ := hSw; go_simp; try with_reducible rfl
      try simp only [Act.put, List.getElem_toArray, List.getElem_cons_zero, List.getElem_cons_succ, List.setIfInBounds_toArray, List.set_cons_zero, List.set_cons_succ]
      try simp only [Act.put, List.getElem_toArray, List.getElem_cons_zero, List.getElem_cons_succ, List.setIfInBounds_toArray, List.set_cons_zero, List.set_cons_succ]
      refine wpAnyH_ready (rs := [14]) (by kernel_rfl) (by simp) ?_
      refine AllReadyH.cons rfl (fun K hK => ?_) AllReadyH.nil
      go_simp
      refine (HCm.out _).mono ?_
      rintro e w1 ⟨rfl, hbc⟩
      have hb1 : Below wr.heap.size wr w1 := hd.trans (hbc.mono hd.size)
      dsimp only
      refine hK.out _ _ (HS.out _ hb1) (fun _ => ?_)
      clear hK K hbc
      refine wpAnyH_take (i := 15) (v := ?_) rfl (by kernel_rfl) (by kernel_rfl) (by kernel_rfl) (fun _ _ _ h => h) (Or.inl ⟨by rfl, ?_⟩) (HS.out _ hb1) ?_
      rotate_left 1
      next => intro w hSw; rw [hSe] at hSw; obtain ⟨s1, s2, s3, s4⟩ := hSw; go_simp; try with_reducible rfl
      try simp only [Act.put, List.getElem_toArray, List.getElem_cons_zero, List.getElem_cons_succ, List.setIfInBounds_toArray, List.set_cons_zero, List.set_cons_succ]
      refine wpAnyH_take (i := 16) (v := ?_) rfl (by kernel_rfl) (by kernel_rfl) (by kernel_rfl) (fun _ _ _ h => h) (Or.inl ⟨by rfl, ?_⟩) (HS.out _ hb1) ?_
      rotate_left 1
      next => intro w hSw; rw [hSe] at hSw; obtain ⟨s1, s2, s3, s4⟩ := hSw; go_simp; try with_reducible rfl
      try simp only [Act.put, List.getElem_toArray, List.getElem_cons_zero, List.getElem_cons_succ, List.setIfInBounds_toArray, List.set_cons_zero, List.set_cons_succ]
      refine wpAnyH_take (i := 17) (v := ?_) rfl (by kernel_rfl) (by kernel_rfl) (by kernel_rfl) (fun _ _ _ h => h) (Or.inl ⟨by rfl, ?_⟩) (HS.out _ hb1) ?_
      rotate_left 1
      next => intro w hSw; rw [hSe] at hSw; obtain ⟨s1, s2, s3, s4⟩ := hSw; go_simp; try with_reducible rfl
      try simp only [Act.put, List.getElem_toArray, List.getElem_cons_zero, List.getElem_cons_succ, List.setIfInBounds_toArray, List.set_cons_zero, List.set_cons_succ]
      refine wpAnyH_take (i := 18) (v := ?_) rfl (by kernel_rfl) (by kernel_rfl) (by kernel_rfl) (fun _ _ _ h => h) (Or.inl ⟨by rfl, ?_⟩) (HS.out _ hb1) ?_
      rotate_left 1
      next => intro w hSw; rw [hSe] at hSw; obtain ⟨s1, s2, s3, s4⟩ := hSw; go_simp; try with_reducible rfl
      try simp only [Act.put, List.getElem_toArray, List.getElem_cons_zero, List.getElem_cons_succ, List.setIfInBounds_toArray, List.set_cons_zero, List.set_cons_succ]
      try simp only [Act.put, List.getElem_toArray, List.getElem_cons_zero, List.getElem_cons_succ, List.setIfInBounds_toArray, List.set_cons_zero, List.set_cons_succ]
      refine wpAnyH_ready (rs := [19]) (by kernel_rfl) (by simp) ?_
      refine AllReadyH.cons rfl (fun K hK => ?_) AllReadyH.nil
      go_simp
      refine (HOf.out _).mono ?_
      rintro e w2 ⟨rfl, hbc⟩
      have hb2 : Below wr.heap.size wr w2 := hb1.trans (hbc.mono hb1.size)
      dsimp only
      refine hK.out _ _ (HS.out _ hb2) (fun _ => ?_)
      clear hK K hbc
      refine wpAnyH_take (i := 20) (v := ?_) rfl (by kernel_rfl) (by kernel_rfl) (by kernel_rfl) (fun _ _ _ h => h) (Or.inl ⟨by rfl, ?_⟩) (HS.out _ hb2) ?_
      rotate_left 1
      next => intro w hSw; rw [hSe] at hSw; obtain ⟨s1, s2, s3, s4⟩ := hSw; go_simp; try with_reducible rfl
      try simp only [Act.put, List.getElem_toArray, List.getElem_cons_zero, List.getElem_cons_succ, List.setIfInBounds_toArray, List.set_cons_zero, List.set_cons_succ]
      refine wpAnyH_take (i := 21) (v := ?_) rfl (by kernel_rfl) (by kernel_rfl) (by kernel_rfl) (fun _ _ _ h => h) (Or.inl ⟨by rfl, ?_⟩) (HS.out _ hb2) ?_
      rotate_left 1
      next => intro w hSw; rw [hSe] at hSw; obtain ⟨s1, s2, s3, s4⟩ := hSw; go_simp; try with_reducible rfl
      try simp only [Act.put, List.getElem_toArray, List.getElem_cons_zero, List.getElem_cons_succ, List.setIfInBounds_toArray, List.set_cons_zero, List.set_cons_succ]
      refine wpAnyH_take (i := 22) (v := ?_) rfl (by kernel_rfl) (by kernel_rfl) (by kernel_rfl) (fun _ _ _ h => h) (Or.inl ⟨by rfl, ?_⟩) (HS.out _ hb2) ?_
      rotate_left 1
      next => intro w hSw; rw [hSe] at hSw; obtain ⟨s1, s2, s3, s4⟩ := hSw; go_simp; try with_reducible rfl
      try simp only [Act.put, List.getElem_toArray, List.getElem_cons_zero, List.getElem_cons_succ, List.setIfInBounds_toArray, List.set_cons_zero, List.set_cons_succ]
      refine wpAnyH_done (by kernel_rfl) ?_ _
      go_wp2_with fail
      go_ret
      exact ⟨rfl, HB.out.trans (hb2.mono HB.out.size)⟩
end Go.Proofs.YteoemijgdcpopaaDoor
