/- grooveref03.divide: the walk. -/
import Derived.Test.YtmbamcpndbimaaaGreatDoorJ30
import Derived.Test.YtmbamcpndbimaaaGreatDoorJ23
namespace Go.Proofs.YtmbamcpndbimaaaGreatDoor
open List renaming getElem_toArray → ny1, getElem_cons_zero → ny2, getElem_cons_succ → ny3, setIfInBounds_toArray → ny4, set_cons_zero → ny5, set_cons_succ → ny6
open Go.RowKit Go.Shelf
structure GR (w : World) (p : Option Addr) (n : Nat) (Z : Nat → ZI) : Prop where
 row : GRow w p n Z
theorem GR.below {w w' : World} {p : Option Addr} {n : Nat} {Z : Nat → ZI} (h : GR w p n Z) (hb : Below w.heap.size w w') : GR w' p n Z := ⟨SlAt.mono h.row (Nat.le_refl _) hb⟩
theorem GR.one {w : World} {g : Nat} {z : ZI} (h : BoxAt w g (.bool z.neg) (.string z.mag)) : GR w (some ⟨g, 0, none⟩) 1 (fun _ => z) :=
 ⟨.inr ⟨g, 0, rfl, h.2.2.2.2, fun i hi j hj => by
  obtain rfl : i = 0 := by omega
  rcases (show j = 0 ∨ j = 1 by omega) with rfl | rfl
  ·exact h.1
  ·exact h.2.1⟩⟩
theorem scF_bn {F : Nat → Int} {x : Int} {e e' s : Nat} (bF : ∀ k, Bn (F k) e) (bx : Bn x e') (k : Nat) : Bn (scF F x s k) (e + e') := by
 unfold scF
 split
 ·exact Bn.zero _
 ·exact (bF _).mul bx
theorem scaleR {w : World} {p : Option Addr} {n c s : Nat} {Z : Nat → ZI} {zc : ZI} {F : Nat → Int} {x : Int} {e e' : Nat} (hX : GRow w p n Z) (hn : n ≤ 1000) (hs : s ≤ 1000) (hz : ∀ k, k < n → (Z k).mag.size < 10000000) (hzc : zc.mag.size < 10000000) (hF : ∀ k, cf Z n k = F k) (hx : valZ zc = x) (bF : ∀ k, Bn (F k) e) (bx : Bn x e') (he : e + e' ≤ 79999992) :
  Calls Tryz.prog 62 #[.slice p n c, .agg #[.bool zc.neg, .string zc.mag], .int .i64 (s : Int)] w (RetC (scF F x s) w) := by
 refine (refScale_any n s Z zc p c F x hn hs hz hzc (fun k hk => by rw [← hF k]; unfold cf; rw [if_pos hk]) hx (fun k _ => Nat.lt_of_le_of_lt (((bF k).mul bx).size 90000000 (by omega)) (by decide)) w hX).mono ?_
 intro en w' h
 exact h.c fun i hi => by
  unfold scF
  rw [if_neg (by omega), ← hF, cf_out Z n _ (by omega), Int.zero_mul]
theorem dvS_far1 {f g : Nat → Int} {n m : Nat} (hnm : m ≤ n) : ∀ j i, n - m < i → (dvS f g n m j).1 i = 0
 | 0, _, _ => rfl
 | j + 1, i, hi => by
  show (dvS f g n m j).1 i * g (m - 1) + (if i = n - m - j then _ else 0) = 0
  rw [dvS_far1 hnm j i hi, if_neg (by omega), Int.zero_mul]; rfl
def RetDC (f g : Nat → Int) (w : World) (e : Ending) (w' : World) : Prop := ∃ q a c p b d, e = .returned (.tuple #[.slice q a c, .slice p b d]) ∧ Cn w' q a f ∧ Cn w' p b g ∧ Below w.heap.size w w'
set_option maxRecDepth 100000 in
set_option maxHeartbeats 16000000 in
theorem refDivide_any (n m : Nat) (Z Y : Nat → ZI) (p q : Option Addr) (c d : Nat) {e e' : Nat} (f g : Nat → Int) (n1 m1 : Nat) (hn : n ≤ 900) (hm : m ≤ 900) (hm0 : 0 < m1) (hB : e + (n1 + 1 - m1) * (e' + 1) + e' + e + 2 ≤ 79999991) (hz : ∀ k, k < n → (Z k).mag.size < 10000000) (hy : ∀ k, k < m → (Y k).mag.size < 10000000) (hfe : ∀ k, cf Z n k = f k) (hge : ∀ k, cf Y m k = g k) (hf : ∀ k, Bn (f k) e) (hg : ∀ k, Bn (g k) e') (hne : dgN f n = n1) (hme : dgN g m = m1) (w : World) (hX : GRow w p n Z) (hY : GRow w q m Y) :
  Calls Tryz.prog 33 #[.slice p n c, .slice q m d] w (RetDC (dvS f g n1 m1 (n1 + 1 - m1)).1 (dvS f g n1 m1 (n1 + 1 - m1)).2 w) := by
 have hfn : dgN (fun k => valZ (Z k)) n = n1 := by rw [← hne]; exact dgN_congr n fun i hi => by rw [← hfe]; exact (if_pos hi).symm
 have hgm : dgN (fun k => valZ (Y k)) m = m1 := by rw [← hme]; exact dgN_congr m fun i hi => by rw [← hge]; exact (if_pos hi).symm
 have hf0 : ∀ i, n1 ≤ i → f i = 0 := fun i hi => by
  rcases Nat.lt_or_ge i n with h | h
  ·exact dgN_over f n i (by omega) h
  ·rw [← hfe, cf_out Z n i h]
 have hg0 : ∀ i, m1 ≤ i → g i = 0 := fun i hi => by
  rcases Nat.lt_or_ge i m with h | h
  ·exact dgN_over g m i (by omega) h
  ·rw [← hge, cf_out Y m i h]
 have hn1 : n1 ≤ n := by rw [← hne]; exact dgN_le f n
 have hm1 : m1 ≤ m := by rw [← hme]; exact dgN_le g m
 obtain ⟨J, hJ⟩ : ∃ J, n1 + 1 - m1 = J := ⟨_, rfl⟩
 rw [hJ] at hB ⊢
 have hbs := fun j => dvS_bn (n := n1) (m := m1) hf hg j
 obtain ⟨E, hE⟩ : ∃ E, e + J * (e' + 1) = E := ⟨_, rfl⟩
 rw [hE] at hB
 have hbE : ∀ j, j ≤ J → (∀ i, Bn ((dvS f g n1 m1 j).1 i) E) ∧ ∀ i, Bn ((dvS f g n1 m1 j).2 i) E := fun j hj => by
  have h1 : e + j * (e' + 1) ≤ E := by rw [← hE]; exact Nat.add_le_add_left (Nat.mul_le_mul_right _ hj) _
  exact ⟨fun i => ((hbs j).1 i).up h1, fun i => ((hbs j).2 i).up h1⟩
 have hstep : ∀ j, j < J → (∀ i, (dvS f g n1 m1 (j + 1)).1 i = scF (dvS f g n1 m1 j).1 (g (m1 - 1)) 0 i + scF (fun k => if k = 0 then (dvS f g n1 m1 j).2 (n1 - 1 - j) else 0) 1 (n1 - m1 - j) i) ∧ ∀ i, (dvS f g n1 m1 (j + 1)).2 i = scF (dvS f g n1 m1 j).2 (g (m1 - 1)) 0 i - scF g ((dvS f g n1 m1 j).2 (n1 - 1 - j)) (n1 - m1 - j) i := fun j hj => by
  have ek : n1 - m1 - j + m1 - 1 = n1 - 1 - j := by omega
  refine ⟨fun i => ?_, fun i => ?_⟩
  ·show (dvS f g n1 m1 j).1 i * g (m1 - 1) + (if i = n1 - m1 - j then (dvS f g n1 m1 j).2 (n1 - m1 - j + m1 - 1) else 0) = _
   rw [ek]
   unfold scF
   rw [if_neg (Nat.not_lt_zero i), Nat.sub_zero]
   congr 1
   by_cases h1 : i < n1 - m1 - j
   ·rw [if_neg (show ¬ i = n1 - m1 - j by omega), if_pos h1]
   ·by_cases h2 : i = n1 - m1 - j
    ·rw [if_pos h2, if_neg h1]
     show _ = (if i - (n1 - m1 - j) = 0 then _ else 0) * 1
     rw [if_pos (by omega), Int.mul_one]
    ·rw [if_neg h2, if_neg h1]
     show 0 = (if i - (n1 - m1 - j) = 0 then _ else 0) * 1
     rw [if_neg (by omega)]; rfl
  ·show (dvS f g n1 m1 j).2 i * g (m1 - 1) - (if n1 - m1 - j ≤ i ∧ i < n1 - m1 - j + m1 then (dvS f g n1 m1 j).2 (n1 - m1 - j + m1 - 1) * g (i - (n1 - m1 - j)) else 0) = _
   rw [ek]
   unfold scF
   rw [if_neg (Nat.not_lt_zero i), Nat.sub_zero]
   congr 1
   by_cases h1 : i < n1 - m1 - j
   ·rw [if_neg (show ¬ (n1 - m1 - j ≤ i ∧ i < n1 - m1 - j + m1) by omega), if_pos h1]
   ·by_cases h2 : i < n1 - m1 - j + m1
    ·rw [if_pos (show n1 - m1 - j ≤ i ∧ i < n1 - m1 - j + m1 by omega), if_neg h1, Int.mul_comm]
    ·rw [if_neg (show ¬ (n1 - m1 - j ≤ i ∧ i < n1 - m1 - j + m1) by omega), if_neg h1, hg0 _ (by omega), Int.zero_mul]
 have hq0 : ∀ j, j ≤ J → ∀ i, n1 - m1 < i → (dvS f g n1 m1 j).1 i = 0 := fun j hj i hi => by
  by_cases h : m1 ≤ n1
  ·exact dvS_far1 h j i hi
  ·obtain rfl : j = 0 := by omega
   rfl
 have hr0 : ∀ j, j ≤ J → ∀ i, n1 ≤ i → (dvS f g n1 m1 j).2 i = 0 := fun j hj i hi => by
  by_cases h : m1 ≤ n1
  ·exact dvS_far h hf0 j i hi
  ·obtain rfl : j = 0 := by omega
   exact hf0 i hi
 have hca := canR3 (c := c) hX (by omega) (fun k hk => Nat.lt_of_lt_of_le (hz k hk) (by decide))
 rw [funext hfe] at hca
 have hd1 := refDeg3_any m Y q d (by omega) (fun k hk => Nat.le_of_lt (Nat.lt_of_lt_of_le (hy k hk) (by decide)))
 have hd2 := refDeg3_any n Z p c (by omega) (fun k hk => Nat.le_of_lt (Nat.lt_of_lt_of_le (hz k hk) (by decide)))
 rw [hgm] at hd1
 rw [hfn] at hd2
 have hbe : ∀ k, Bn (g k) e' := hg
 have hcv : valZ (Y (m1 - 1)) = g (m1 - 1) := by rw [← hge]; exact (if_pos (by omega)).symm
 have hcs := hy (m1 - 1) (by omega)
 have HY := lhd hY
 have HX := lhd hX
 have HCa := lhd (fun W (h : GRow W p n Z) => by
  have hca := canR3 (c := c) h (by omega) (fun k hk => Nat.lt_of_lt_of_le (hz k hk) (by decide))
  rw [funext hfe] at hca
  exact hca)
 have HD1 := lhd (fun W h => hd1 W h)
 have HD2 := lhd (fun W h => hd2 W h)
 have HSb := lhd (fun W (h : GRow W q m Y) (zt : ZI) t s (hs : s ≤ 1000) (hzt : zt.mag.size < 10000000) (ht : valZ zt = t) (bt : Bn t E) => scaleR (c := d) h (by omega) hs hy hzt hge ht hg bt (by omega))
 have HbE := lhd hbE
 have Hg := lhd hg
 have Hg0 := lhd (fun i hi => hg0 i hi)
 have Hstep := lhd hstep
 have Hq0 := lhd hq0
 have Hr0 := lhd hr0
 have Hgc := lhd (hg (m1 - 1))
 obtain ⟨ZC, hZC⟩ : ∃ z, Y (m1 - 1) = z := ⟨_, rfl⟩
 obtain ⟨gc, hgc⟩ : ∃ z, g (m1 - 1) = z := ⟨_, rfl⟩
 rw [hZC] at hcv hcs
 rw [hgc] at hcv Hstep Hgc
 obtain ⟨bb, bo, rfl, hbl, hbc⟩ := GRow.cells hY (show m1 - 1 < m by omega)
 have hbc2 := hbc (m1 - 1) (by omega)
 rw [hZC] at hbc2
 obtain ⟨b3, b4⟩ := hbc2
 obtain ⟨M, hM⟩ : ∃ M, m1 - 1 = M := ⟨_, rfl⟩
 have hM1 : (m1 : Int) - 1 = (M : Int) := by omega
 have hM2 : (0 : Int) ≤ (M : Int) := by omega
 have hM3 : (M : Int) < (m : Int) := by omega
 rw [hM] at b3 b4
 rw [hM1] at HD1
 have Hb3 := lhd b3
 have Hb4 := lhd b4
 have Hcv := lhd hcv
 have Hcs := lhd hcs
 have HJ := lhd hJ
 have HM := lhd hM
 have Hbl := lhd hbl
 clear hca hd1 hd2 hX hY hbE hstep hq0 hr0 hZC hgc hbc b3 b4 hcv hcs hfn hgm hf0 hg0 hfe hge hf hg hbe hbs hz hy hM1 hJ hM hbl
 go_enter Tryz.func33, Tryz.ntmps33
 go_wp2_with fail
 have hal := (Below.refl w.heap.size w).alloc (Nat.le_refl _) (.cells #[] 24)
 have HXa := lhd (SlAt.mono HX.out (Nat.le_refl _) hal)
 refine (HCa.out _ HXa.out).mono ?_
 rintro e1 w1 ⟨p1, l1, c1, rfl, hr1, hb1⟩
 dsimp only
 have HR := lhd hr1
 have HB1 := lhd (hal.trans (hb1.mono hal.size))
 have HY1 := lhd (SlAt.mono HY.out (Nat.le_refl _) HB1.out)
 clear hr1 hb1 hal HXa HCa
 go_wp2_with fail
 refine (HD1.out _ HY1.out).mono ?_
 rintro e2 w2 ⟨rfl, hb2⟩
 dsimp only
 have HB2 := lhd (HB1.out.trans (hb2.mono HB1.out.size))
 have HR2 := lhd (HR.out.below hb2)
 clear hb2 HD1 HB1 HR
 have b3 := cell_below HB2.out Hb3.out
 have b4 := cell_below HB2.out Hb4.out
 go_upto_region 4 with (fail)
 have hbx := BoxAt.new w2 (.bool ZC.neg) (.string ZC.mag) 24
 have hal := (Below.refl w2.heap.size w2).alloc (Nat.le_refl _) (.cells #[.bool ZC.neg, .string ZC.mag] 24)
 obtain ⟨gb, hgb⟩ : ∃ k, w2.heap.size = k := ⟨_, rfl⟩
 have HR3 := lhd (HR2.out.below hal)
 have HB3 := lhd (HB2.out.trans (hal.mono HB2.out.size))
 rw [hgb] at hbx ⊢
 have HBx := lhd hbx
 clear hal hbx hgb HR2 HB2 b3 b4
 generalize w2.alloc (.cells #[.bool ZC.neg, .string ZC.mag] 24) = w3 at *
 have HX3 := lhd (SlAt.mono HX.out (Nat.le_refl _) HB3.out)
 go_wp2_with fail
 refine (HD2.out _ HX3.out).mono ?_
 rintro e4 w4 ⟨rfl, hb4⟩
 dsimp only
 have HR4 := lhd (HR3.out.below hb4)
 have HB4 := lhd (HB3.out.trans (hb4.mono HB3.out.size))
 have HBx4 := lhd (HBx.out.below hb4 HBx.out.2.2.2.2)
 clear hb4 HX3 HR3 HB3 HBx HD2
 go_wp2_with fail
 go_loopw [6, 7, 10] (fun qv rv kv wr => ∃ (j : Nat) (pq pr : Option Addr) (nq nr cq cr : Nat), j ≤ J ∧ qv = .slice pq nq cq ∧ rv = .slice pr nr cr ∧ kv = .int .i64 ((n1 : Int) - 1 - (j : Int)) ∧ Hid (Cn wr pq nq (dvS f g n1 m1 j).1) ∧ Hid (Cn wr pr nr (dvS f g n1 m1 j).2) ∧ Hid (BoxAt wr gb (.bool ZC.neg) (.string ZC.mag)) ∧ Hid (Below w.heap.size w wr)) (fun _ _ kv _ => (intOf kv + 1).toNat)
 case atStart => exact ⟨0, _, _, _, _, _, _, by omega, rfl, rfl, by go_num, lhd ⟨.inl rfl, fun _ _ => rfl, fun h => absurd h (by decide)⟩, HR4, HBx4, HB4⟩
 case round =>
  clear HR4 HBx4 HB4
  obtain ⟨j, pq, pr, nq, nr, cq, cr, hj, rfl, rfl, rfl, HQ, HR, HBx, HB⟩ := hrel
  by_cases hjl : j < J
  ·obtain ⟨s, hs⟩ : ∃ s, n1 - m1 - j = s := ⟨_, rfl⟩
   obtain ⟨k, hk⟩ : ∃ k, n1 - 1 - j = k := ⟨_, rfl⟩
   have hJo := HJ.out
   have hMo := HM.out
   have hkj : (n1 : Int) - 1 - (j : Int) = (k : Int) := by omega
   have hks : (k : Int) - (M : Int) = (s : Int) := by omega
   have hkM : (k : Int) ≥ (M : Int) := by omega
   have hk6 : k ≤ 1000000 := by omega
   have hs6 : s ≤ 1000 := by omega
   have hsw : IntKind.i64.wrap (s : Int) = (s : Int) := IntWalk.i64_in _ (by omega)
   rw [hkj]
   have Hkj := lhd hkj
   obtain ⟨hst1, hst2⟩ := Hstep.out j hjl
   rw [hk, hs] at hst1 hst2
   obtain ⟨bq, br⟩ := HbE.out j (by omega)
   have hq0 := Hq0.out j (by omega)
   have hr0 := Hr0.out j (by omega)
   obtain ⟨Q, hQe⟩ : ∃ Q, (dvS f g n1 m1 j).1 = Q := ⟨_, rfl⟩
   obtain ⟨R, hRe⟩ : ∃ Q, (dvS f g n1 m1 j).2 = Q := ⟨_, rfl⟩
   obtain ⟨Q2, hQe2⟩ : ∃ Q, (dvS f g n1 m1 (j + 1)).1 = Q := ⟨_, rfl⟩
   obtain ⟨R2, hRe2⟩ : ∃ Q, (dvS f g n1 m1 (j + 1)).2 = Q := ⟨_, rfl⟩
   have HQe2 := lhd hQe2
   have HRe2 := lhd hRe2
   rw [hQe] at HQ hst1 bq hq0
   rw [hRe] at HR hst1 hst2 br hr0
   rw [hQe2] at hst1
   rw [hRe2] at hst2
   obtain ⟨t, ht⟩ : ∃ t, R k = t := ⟨_, rfl⟩
   rw [ht] at hst1 hst2
   have bt : Bn t E := by rw [← ht]; exact br k
   have hnq : nq ≤ 900 := HQ.out.le (N := 900) (fun i hi => hq0 i (by omega))
   have hnr : nr ≤ 900 := HR.out.le (N := 900) (fun i hi => hr0 i (by omega))
   have hzt : zx (fun i => canon (R i)) nr k = canon t := by
    unfold zx
    split
    ·show canon (R k) = canon t
     rw [ht]
    ·rw [← ht, HR.out.out k (by omega)]; rfl
   have hco := fun W (h : GRow W pr nr fun i => canon (R i)) => coef3_any nr (fun i => canon (R i)) pr cr k (by omega) hk6 W h
   rw [hzt] at hco
   have HCo := lhd hco
   have hszt := bn_sz bt (by omega)
   have HS1 := lhd (fun W (h : Cn W pq nq Q) => scaleR (c := cq) (s := 0) h.g (by omega) (by omega) (fun k _ => bn_sz (bq k) (by omega)) Hcs.out (cf_canon h) Hcv.out bq Hgc.out (by omega))
   have HS2 := lhd (fun W (h : Cn W pr nr R) => scaleR (c := cr) (s := 0) h.g (by omega) (by omega) (fun k _ => bn_sz (br k) (by omega)) Hcs.out (cf_canon h) Hcv.out br Hgc.out (by omega))
   have HS3 := lhd (fun W p c (h : GR W p 1 fun _ => canon t) => scaleR (c := c) (zc := canon 1) (x := 1) (F := fun k => if k = 0 then t else 0) (e := E) (e' := 0) h.row (by omega) hs6 (fun k _ => hszt) (by decide) (fun k => by
    unfold cf
    by_cases h : k < 1
    ·rw [if_pos h, if_pos (by omega)]; exact valZ_canon _
    ·rw [if_neg h, if_neg (by omega)]) (valZ_canon _) (fun k => by
    split
    ·exact bt
    ·exact Bn.zero _) (Bn.one 0) (by omega))
   have HS4 := lhd (fun W (h : GRow W (some ⟨bb, bo, none⟩) m Y) => HSb.out W h (canon t) t s hs6 hszt (valZ_canon _) bt)
   have be1 : ∀ k, Bn (scF Q gc 0 k) (E + e') := fun k => (scF_bn bq Hgc.out k).up (by omega)
   have be2 : ∀ k, Bn (scF (fun k => if k = 0 then t else 0) 1 s k) (E + e') := fun k => (scF_bn (e := E) (e' := 0) (fun k => by
    split
    ·exact bt
    ·exact Bn.zero _) (Bn.one 0) k).up (by omega)
   have be3 : ∀ k, Bn (scF R gc 0 k) (E + e') := fun k => (scF_bn br Hgc.out k).up (by omega)
   have be4 : ∀ k, Bn (scF g t s k) (E + e') := fun k => by
    have h := HbE
    exact (scF_bn Hg.out bt k).up (by omega)
   have HAd := lhd (fun W p1 n1' c1 p2 n2' c2 (h1 : Cn W p1 n1' (scF Q gc 0)) (h2 : Cn W p2 n2' (scF (fun k => if k = 0 then t else 0) 1 s)) => (addR3 (c := c1) (d := c2) h1 h2 (h1.le (N := 100000) fun i hi => by
    unfold scF
    rw [if_neg (by omega), hq0 _ (by omega), Int.zero_mul]) (h2.le (N := 100000) fun i hi => by
    show (if i < s then 0 else (if i - s = 0 then t else 0) * 1) = 0
    rw [if_neg (by omega), if_neg (by omega), Int.zero_mul]) be1 be2 (by omega)).mono fun en w' (h : RetC _ _ _ _) => h.congr (G := Q2) fun i => (hst1 i).symm)
   have HSu := lhd (fun W p1 n1' c1 p2 n2' c2 (h1 : Cn W p1 n1' (scF R gc 0)) (h2 : Cn W p2 n2' (scF g t s)) => (subR3 (c := c1) (d := c2) h1 h2 (h1.le (N := 100000) fun i hi => by
    unfold scF
    rw [if_neg (by omega), hr0 _ (by omega), Int.zero_mul]) (h2.le (N := 100000) fun i hi => by
    unfold scF
    rw [if_neg (by omega), Hg0.out _ (by omega), Int.zero_mul]) be3 be4 (by omega)).mono fun en w' (h : RetC _ _ _ _) => h.congr (G := R2) fun i => (hst2 i).symm)
   have HOf := lhd (fun W => refOfAll_any 1 (by decide) W)
   rw [show ((1 : Nat) : Int) = 1 from rfl] at HOf
   obtain ⟨ZT, hZT⟩ : ∃ z, canon t = z := ⟨_, rfl⟩
   rw [hZT] at HCo HS3 HS4
   obtain ⟨Z1, hZ1⟩ : ∃ z, canon 1 = z := ⟨_, rfl⟩
   rw [hZ1] at HOf HS3
   clear hco hst1 hst2 bq br hq0 hr0 hQe hRe hQe2 hRe2 bt hnq hnr hzt hszt be1 be2 be3 be4 hk hs hJo hMo ht hZT hZ1 hkj
   go_upto_region 7 with (fail)
   go_wp2_with fail
   refine (HCo.out _ HR.out.g).mono ?_
   rintro e5 w5 ⟨rfl, hb5⟩
   dsimp only
   have HQ5 := lhd (HQ.out.below hb5)
   have HR5 := lhd (HR.out.below hb5)
   have HC5 := lhd (HBx.out.below hb5 HBx.out.2.2.2.2)
   have HB5 := lhd (HB.out.trans (hb5.mono HB.out.size))
   clear hb5 HQ HR HBx HB HCo
   go_upto_region 8 with (fail)
   have hbx := BoxAt.new w5 (.bool ZT.neg) (.string ZT.mag) 24
   have hal := (Below.refl w5.heap.size w5).alloc (Nat.le_refl _) (.cells #[.bool ZT.neg, .string ZT.mag] 24)
   obtain ⟨gt, hgt⟩ : ∃ k, w5.heap.size = k := ⟨_, rfl⟩
   have HQ6 := lhd (HQ5.out.below hal)
   have HR6 := lhd (HR5.out.below hal)
   have HC6 := lhd (HC5.out.below hal HC5.out.2.2.2.2)
   have HB6 := lhd (HB5.out.trans (hal.mono HB5.out.size))
   rw [hgt] at hbx ⊢
   have HT6 := lhd hbx
   clear hal hbx hgt HQ5 HR5 HC5 HB5
   generalize w5.alloc (.cells #[.bool ZT.neg, .string ZT.mag] 24) = V at *
   have HY6 := lhd (fun W (hW : Below V.heap.size V W) => SlAt.mono HY.out (Nat.le_refl _) (HB6.out.trans (hW.mono HB6.out.size)))
   have HDV := lhd (Below.refl V.heap.size V)
   obtain ⟨SS, hSe⟩ : ∃ SS : World → Prop, SS = fun W => W.cell? ⟨gb, 0, none⟩ = some (.bool ZC.neg) ∧ W.cell? ⟨gb, 1, none⟩ = some (.string ZC.mag) ∧ W.cell? ⟨gt, 0, none⟩ = some (.bool ZT.neg) ∧ W.cell? ⟨gt, 1, none⟩ = some (.string ZT.mag) := ⟨_, rfl⟩
   have HSD : Hid (∀ W, Below V.heap.size V W → SS W) := lhd (fun W hW => by
    obtain ⟨c0, c1, _, _, _⟩ := HC6.out
    obtain ⟨d0, d1, _, _, _⟩ := HT6.out
    have hWV := HDV.out.trans (hW.mono HDV.out.size)
    rw [hSe]; exact ⟨cell_below hWV c0, cell_below hWV c1, cell_below hWV d0, cell_below hWV d1⟩)
   have HD0 := lhd (Below.refl V.heap.size V)
   refine wp_region_held_drew (S := SS) (by kernel_rfl) (HSD.out _ HD0.out.drew) (fun _ => ?_)
   have D_q1 := lhd (HD0.out.drew)
   generalize V.drew = VD at *
   refine wpAnyH_take (i := 0) (v := ?_) rfl (by kernel_rfl) (by kernel_rfl) (by kernel_rfl) (fun _ _ _ h => h) (Or.inl ⟨by rfl, ?_⟩) (HSD.out _ D_q1.out) ?_
   rotate_left 1
   next => intro w hSw; rw [hSe] at hSw; obtain ⟨s1, s2, s3, s4⟩ := hSw; go_simp; try with_reducible rfl
   try simp only [Act.put, ny1, ny2, ny3, ny4, ny5, ny6]
   refine wpAnyH_take (i := 1) (v := ?_) rfl (by kernel_rfl) (by kernel_rfl) (by kernel_rfl) (fun _ _ _ h => h) (Or.inl ⟨by rfl, ?_⟩) (HSD.out _ D_q1.out) ?_
   rotate_left 1
   next => intro w hSw; rw [hSe] at hSw; obtain ⟨s1, s2, s3, s4⟩ := hSw; go_simp; try with_reducible rfl
   try simp only [Act.put, ny1, ny2, ny3, ny4, ny5, ny6]
   refine wpAnyH_take (i := 3) (v := ?_) rfl (by kernel_rfl) (by kernel_rfl) (by kernel_rfl) (fun _ _ _ h => h) (Or.inl ⟨by rfl, ?_⟩) (HSD.out _ D_q1.out) ?_
   rotate_left 1
   next => intro w hSw; rw [hSe] at hSw; obtain ⟨s1, s2, s3, s4⟩ := hSw; go_simp; try with_reducible rfl
   try simp only [Act.put, ny1, ny2, ny3, ny4, ny5, ny6]
   refine wpAnyH_take (i := 6) (v := ?_) rfl (by kernel_rfl) (by kernel_rfl) (by kernel_rfl) (fun _ _ _ h => h) (Or.inl ⟨by rfl, ?_⟩) (HSD.out _ D_q1.out) ?_
   rotate_left 1
   next => intro w hSw; rw [hSe] at hSw; obtain ⟨s1, s2, s3, s4⟩ := hSw; go_simp; try with_reducible rfl
   try simp only [Act.put, ny1, ny2, ny3, ny4, ny5, ny6]
   refine wpAnyH_take (i := 7) (v := ?_) rfl (by kernel_rfl) (by kernel_rfl) (by kernel_rfl) (fun _ _ _ h => h) (Or.inl ⟨by rfl, ?_⟩) (HSD.out _ D_q1.out) ?_
   rotate_left 1
   next => intro w hSw; rw [hSe] at hSw; obtain ⟨s1, s2, s3, s4⟩ := hSw; go_simp; try with_reducible rfl
   try simp only [Act.put, ny1, ny2, ny3, ny4, ny5, ny6]
   refine wpAnyH_take (i := 8) (v := ?_) rfl (by kernel_rfl) (by kernel_rfl) (by kernel_rfl) (fun _ _ _ h => h) (Or.inl ⟨by rfl, ?_⟩) (HSD.out _ D_q1.out) ?_
   rotate_left 1
   next => intro w hSw; rw [hSe] at hSw; obtain ⟨s1, s2, s3, s4⟩ := hSw; go_simp; try with_reducible rfl
   try simp only [Act.put, ny1, ny2, ny3, ny4, ny5, ny6]
   refine wpAnyH_ready (rs := [2, 4]) (by kernel_rfl) (by simp) ?_
   refine AllReadyH.cons rfl (fun K hK => ?_) (AllReadyH.cons rfl (fun K hK => ?_) AllReadyH.nil)
   ·go_simp
    refine (HS1.out _ (HQ6.out.below D_q1.out)).mono ?_
    rintro e wq2 ⟨p2, n2, c2, rfl, hr2, hbc⟩
    have D_q2 := lhd (D_q1.out.trans (hbc.mono D_q1.out.size))
    have A_q2 := lhd (hr2)
    dsimp only
    clear hr2
    refine hK.out _ _ (HSD.out _ D_q2.out) (fun _ => ?_)
    clear hK K hbc
    try simp only [Act.put, ny1, ny2, ny3, ny4, ny5, ny6]
    refine wpAnyH_ready (rs := [4, 5]) (by kernel_rfl) (by simp) ?_
    refine AllReadyH.cons rfl (fun K hK => ?_) (AllReadyH.cons rfl (fun K hK => ?_) AllReadyH.nil)
    ·go_simp
     have hbc := (Below.refl (wq2).heap.size (wq2)).alloc (Nat.le_refl _) (.cells #[.bool ZT.neg, .string ZT.mag] 24)
     have hgo := GR.one (BoxAt.new (wq2) (.bool ZT.neg) (.string ZT.mag) 24)
     have D_q3 := lhd (D_q2.out.trans (hbc.mono D_q2.out.size))
     have A_q3 := lhd (A_q2.out.below hbc)
     have G_q3 := lhd hgo
     refine hK.out _ _ (HSD.out _ D_q3.out) (fun _ => ?_)
     clear hK K hbc hgo
     obtain ⟨gG, hgG⟩ : ∃ k, (wq2).heap.size = k := ⟨_, rfl⟩
     rw [hgG] at G_q3 ⊢
     clear hgG
     generalize (wq2).alloc (.cells #[.bool ZT.neg, .string ZT.mag] 24) = wq3 at *
     try simp only [Act.put, ny1, ny2, ny3, ny4, ny5, ny6]
     refine wpAnyH_ready (rs := [5]) (by kernel_rfl) (by simp) ?_
     refine AllReadyH.cons rfl (fun K hK => ?_) AllReadyH.nil
     go_simp
     refine (HOf.out _).mono ?_
     rintro e wq4 ⟨rfl, hbc⟩
     have D_q4 := lhd (D_q3.out.trans (hbc.mono D_q3.out.size))
     have A_q4 := lhd (A_q3.out.below hbc)
     have G_q4 := lhd (G_q3.out.below hbc)
     dsimp only
     refine hK.out _ _ (HSD.out _ D_q4.out) (fun _ => ?_)
     clear hK K hbc
     try simp only [Act.put, ny1, ny2, ny3, ny4, ny5, ny6]
     refine wpAnyH_ready (rs := [9]) (by kernel_rfl) (by simp) ?_
     refine AllReadyH.cons rfl (fun K hK => ?_) AllReadyH.nil
     go_simp
     refine (HS3.out _ _ _ G_q4.out).mono ?_
     rintro e wq5 ⟨p3, n3, c3, rfl, hr3, hbc⟩
     have D_q5 := lhd (D_q4.out.trans (hbc.mono D_q4.out.size))
     have A_q5 := lhd (A_q4.out.below hbc)
     have G_q5 := lhd (G_q4.out.below hbc)
     have B_q5 := lhd (hr3)
     dsimp only
     clear hr3
     refine hK.out _ _ (HSD.out _ D_q5.out) (fun _ => ?_)
     clear hK K hbc
     try simp only [Act.put, ny1, ny2, ny3, ny4, ny5, ny6]
     refine wpAnyH_ready (rs := [10]) (by kernel_rfl) (by simp) ?_
     refine AllReadyH.cons rfl (fun K hK => ?_) AllReadyH.nil
     go_simp
     refine (HAd.out _ _ _ _ _ _ _ A_q5.out B_q5.out).mono ?_
     rintro e wq6 ⟨p4, n4, c4, rfl, hr4, hbc⟩
     have D_q6 := lhd (D_q5.out.trans (hbc.mono D_q5.out.size))
     have A_q6 := lhd (A_q5.out.below hbc)
     have G_q6 := lhd (G_q5.out.below hbc)
     have B_q6 := lhd (B_q5.out.below hbc)
     have N_q6 := lhd (hr4)
     dsimp only
     clear hr4
     refine hK.out _ _ (HSD.out _ D_q6.out) (fun _ => ?_)
     clear hK K hbc
     refine wpAnyH_take (i := 11) (v := ?_) rfl (by kernel_rfl) (by kernel_rfl) (by kernel_rfl) (fun _ _ _ h => h) (Or.inl ⟨by rfl, ?_⟩) (HSD.out _ D_q6.out) ?_
     rotate_left 1
     next => intro w hSw; rw [hSe] at hSw; obtain ⟨s1, s2, s3, s4⟩ := hSw; go_simp; try with_reducible rfl
     try simp only [Act.put, ny1, ny2, ny3, ny4, ny5, ny6]
     refine wpAnyH_done (by kernel_rfl) ?_ _
     have HN9 := N_q6
     have HDV := D_q6
     clear HSD HD0 hSe
     go_upto_region 9 with (fail)
     obtain ⟨SS, hSe⟩ : ∃ SS : World → Prop, SS = fun W => W.cell? ⟨gb, 0, none⟩ = some (.bool ZC.neg) ∧ W.cell? ⟨gb, 1, none⟩ = some (.string ZC.mag) ∧ W.cell? ⟨gt, 0, none⟩ = some (.bool ZT.neg) ∧ W.cell? ⟨gt, 1, none⟩ = some (.string ZT.mag) := ⟨_, rfl⟩
     have HSD : Hid (∀ W, Below wq6.heap.size wq6 W → SS W) := lhd (fun W hW => by
      obtain ⟨c0, c1, _, _, _⟩ := HC6.out
      obtain ⟨d0, d1, _, _, _⟩ := HT6.out
      have hWV := HDV.out.trans (hW.mono HDV.out.size)
      rw [hSe]; exact ⟨cell_below hWV c0, cell_below hWV c1, cell_below hWV d0, cell_below hWV d1⟩)
     have HD0 := lhd (Below.refl wq6.heap.size wq6)
     refine wp_region_held_drew (S := SS) (by kernel_rfl) (HSD.out _ HD0.out.drew) (fun _ => ?_)
     have D_q101 := lhd (HD0.out.drew)
     refine wpAnyH_take (i := 0) (v := ?_) rfl (by kernel_rfl) (by kernel_rfl) (by kernel_rfl) (fun _ _ _ h => h) (Or.inl ⟨by rfl, ?_⟩) (HSD.out _ D_q101.out) ?_
     rotate_left 1
     next => intro w hSw; rw [hSe] at hSw; obtain ⟨s1, s2, s3, s4⟩ := hSw; go_simp; try with_reducible rfl
     try simp only [Act.put, ny1, ny2, ny3, ny4, ny5, ny6]
     refine wpAnyH_take (i := 1) (v := ?_) rfl (by kernel_rfl) (by kernel_rfl) (by kernel_rfl) (fun _ _ _ h => h) (Or.inl ⟨by rfl, ?_⟩) (HSD.out _ D_q101.out) ?_
     rotate_left 1
     next => intro w hSw; rw [hSe] at hSw; obtain ⟨s1, s2, s3, s4⟩ := hSw; go_simp; try with_reducible rfl
     try simp only [Act.put, ny1, ny2, ny3, ny4, ny5, ny6]
     refine wpAnyH_take (i := 3) (v := ?_) rfl (by kernel_rfl) (by kernel_rfl) (by kernel_rfl) (fun _ _ _ h => h) (Or.inl ⟨by rfl, ?_⟩) (HSD.out _ D_q101.out) ?_
     rotate_left 1
     next => intro w hSw; rw [hSe] at hSw; obtain ⟨s1, s2, s3, s4⟩ := hSw; go_simp; try with_reducible rfl
     try simp only [Act.put, ny1, ny2, ny3, ny4, ny5, ny6]
     refine wpAnyH_take (i := 4) (v := ?_) rfl (by kernel_rfl) (by kernel_rfl) (by kernel_rfl) (fun _ _ _ h => h) (Or.inl ⟨by rfl, ?_⟩) (HSD.out _ D_q101.out) ?_
     rotate_left 1
     next => intro w hSw; rw [hSe] at hSw; obtain ⟨s1, s2, s3, s4⟩ := hSw; go_simp; try with_reducible rfl
     try simp only [Act.put, ny1, ny2, ny3, ny4, ny5, ny6]
     refine wpAnyH_take (i := 5) (v := ?_) rfl (by kernel_rfl) (by kernel_rfl) (by kernel_rfl) (fun _ _ _ h => h) (Or.inl ⟨by rfl, ?_⟩) (HSD.out _ D_q101.out) ?_
     rotate_left 1
     next => intro w hSw; rw [hSe] at hSw; obtain ⟨s1, s2, s3, s4⟩ := hSw; go_simp; try with_reducible rfl
     try simp only [Act.put, ny1, ny2, ny3, ny4, ny5, ny6]
     refine wpAnyH_take (i := 6) (v := ?_) rfl (by kernel_rfl) (by kernel_rfl) (by kernel_rfl) (fun _ _ _ h => h) (Or.inl ⟨by rfl, ?_⟩) (HSD.out _ D_q101.out) ?_
     rotate_left 1
     next => intro w hSw; rw [hSe] at hSw; obtain ⟨s1, s2, s3, s4⟩ := hSw; go_simp; try with_reducible rfl
     try simp only [Act.put, ny1, ny2, ny3, ny4, ny5, ny6]
     refine wpAnyH_take (i := 7) (v := ?_) rfl (by kernel_rfl) (by kernel_rfl) (by kernel_rfl) (fun _ _ _ h => h) (Or.inl ⟨by rfl, ?_⟩) (HSD.out _ D_q101.out) ?_
     rotate_left 1
     next => intro w hSw; rw [hSe] at hSw; obtain ⟨s1, s2, s3, s4⟩ := hSw; go_simp; try with_reducible rfl
     try simp only [Act.put, ny1, ny2, ny3, ny4, ny5, ny6]
     refine wpAnyH_ready (rs := [2]) (by kernel_rfl) (by simp) ?_
     refine AllReadyH.cons rfl (fun K hK => ?_) AllReadyH.nil
     go_simp
     refine (HS2.out _ (HR6.out.below (HDV.out.trans (D_q101.out.mono HDV.out.size)))).mono ?_
     rintro e wq102 ⟨p2, n2, c2, rfl, hr2, hbc⟩
     have D_q102 := lhd (D_q101.out.trans (hbc.mono D_q101.out.size))
     have A_q102 := lhd (hr2)
     dsimp only
     clear hr2
     refine hK.out _ _ (HSD.out _ D_q102.out) (fun _ => ?_)
     clear hK K hbc
     try simp only [Act.put, ny1, ny2, ny3, ny4, ny5, ny6]
     refine wpAnyH_ready (rs := [8]) (by kernel_rfl) (by simp) ?_
     refine AllReadyH.cons rfl (fun K hK => ?_) AllReadyH.nil
     go_simp
     refine (HS4.out _ (HY6.out _ (HDV.out.trans (D_q102.out.mono HDV.out.size)))).mono ?_
     rintro e wq103 ⟨p3, n3, c3, rfl, hr3, hbc⟩
     have D_q103 := lhd (D_q102.out.trans (hbc.mono D_q102.out.size))
     have A_q103 := lhd (A_q102.out.below hbc)
     have B_q103 := lhd (hr3)
     dsimp only
     clear hr3
     refine hK.out _ _ (HSD.out _ D_q103.out) (fun _ => ?_)
     clear hK K hbc
     try simp only [Act.put, ny1, ny2, ny3, ny4, ny5, ny6]
     refine wpAnyH_ready (rs := [9]) (by kernel_rfl) (by simp) ?_
     refine AllReadyH.cons rfl (fun K hK => ?_) AllReadyH.nil
     go_simp
     refine (HSu.out _ _ _ _ _ _ _ A_q103.out B_q103.out).mono ?_
     rintro e wq104 ⟨p4, n4, c4, rfl, hr4, hbc⟩
     have D_q104 := lhd (D_q103.out.trans (hbc.mono D_q103.out.size))
     have A_q104 := lhd (A_q103.out.below hbc)
     have B_q104 := lhd (B_q103.out.below hbc)
     have N_q104 := lhd (hr4)
     dsimp only
     clear hr4
     refine hK.out _ _ (HSD.out _ D_q104.out) (fun _ => ?_)
     clear hK K hbc
     refine wpAnyH_take (i := 10) (v := ?_) rfl (by kernel_rfl) (by kernel_rfl) (by kernel_rfl) (fun _ _ _ h => h) (Or.inl ⟨by rfl, ?_⟩) (HSD.out _ D_q104.out) ?_
     rotate_left 1
     next => intro w hSw; rw [hSe] at hSw; obtain ⟨s1, s2, s3, s4⟩ := hSw; go_simp; try with_reducible rfl
     try simp only [Act.put, ny1, ny2, ny3, ny4, ny5, ny6]
     refine wpAnyH_done (by kernel_rfl) ?_ _
     go_wp2_with fail
     go_roundw
     case rel => exact ⟨j + 1, _, _, _, _, _, _, by omega, rfl, rfl, by rw [show (k : Int) - 1 = (n1 : Int) - 1 - ((j + 1 : Nat) : Int) by have := Hkj.out; omega], lhd (by rw [HQe2.out]; exact HN9.out.below D_q104.out), lhd (by rw [HRe2.out]; exact N_q104.out), lhd (HC6.out.below (HDV.out.trans (D_q104.out.mono HDV.out.size)) HC6.out.2.2.2.2), lhd (HB6.out.trans ((HDV.out.trans (D_q104.out.mono HDV.out.size)).mono HB6.out.size))⟩
     case measure => simp [intOf] <;> omega
    ·go_simp
     refine (HOf.out _).mono ?_
     rintro e wq7 ⟨rfl, hbc⟩
     have D_q7 := lhd (D_q2.out.trans (hbc.mono D_q2.out.size))
     have A_q7 := lhd (A_q2.out.below hbc)
     dsimp only
     refine hK.out _ _ (HSD.out _ D_q7.out) (fun _ => ?_)
     clear hK K hbc
     try simp only [Act.put, ny1, ny2, ny3, ny4, ny5, ny6]
     refine wpAnyH_ready (rs := [4]) (by kernel_rfl) (by simp) ?_
     refine AllReadyH.cons rfl (fun K hK => ?_) AllReadyH.nil
     go_simp
     have hbc := (Below.refl (wq7).heap.size (wq7)).alloc (Nat.le_refl _) (.cells #[.bool ZT.neg, .string ZT.mag] 24)
     have hgo := GR.one (BoxAt.new (wq7) (.bool ZT.neg) (.string ZT.mag) 24)
     have D_q8 := lhd (D_q7.out.trans (hbc.mono D_q7.out.size))
     have A_q8 := lhd (A_q7.out.below hbc)
     have G_q8 := lhd hgo
     refine hK.out _ _ (HSD.out _ D_q8.out) (fun _ => ?_)
     clear hK K hbc hgo
     obtain ⟨gG, hgG⟩ : ∃ k, (wq7).heap.size = k := ⟨_, rfl⟩
     rw [hgG] at G_q8 ⊢
     clear hgG
     generalize (wq7).alloc (.cells #[.bool ZT.neg, .string ZT.mag] 24) = wq8 at *
     try simp only [Act.put, ny1, ny2, ny3, ny4, ny5, ny6]
     refine wpAnyH_ready (rs := [9]) (by kernel_rfl) (by simp) ?_
     refine AllReadyH.cons rfl (fun K hK => ?_) AllReadyH.nil
     go_simp
     refine (HS3.out _ _ _ G_q8.out).mono ?_
     rintro e wq9 ⟨p3, n3, c3, rfl, hr3, hbc⟩
     have D_q9 := lhd (D_q8.out.trans (hbc.mono D_q8.out.size))
     have A_q9 := lhd (A_q8.out.below hbc)
     have G_q9 := lhd (G_q8.out.below hbc)
     have B_q9 := lhd (hr3)
     dsimp only
     clear hr3
     refine hK.out _ _ (HSD.out _ D_q9.out) (fun _ => ?_)
     clear hK K hbc
     try simp only [Act.put, ny1, ny2, ny3, ny4, ny5, ny6]
     refine wpAnyH_ready (rs := [10]) (by kernel_rfl) (by simp) ?_
     refine AllReadyH.cons rfl (fun K hK => ?_) AllReadyH.nil
     go_simp
     refine (HAd.out _ _ _ _ _ _ _ A_q9.out B_q9.out).mono ?_
     rintro e wq10 ⟨p4, n4, c4, rfl, hr4, hbc⟩
     have D_q10 := lhd (D_q9.out.trans (hbc.mono D_q9.out.size))
     have A_q10 := lhd (A_q9.out.below hbc)
     have G_q10 := lhd (G_q9.out.below hbc)
     have B_q10 := lhd (B_q9.out.below hbc)
     have N_q10 := lhd (hr4)
     dsimp only
     clear hr4
     refine hK.out _ _ (HSD.out _ D_q10.out) (fun _ => ?_)
     clear hK K hbc
     refine wpAnyH_take (i := 11) (v := ?_) rfl (by kernel_rfl) (by kernel_rfl) (by kernel_rfl) (fun _ _ _ h => h) (Or.inl ⟨by rfl, ?_⟩) (HSD.out _ D_q10.out) ?_
     rotate_left 1
     next => intro w hSw; rw [hSe] at hSw; obtain ⟨s1, s2, s3, s4⟩ := hSw; go_simp; try with_reducible rfl
     try simp only [Act.put, ny1, ny2, ny3, ny4, ny5, ny6]
     refine wpAnyH_done (by kernel_rfl) ?_ _
     have HN9 := N_q10
     have HDV := D_q10
     clear HSD HD0 hSe
     go_upto_region 9 with (fail)
     obtain ⟨SS, hSe⟩ : ∃ SS : World → Prop, SS = fun W => W.cell? ⟨gb, 0, none⟩ = some (.bool ZC.neg) ∧ W.cell? ⟨gb, 1, none⟩ = some (.string ZC.mag) ∧ W.cell? ⟨gt, 0, none⟩ = some (.bool ZT.neg) ∧ W.cell? ⟨gt, 1, none⟩ = some (.string ZT.mag) := ⟨_, rfl⟩
     have HSD : Hid (∀ W, Below wq10.heap.size wq10 W → SS W) := lhd (fun W hW => by
      obtain ⟨c0, c1, _, _, _⟩ := HC6.out
      obtain ⟨d0, d1, _, _, _⟩ := HT6.out
      have hWV := HDV.out.trans (hW.mono HDV.out.size)
      rw [hSe]; exact ⟨cell_below hWV c0, cell_below hWV c1, cell_below hWV d0, cell_below hWV d1⟩)
     have HD0 := lhd (Below.refl wq10.heap.size wq10)
     refine wp_region_held_drew (S := SS) (by kernel_rfl) (HSD.out _ HD0.out.drew) (fun _ => ?_)
     have D_q101 := lhd (HD0.out.drew)
     refine wpAnyH_take (i := 0) (v := ?_) rfl (by kernel_rfl) (by kernel_rfl) (by kernel_rfl) (fun _ _ _ h => h) (Or.inl ⟨by rfl, ?_⟩) (HSD.out _ D_q101.out) ?_
     rotate_left 1
     next => intro w hSw; rw [hSe] at hSw; obtain ⟨s1, s2, s3, s4⟩ := hSw; go_simp; try with_reducible rfl
     try simp only [Act.put, ny1, ny2, ny3, ny4, ny5, ny6]
     refine wpAnyH_take (i := 1) (v := ?_) rfl (by kernel_rfl) (by kernel_rfl) (by kernel_rfl) (fun _ _ _ h => h) (Or.inl ⟨by rfl, ?_⟩) (HSD.out _ D_q101.out) ?_
     rotate_left 1
     next => intro w hSw; rw [hSe] at hSw; obtain ⟨s1, s2, s3, s4⟩ := hSw; go_simp; try with_reducible rfl
     try simp only [Act.put, ny1, ny2, ny3, ny4, ny5, ny6]
     refine wpAnyH_take (i := 3) (v := ?_) rfl (by kernel_rfl) (by kernel_rfl) (by kernel_rfl) (fun _ _ _ h => h) (Or.inl ⟨by rfl, ?_⟩) (HSD.out _ D_q101.out) ?_
     rotate_left 1
     next => intro w hSw; rw [hSe] at hSw; obtain ⟨s1, s2, s3, s4⟩ := hSw; go_simp; try with_reducible rfl
     try simp only [Act.put, ny1, ny2, ny3, ny4, ny5, ny6]
     refine wpAnyH_take (i := 4) (v := ?_) rfl (by kernel_rfl) (by kernel_rfl) (by kernel_rfl) (fun _ _ _ h => h) (Or.inl ⟨by rfl, ?_⟩) (HSD.out _ D_q101.out) ?_
     rotate_left 1
     next => intro w hSw; rw [hSe] at hSw; obtain ⟨s1, s2, s3, s4⟩ := hSw; go_simp; try with_reducible rfl
     try simp only [Act.put, ny1, ny2, ny3, ny4, ny5, ny6]
     refine wpAnyH_take (i := 5) (v := ?_) rfl (by kernel_rfl) (by kernel_rfl) (by kernel_rfl) (fun _ _ _ h => h) (Or.inl ⟨by rfl, ?_⟩) (HSD.out _ D_q101.out) ?_
     rotate_left 1
     next => intro w hSw; rw [hSe] at hSw; obtain ⟨s1, s2, s3, s4⟩ := hSw; go_simp; try with_reducible rfl
     try simp only [Act.put, ny1, ny2, ny3, ny4, ny5, ny6]
     refine wpAnyH_take (i := 6) (v := ?_) rfl (by kernel_rfl) (by kernel_rfl) (by kernel_rfl) (fun _ _ _ h => h) (Or.inl ⟨by rfl, ?_⟩) (HSD.out _ D_q101.out) ?_
     rotate_left 1
     next => intro w hSw; rw [hSe] at hSw; obtain ⟨s1, s2, s3, s4⟩ := hSw; go_simp; try with_reducible rfl
     try simp only [Act.put, ny1, ny2, ny3, ny4, ny5, ny6]
     refine wpAnyH_take (i := 7) (v := ?_) rfl (by kernel_rfl) (by kernel_rfl) (by kernel_rfl) (fun _ _ _ h => h) (Or.inl ⟨by rfl, ?_⟩) (HSD.out _ D_q101.out) ?_
     rotate_left 1
     next => intro w hSw; rw [hSe] at hSw; obtain ⟨s1, s2, s3, s4⟩ := hSw; go_simp; try with_reducible rfl
     try simp only [Act.put, ny1, ny2, ny3, ny4, ny5, ny6]
     refine wpAnyH_ready (rs := [2]) (by kernel_rfl) (by simp) ?_
     refine AllReadyH.cons rfl (fun K hK => ?_) AllReadyH.nil
     go_simp
     refine (HS2.out _ (HR6.out.below (HDV.out.trans (D_q101.out.mono HDV.out.size)))).mono ?_
     rintro e wq102 ⟨p2, n2, c2, rfl, hr2, hbc⟩
     have D_q102 := lhd (D_q101.out.trans (hbc.mono D_q101.out.size))
     have A_q102 := lhd (hr2)
     dsimp only
     clear hr2
     refine hK.out _ _ (HSD.out _ D_q102.out) (fun _ => ?_)
     clear hK K hbc
     try simp only [Act.put, ny1, ny2, ny3, ny4, ny5, ny6]
     refine wpAnyH_ready (rs := [8]) (by kernel_rfl) (by simp) ?_
     refine AllReadyH.cons rfl (fun K hK => ?_) AllReadyH.nil
     go_simp
     refine (HS4.out _ (HY6.out _ (HDV.out.trans (D_q102.out.mono HDV.out.size)))).mono ?_
     rintro e wq103 ⟨p3, n3, c3, rfl, hr3, hbc⟩
     have D_q103 := lhd (D_q102.out.trans (hbc.mono D_q102.out.size))
     have A_q103 := lhd (A_q102.out.below hbc)
     have B_q103 := lhd (hr3)
     dsimp only
     clear hr3
     refine hK.out _ _ (HSD.out _ D_q103.out) (fun _ => ?_)
     clear hK K hbc
     try simp only [Act.put, ny1, ny2, ny3, ny4, ny5, ny6]
     refine wpAnyH_ready (rs := [9]) (by kernel_rfl) (by simp) ?_
     refine AllReadyH.cons rfl (fun K hK => ?_) AllReadyH.nil
     go_simp
     refine (HSu.out _ _ _ _ _ _ _ A_q103.out B_q103.out).mono ?_
     rintro e wq104 ⟨p4, n4, c4, rfl, hr4, hbc⟩
     have D_q104 := lhd (D_q103.out.trans (hbc.mono D_q103.out.size))
     have A_q104 := lhd (A_q103.out.below hbc)
     have B_q104 := lhd (B_q103.out.below hbc)
     have N_q104 := lhd (hr4)
     dsimp only
     clear hr4
     refine hK.out _ _ (HSD.out _ D_q104.out) (fun _ => ?_)
     clear hK K hbc
     refine wpAnyH_take (i := 10) (v := ?_) rfl (by kernel_rfl) (by kernel_rfl) (by kernel_rfl) (fun _ _ _ h => h) (Or.inl ⟨by rfl, ?_⟩) (HSD.out _ D_q104.out) ?_
     rotate_left 1
     next => intro w hSw; rw [hSe] at hSw; obtain ⟨s1, s2, s3, s4⟩ := hSw; go_simp; try with_reducible rfl
     try simp only [Act.put, ny1, ny2, ny3, ny4, ny5, ny6]
     refine wpAnyH_done (by kernel_rfl) ?_ _
     go_wp2_with fail
     go_roundw
     case rel => exact ⟨j + 1, _, _, _, _, _, _, by omega, rfl, rfl, by rw [show (k : Int) - 1 = (n1 : Int) - 1 - ((j + 1 : Nat) : Int) by have := Hkj.out; omega], lhd (by rw [HQe2.out]; exact HN9.out.below D_q104.out), lhd (by rw [HRe2.out]; exact N_q104.out), lhd (HC6.out.below (HDV.out.trans (D_q104.out.mono HDV.out.size)) HC6.out.2.2.2.2), lhd (HB6.out.trans ((HDV.out.trans (D_q104.out.mono HDV.out.size)).mono HB6.out.size))⟩
     case measure => simp [intOf] <;> omega
   ·go_simp
    have hbc := (Below.refl (VD).heap.size (VD)).alloc (Nat.le_refl _) (.cells #[.bool ZT.neg, .string ZT.mag] 24)
    have hgo := GR.one (BoxAt.new (VD) (.bool ZT.neg) (.string ZT.mag) 24)
    have D_q11 := lhd (D_q1.out.trans (hbc.mono D_q1.out.size))
    have G_q11 := lhd hgo
    refine hK.out _ _ (HSD.out _ D_q11.out) (fun _ => ?_)
    clear hK K hbc hgo
    obtain ⟨gG, hgG⟩ : ∃ k, (VD).heap.size = k := ⟨_, rfl⟩
    rw [hgG] at G_q11 ⊢
    clear hgG
    generalize (VD).alloc (.cells #[.bool ZT.neg, .string ZT.mag] 24) = wq11 at *
    try simp only [Act.put, ny1, ny2, ny3, ny4, ny5, ny6]
    refine wpAnyH_ready (rs := [2]) (by kernel_rfl) (by simp) ?_
    refine AllReadyH.cons rfl (fun K hK => ?_) AllReadyH.nil
    go_simp
    refine (HS1.out _ (HQ6.out.below D_q11.out)).mono ?_
    rintro e wq12 ⟨p2, n2, c2, rfl, hr2, hbc⟩
    have D_q12 := lhd (D_q11.out.trans (hbc.mono D_q11.out.size))
    have G_q12 := lhd (G_q11.out.below hbc)
    have A_q12 := lhd (hr2)
    dsimp only
    clear hr2
    refine hK.out _ _ (HSD.out _ D_q12.out) (fun _ => ?_)
    clear hK K hbc
    try simp only [Act.put, ny1, ny2, ny3, ny4, ny5, ny6]
    refine wpAnyH_ready (rs := [5]) (by kernel_rfl) (by simp) ?_
    refine AllReadyH.cons rfl (fun K hK => ?_) AllReadyH.nil
    go_simp
    refine (HOf.out _).mono ?_
    rintro e wq13 ⟨rfl, hbc⟩
    have D_q13 := lhd (D_q12.out.trans (hbc.mono D_q12.out.size))
    have G_q13 := lhd (G_q12.out.below hbc)
    have A_q13 := lhd (A_q12.out.below hbc)
    dsimp only
    refine hK.out _ _ (HSD.out _ D_q13.out) (fun _ => ?_)
    clear hK K hbc
    try simp only [Act.put, ny1, ny2, ny3, ny4, ny5, ny6]
    refine wpAnyH_ready (rs := [9]) (by kernel_rfl) (by simp) ?_
    refine AllReadyH.cons rfl (fun K hK => ?_) AllReadyH.nil
    go_simp
    refine (HS3.out _ _ _ G_q13.out).mono ?_
    rintro e wq14 ⟨p3, n3, c3, rfl, hr3, hbc⟩
    have D_q14 := lhd (D_q13.out.trans (hbc.mono D_q13.out.size))
    have G_q14 := lhd (G_q13.out.below hbc)
    have A_q14 := lhd (A_q13.out.below hbc)
    have B_q14 := lhd (hr3)
    dsimp only
    clear hr3
    refine hK.out _ _ (HSD.out _ D_q14.out) (fun _ => ?_)
    clear hK K hbc
    try simp only [Act.put, ny1, ny2, ny3, ny4, ny5, ny6]
    refine wpAnyH_ready (rs := [10]) (by kernel_rfl) (by simp) ?_
    refine AllReadyH.cons rfl (fun K hK => ?_) AllReadyH.nil
    go_simp
    refine (HAd.out _ _ _ _ _ _ _ A_q14.out B_q14.out).mono ?_
    rintro e wq15 ⟨p4, n4, c4, rfl, hr4, hbc⟩
    have D_q15 := lhd (D_q14.out.trans (hbc.mono D_q14.out.size))
    have G_q15 := lhd (G_q14.out.below hbc)
    have A_q15 := lhd (A_q14.out.below hbc)
    have B_q15 := lhd (B_q14.out.below hbc)
    have N_q15 := lhd (hr4)
    dsimp only
    clear hr4
    refine hK.out _ _ (HSD.out _ D_q15.out) (fun _ => ?_)
    clear hK K hbc
    refine wpAnyH_take (i := 11) (v := ?_) rfl (by kernel_rfl) (by kernel_rfl) (by kernel_rfl) (fun _ _ _ h => h) (Or.inl ⟨by rfl, ?_⟩) (HSD.out _ D_q15.out) ?_
    rotate_left 1
    next => intro w hSw; rw [hSe] at hSw; obtain ⟨s1, s2, s3, s4⟩ := hSw; go_simp; try with_reducible rfl
    try simp only [Act.put, ny1, ny2, ny3, ny4, ny5, ny6]
    refine wpAnyH_done (by kernel_rfl) ?_ _
    have HN9 := N_q15
    have HDV := D_q15
    clear HSD HD0 hSe
    go_upto_region 9 with (fail)
    obtain ⟨SS, hSe⟩ : ∃ SS : World → Prop, SS = fun W => W.cell? ⟨gb, 0, none⟩ = some (.bool ZC.neg) ∧ W.cell? ⟨gb, 1, none⟩ = some (.string ZC.mag) ∧ W.cell? ⟨gt, 0, none⟩ = some (.bool ZT.neg) ∧ W.cell? ⟨gt, 1, none⟩ = some (.string ZT.mag) := ⟨_, rfl⟩
    have HSD : Hid (∀ W, Below wq15.heap.size wq15 W → SS W) := lhd (fun W hW => by
     obtain ⟨c0, c1, _, _, _⟩ := HC6.out
     obtain ⟨d0, d1, _, _, _⟩ := HT6.out
     have hWV := HDV.out.trans (hW.mono HDV.out.size)
     rw [hSe]; exact ⟨cell_below hWV c0, cell_below hWV c1, cell_below hWV d0, cell_below hWV d1⟩)
    have HD0 := lhd (Below.refl wq15.heap.size wq15)
    refine wp_region_held_drew (S := SS) (by kernel_rfl) (HSD.out _ HD0.out.drew) (fun _ => ?_)
    have D_q101 := lhd (HD0.out.drew)
    refine wpAnyH_take (i := 0) (v := ?_) rfl (by kernel_rfl) (by kernel_rfl) (by kernel_rfl) (fun _ _ _ h => h) (Or.inl ⟨by rfl, ?_⟩) (HSD.out _ D_q101.out) ?_
    rotate_left 1
    next => intro w hSw; rw [hSe] at hSw; obtain ⟨s1, s2, s3, s4⟩ := hSw; go_simp; try with_reducible rfl
    try simp only [Act.put, ny1, ny2, ny3, ny4, ny5, ny6]
    refine wpAnyH_take (i := 1) (v := ?_) rfl (by kernel_rfl) (by kernel_rfl) (by kernel_rfl) (fun _ _ _ h => h) (Or.inl ⟨by rfl, ?_⟩) (HSD.out _ D_q101.out) ?_
    rotate_left 1
    next => intro w hSw; rw [hSe] at hSw; obtain ⟨s1, s2, s3, s4⟩ := hSw; go_simp; try with_reducible rfl
    try simp only [Act.put, ny1, ny2, ny3, ny4, ny5, ny6]
    refine wpAnyH_take (i := 3) (v := ?_) rfl (by kernel_rfl) (by kernel_rfl) (by kernel_rfl) (fun _ _ _ h => h) (Or.inl ⟨by rfl, ?_⟩) (HSD.out _ D_q101.out) ?_
    rotate_left 1
    next => intro w hSw; rw [hSe] at hSw; obtain ⟨s1, s2, s3, s4⟩ := hSw; go_simp; try with_reducible rfl
    try simp only [Act.put, ny1, ny2, ny3, ny4, ny5, ny6]
    refine wpAnyH_take (i := 4) (v := ?_) rfl (by kernel_rfl) (by kernel_rfl) (by kernel_rfl) (fun _ _ _ h => h) (Or.inl ⟨by rfl, ?_⟩) (HSD.out _ D_q101.out) ?_
    rotate_left 1
    next => intro w hSw; rw [hSe] at hSw; obtain ⟨s1, s2, s3, s4⟩ := hSw; go_simp; try with_reducible rfl
    try simp only [Act.put, ny1, ny2, ny3, ny4, ny5, ny6]
    refine wpAnyH_take (i := 5) (v := ?_) rfl (by kernel_rfl) (by kernel_rfl) (by kernel_rfl) (fun _ _ _ h => h) (Or.inl ⟨by rfl, ?_⟩) (HSD.out _ D_q101.out) ?_
    rotate_left 1
    next => intro w hSw; rw [hSe] at hSw; obtain ⟨s1, s2, s3, s4⟩ := hSw; go_simp; try with_reducible rfl
    try simp only [Act.put, ny1, ny2, ny3, ny4, ny5, ny6]
    refine wpAnyH_take (i := 6) (v := ?_) rfl (by kernel_rfl) (by kernel_rfl) (by kernel_rfl) (fun _ _ _ h => h) (Or.inl ⟨by rfl, ?_⟩) (HSD.out _ D_q101.out) ?_
    rotate_left 1
    next => intro w hSw; rw [hSe] at hSw; obtain ⟨s1, s2, s3, s4⟩ := hSw; go_simp; try with_reducible rfl
    try simp only [Act.put, ny1, ny2, ny3, ny4, ny5, ny6]
    refine wpAnyH_take (i := 7) (v := ?_) rfl (by kernel_rfl) (by kernel_rfl) (by kernel_rfl) (fun _ _ _ h => h) (Or.inl ⟨by rfl, ?_⟩) (HSD.out _ D_q101.out) ?_
    rotate_left 1
    next => intro w hSw; rw [hSe] at hSw; obtain ⟨s1, s2, s3, s4⟩ := hSw; go_simp; try with_reducible rfl
    try simp only [Act.put, ny1, ny2, ny3, ny4, ny5, ny6]
    refine wpAnyH_ready (rs := [2]) (by kernel_rfl) (by simp) ?_
    refine AllReadyH.cons rfl (fun K hK => ?_) AllReadyH.nil
    go_simp
    refine (HS2.out _ (HR6.out.below (HDV.out.trans (D_q101.out.mono HDV.out.size)))).mono ?_
    rintro e wq102 ⟨p2, n2, c2, rfl, hr2, hbc⟩
    have D_q102 := lhd (D_q101.out.trans (hbc.mono D_q101.out.size))
    have A_q102 := lhd (hr2)
    dsimp only
    clear hr2
    refine hK.out _ _ (HSD.out _ D_q102.out) (fun _ => ?_)
    clear hK K hbc
    try simp only [Act.put, ny1, ny2, ny3, ny4, ny5, ny6]
    refine wpAnyH_ready (rs := [8]) (by kernel_rfl) (by simp) ?_
    refine AllReadyH.cons rfl (fun K hK => ?_) AllReadyH.nil
    go_simp
    refine (HS4.out _ (HY6.out _ (HDV.out.trans (D_q102.out.mono HDV.out.size)))).mono ?_
    rintro e wq103 ⟨p3, n3, c3, rfl, hr3, hbc⟩
    have D_q103 := lhd (D_q102.out.trans (hbc.mono D_q102.out.size))
    have A_q103 := lhd (A_q102.out.below hbc)
    have B_q103 := lhd (hr3)
    dsimp only
    clear hr3
    refine hK.out _ _ (HSD.out _ D_q103.out) (fun _ => ?_)
    clear hK K hbc
    try simp only [Act.put, ny1, ny2, ny3, ny4, ny5, ny6]
    refine wpAnyH_ready (rs := [9]) (by kernel_rfl) (by simp) ?_
    refine AllReadyH.cons rfl (fun K hK => ?_) AllReadyH.nil
    go_simp
    refine (HSu.out _ _ _ _ _ _ _ A_q103.out B_q103.out).mono ?_
    rintro e wq104 ⟨p4, n4, c4, rfl, hr4, hbc⟩
    have D_q104 := lhd (D_q103.out.trans (hbc.mono D_q103.out.size))
    have A_q104 := lhd (A_q103.out.below hbc)
    have B_q104 := lhd (B_q103.out.below hbc)
    have N_q104 := lhd (hr4)
    dsimp only
    clear hr4
    refine hK.out _ _ (HSD.out _ D_q104.out) (fun _ => ?_)
    clear hK K hbc
    refine wpAnyH_take (i := 10) (v := ?_) rfl (by kernel_rfl) (by kernel_rfl) (by kernel_rfl) (fun _ _ _ h => h) (Or.inl ⟨by rfl, ?_⟩) (HSD.out _ D_q104.out) ?_
    rotate_left 1
    next => intro w hSw; rw [hSe] at hSw; obtain ⟨s1, s2, s3, s4⟩ := hSw; go_simp; try with_reducible rfl
    try simp only [Act.put, ny1, ny2, ny3, ny4, ny5, ny6]
    refine wpAnyH_done (by kernel_rfl) ?_ _
    go_wp2_with fail
    go_roundw
    case rel => exact ⟨j + 1, _, _, _, _, _, _, by omega, rfl, rfl, by rw [show (k : Int) - 1 = (n1 : Int) - 1 - ((j + 1 : Nat) : Int) by have := Hkj.out; omega], lhd (by rw [HQe2.out]; exact HN9.out.below D_q104.out), lhd (by rw [HRe2.out]; exact N_q104.out), lhd (HC6.out.below (HDV.out.trans (D_q104.out.mono HDV.out.size)) HC6.out.2.2.2.2), lhd (HB6.out.trans ((HDV.out.trans (D_q104.out.mono HDV.out.size)).mono HB6.out.size))⟩
    case measure => simp [intOf] <;> omega
  ·have hkM : ¬ (n1 : Int) - 1 - (j : Int) ≥ (M : Int) := by have := HJ.out; have := HM.out; omega
   obtain rfl : j = J := by omega
   go_wp2_with fail
   go_ret2
   exact ⟨_, _, _, _, _, _, rfl, HQ.out, HR.out, HB.out⟩
end Go.Proofs.YtmbamcpndbimaaaGreatDoor
