/- grooveref03.Times: the walk. -/
import Derived.Test.YtmbamcpndbimaaaDoorA33
namespace Go.Proofs.YtmbamcpndbimaaaDoor
open Go.RowKit Go.Shelf
set_option maxRecDepth 100000 in
set_option maxHeartbeats 16000000 in
theorem refTimes_any (n m : Nat) (Z Y : Nat → ZI) (p q : Option Addr) (c d : Nat) {e e' : Nat} (hn : n ≤ 1000) (hm : m ≤ 1000) (he : e ≤ 10000000) (he' : e' ≤ 10000000) (hz : ∀ k, k < n → (Z k).mag.size < 10000000) (hy : ∀ k, k < m → (Y k).mag.size < 10000000) (hf : ∀ k, Bn (valZ (Z k)) e) (hg : ∀ k, Bn (valZ (Y k)) e') (w : World) (hX : GRow w p n Z) (hY : GRow w q m Y)
    (f g : Nat → Int) (hfe : (fun k => valZ (Z k)) = f) (hge : (fun k => valZ (Y k)) = g) (n1 m1 : Nat) (hne : dgN f n = n1) (hme : dgN g m = m1) :
    Calls Tryd.prog 22 #[.slice p n c, .slice q m d] w (RetPol (if n1 = 0 ∨ m1 = 0 then 0 else dgN (mR f g m1 n1) (n1 + m1 - 1)) (mR f g m1 n1) w) := by
  have hd1 := refDeg3_any n Z p c (by omega) (fun k hk => Nat.le_of_lt (Nat.lt_of_lt_of_le (hz k hk) (by decide))) w hX
  have hd2 := fun W (hW : Below w.heap.size w W) => refDeg3_any m Y q d (by omega) (fun k hk => Nat.le_of_lt (Nat.lt_of_lt_of_le (hy k hk) (by decide))) W (SlAt.mono hY (Nat.le_refl _) hW)
  have hf' : ∀ k, Bn (f k) e := fun k => by rw [← hfe]; exact hf k
  have hg' : ∀ k, Bn (g k) e' := fun k => by rw [← hge]; exact hg k
  have hn1 : n1 ≤ n := by rw [← hne]; exact dgN_le f n
  have hm1 : m1 ≤ m := by rw [← hme]; exact dgN_le g m
  rw [hfe, hne] at hd1
  rw [hge, hme] at hd2
  obtain ⟨ML, hML⟩ : ∃ k, (if n1 = 0 ∨ m1 = 0 then 0 else dgN (mR f g m1 n1) (n1 + m1 - 1)) = k := ⟨_, rfl⟩
  rw [hML]
  have HML := Lib.hid hML
  have HC1 := Lib.hid hd1
  have HC2 := Lib.hid hd2
  have Hf := Lib.hid hf'
  have Hg := Lib.hid hg'
  have HM := Lib.hid (fun i k (hi : i < n) (hk : k < m) W => refMulZ_any (Z i) (Y k) (by have := hz i hi; omega) (by have := hy k hk; omega) (f i) (g k) (by rw [← hfe]) (by rw [← hge]) (by have := hz i hi; have := hy k hk; omega) W)
  have HX := Lib.hid hX
  have HY := Lib.hid hY
  clear hd1 hd2 hX hY hz hy hf hg hf' hg' hfe hge hne hme hML
  go_enter Tryd.func22, Tryd.ntmps22
  go_wp2_with fail
  refine HC1.out.mono ?_
  rintro e1 w1 ⟨rfl, hb1⟩
  dsimp only
  have HC := Lib.hid (HC2.out w1 hb1)
  have Hb1 := Lib.hid hb1
  clear hb1 HC1 HC2
  go_wp2_with fail
  refine HC.out.mono ?_
  rintro e2 w2 ⟨rfl, hb2⟩
  dsimp only
  have Hb2 := Lib.hid (Hb1.out.trans (hb2.mono Hb1.out.size))
  clear hb2 HC Hb1
  by_cases hn0 : n1 = 0
  · have b0 : (n1 : Int) - 1 < 0 := by omega
    have hl2 : ML = 0 := by rw [← HML.out]; exact if_pos (.inl hn0)
    have Hl2 := Lib.hid hl2
    clear hl2
    go_wp2_with fail
    go_ret
    exact ⟨_, _, by rw [Hl2.out]; rfl, by rw [Hl2.out]; exact .inl rfl, Hb2.out.alloc Hb2.out.size _⟩
  have b0 : ¬ (n1 : Int) - 1 < 0 := by omega
  by_cases hm0 : m1 = 0
  · have b1 : (m1 : Int) - 1 < 0 := by omega
    have hl2 : ML = 0 := by rw [← HML.out]; exact if_pos (.inr hm0)
    have Hl2 := Lib.hid hl2
    clear hl2
    go_wp2_with fail
    go_ret
    exact ⟨_, _, by rw [Hl2.out]; rfl, by rw [Hl2.out]; exact .inl rfl, Hb2.out.alloc Hb2.out.size _⟩
  have b1 : ¬ (m1 : Int) - 1 < 0 := by omega
  have hor : ¬ (n1 = 0 ∨ m1 = 0) := by omega
  obtain ⟨N, hN⟩ : ∃ N, n1 + m1 - 1 = N := ⟨_, rfl⟩
  have hl2 : ML = dgN (mR f g m1 n1) N := by rw [← HML.out, if_neg hor, hN]
  subst hl2
  have hN1 : (n1 : Int) - 1 + ((m1 : Int) - 1) + 1 = (N : Int) := by omega
  have hN6 : N ≤ 1000000 := by omega
  have hmk := make_zs N hN6
  have HNn := Lib.hid (show n1 + m1 = N + 1 by omega)
  clear hor hN
  go_wp2_with fail
  obtain ⟨go, hgo⟩ : ∃ g, w2.heap.size = g := ⟨_, rfl⟩
  have hz0 := made_zero w2 N 32
  have hal := (Below.refl w2.heap.size w2).alloc (Nat.le_refl _) (.cells (madeCells #[.bool false, .string ⟨#[]⟩] (N * 2)) 32)
  have Hgo := Lib.hid (show w.heap.size ≤ go by rw [← hgo]; exact Hb2.out.size)
  have HX2 := Lib.hid (SlAt.mono HX.out (Nat.le_refl _) Hb2.out)
  have HY2 := Lib.hid (SlAt.mono HY.out (Nat.le_refl _) Hb2.out)
  rw [hgo] at hz0 hal ⊢
  have H0 := Lib.hid hz0
  have B0 := Lib.hid hal
  have Hgo2 := Lib.hid hgo
  clear hz0 hal hgo hmk hN1 HX HY
  generalize w2.alloc (.cells (madeCells #[.bool false, .string ⟨#[]⟩] (N * 2)) 32) = W0 at *
  go_loopw [8] (fun iv wr => ∃ i : Nat, i ≤ n1 ∧ iv = .int .i64 (i : Nat) ∧ Hid (ZAt wr go N (mR f g m1 i)) ∧ Hid (Below go w2 wr)) (fun iv _ => n1 - (intOf iv).toNat)
  case atStart => exact ⟨0, by omega, by go_num, Lib.hid (H0.out.congr fun k _ => rfl), B0⟩
  case round =>
    clear H0 B0
    obtain ⟨i, hi, rfl, HO, HB⟩ := hrel
    by_cases hil : i < n1
    · have i0 : (0 : Int) ≤ (i : Int) := by omega
      have i1 : (i : Int) ≤ (n1 : Int) - 1 := by omega
      have i2 : (i : Int) < (n : Int) := by omega
      obtain ⟨pb, po, rfl, hpl, hpc⟩ := GRow.cells HX2.out (show i < n by omega)
      obtain ⟨a0, a1⟩ := hpc i (by omega)
      rw [Hgo2.out] at hpl
      have Ha := Lib.hid (And.intro a0 a1)
      have HMi := Lib.hid (fun k hk W => HM.out i k (by omega) hk W)
      clear hpc a0 a1
      go_wp2_with fail
      go_loopw [9] (fun kv wr => ∃ k : Nat, k ≤ m1 ∧ kv = .int .i64 (k : Nat) ∧ Hid (ZAt wr go N (mP f g m1 i k)) ∧ Hid (Below go w2 wr)) (fun kv _ => m1 - (intOf kv).toNat)
      case atStart => exact ⟨0, by omega, by go_num, Lib.hid (HO.out.congr fun k _ => (mP_zero f g m1 i k).symm), HB⟩
      case round =>
        clear HO HB
        obtain ⟨k, hk, rfl, HO, HB⟩ := hrel
        by_cases hkl : k < m1
        · have k0 : (0 : Int) ≤ (k : Int) := by omega
          have k1 : (k : Int) ≤ (m1 : Int) - 1 := by omega
          have k2 : (k : Int) < (m : Int) := by omega
          obtain ⟨qb, qo, rfl, hql, hqc⟩ := GRow.cells HY2.out (show k < m by omega)
          obtain ⟨b0', b1'⟩ := hqc k (by omega)
          rw [Hgo2.out] at hql
          have Hbc := Lib.hid (And.intro b0' b1')
          have hgl2 : go < wr.heap.size := HO.out.1
          have hMk := fun W => HMi.out k (by omega) W
          obtain ⟨s, hse⟩ : ∃ s, i + k = s := ⟨_, rfl⟩
          have ea : s < N := by have := HNn.out; omega
          have s1 : (i : Int) + (k : Int) = (s : Int) := by omega
          have s2 : (s : Int) < (N : Int) := by omega
          have s0 : (0 : Int) ≤ (s : Int) := by omega
          have s6 : s < 1000000 := by omega
          have s7 : IntKind.i64.wrap (s : Int) = (s : Int) := IntWalk.i64_in _ (by omega)
          obtain ⟨x, hx⟩ : ∃ x, mP f g m1 i k s = x := ⟨_, rfl⟩
          obtain ⟨y, hy⟩ : ∃ x, f i * g k = x := ⟨_, rfl⟩
          obtain ⟨z, hz⟩ : ∃ z, x + y = z := ⟨_, rfl⟩
          have hxb : Bn x (e + e' + 1000001) := by rw [← hx]; exact (mP_bn Hf.out Hg.out i k s).up (by omega)
          have hyb : Bn y (e + e') := by rw [← hy]; exact (Hf.out i).mul (Hg.out k)
          have HNX : Hid (∀ t, mP f g m1 i (k + 1) t = if t = s then z else mP f g m1 i k t) := Lib.hid (fun t => by rw [mP_step, hse, hx, hy, hz])
          have hP := fun W => refAddZ_any (canon x) (canon y) (Nat.lt_of_le_of_lt (hxb.size 90000000 (by omega)) (by decide)) (Nat.lt_of_le_of_lt (hyb.size 90000000 (by omega)) (by decide)) x y (valZ_canon _) (valZ_canon _) W
          obtain ⟨XX, hXX⟩ : ∃ Z, canon x = Z := ⟨_, rfl⟩
          obtain ⟨YY, hYY⟩ : ∃ Z, canon y = Z := ⟨_, rfl⟩
          obtain ⟨ZZ, hZZ⟩ : ∃ Z, canon z = Z := ⟨_, rfl⟩
          rw [hz, hXX, hYY, hZZ] at hP
          have HP := Lib.hid hP
          rw [hy, hYY] at hMk
          obtain ⟨CX, hCX⟩ : ∃ z, Z i = z := ⟨_, rfl⟩
          obtain ⟨CY, hCY⟩ : ∃ z, Y k = z := ⟨_, rfl⟩
          have Ha2 := Ha.out
          have Hb2' := Hbc.out
          rw [hCX] at hMk Ha2
          rw [hCY] at hMk Hb2'
          have HMk := Lib.hid hMk
          have HXe := Lib.hid hx
          have HXX1 := Lib.hid hXX
          have HZ1 := Lib.hid hZZ
          have hz2 := HO.out
          have hb2 := HB.out
          have HA3 := Lib.hid Ha2
          have HB3 := Lib.hid Hb2'
          clear hqc hMk hse hx hy hz hxb hyb hP hXX hYY hZZ hCX hCY Ha2 Hb2' b0' b1' Hbc
          go_upto_region 11 with (fail)
          have HXX : Hid (∀ W, Below wr.heap.size wr W → ZAt W go N (mP f g m1 i k) ∧ Below go w2 W) := Lib.hid (fun W hW => ⟨hz2.below hW hz2.1, hb2.trans (hW.mono (Nat.le_of_lt hz2.1))⟩)
          obtain ⟨SS, hSe⟩ : ∃ SS : World → Prop, SS = fun W => W.cell? ⟨pb, po + i * 2, none⟩ = some (.bool CX.neg) ∧ W.cell? ⟨pb, po + i * 2 + 1, none⟩ = some (.string CX.mag) ∧ W.cell? ⟨qb, qo + k * 2, none⟩ = some (.bool CY.neg) ∧ W.cell? ⟨qb, qo + k * 2 + 1, none⟩ = some (.string CY.mag) := ⟨_, rfl⟩
          have HS : Hid (∀ W, Below wr.heap.size wr W → SS W) := Lib.hid (fun W hW => by
            obtain ⟨c0, c1⟩ := HA3.out
            obtain ⟨d0, d1⟩ := HB3.out
            have hb := hb2.trans (hW.mono (Nat.le_of_lt hz2.1))
            rw [hSe]; exact ⟨(hb.cell (p := ⟨pb, po + i * 2, none⟩) hpl).trans c0, (hb.cell (p := ⟨pb, po + i * 2 + 1, none⟩) hpl).trans c1, (hb.cell (p := ⟨qb, qo + k * 2, none⟩) hql).trans d0, (hb.cell (p := ⟨qb, qo + k * 2 + 1, none⟩) hql).trans d1⟩)
          clear hz2 hb2 HO HB
          have hd : Below wr.heap.size wr wr.drew := (Below.refl _ _).drew
          refine wp_region_held_drew (S := SS) (by kernel_rfl) (HS.out _ hd) (fun hSS => ?_)
          refine wpAnyH_take (i := 0) (v := ?_) rfl (by kernel_rfl) (by kernel_rfl) (by kernel_rfl) (fun _ _ _ h => h) (Or.inl ⟨by rfl, ?_⟩) (HS.out _ hd) ?_
          rotate_left 1
          next => intro w hSw; rw [hSe] at hSw; obtain ⟨s1, s2, s3, s4⟩ := hSw; go_simp; try with_reducible rfl
          try simp only [Act.put, List.getElem_toArray, List.getElem_cons_zero, List.getElem_cons_succ, List.setIfInBounds_toArray, List.set_cons_zero, List.set_cons_succ]
          refine wpAnyH_take (i := 1) (v := ?_) rfl (by kernel_rfl) (by kernel_rfl) (by kernel_rfl) (fun _ _ _ h => h) (Or.inl ⟨by rfl, ?_⟩) (HS.out _ hd) ?_
          rotate_left 1
          next => intro w hSw; rw [hSe] at hSw; obtain ⟨s1, s2, s3, s4⟩ := hSw; go_simp; try with_reducible rfl
          try simp only [Act.put, List.getElem_toArray, List.getElem_cons_zero, List.getElem_cons_succ, List.setIfInBounds_toArray, List.set_cons_zero, List.set_cons_succ]
          refine wpAnyH_take (i := 2) (v := ?_) rfl (by kernel_rfl) (by kernel_rfl) (by kernel_rfl) (fun _ _ _ h => h) (Or.inl ⟨by rfl, ?_⟩) (HS.out _ hd) ?_
          rotate_left 1
          next => intro w hSw; rw [hSe] at hSw; obtain ⟨s1, s2, s3, s4⟩ := hSw; go_simp; try with_reducible rfl
          try simp only [Act.put, List.getElem_toArray, List.getElem_cons_zero, List.getElem_cons_succ, List.setIfInBounds_toArray, List.set_cons_zero, List.set_cons_succ]
          refine wpAnyH_take (i := 3) (v := ?_) rfl (by kernel_rfl) (by kernel_rfl) (by kernel_rfl) (fun _ _ _ h => h) (Or.inl ⟨by rfl, ?_⟩) (HS.out _ hd) ?_
          rotate_left 1
          next => intro w hSw; rw [hSe] at hSw; obtain ⟨s1, s2, s3, s4⟩ := hSw; go_simp; try with_reducible rfl
          try simp only [Act.put, List.getElem_toArray, List.getElem_cons_zero, List.getElem_cons_succ, List.setIfInBounds_toArray, List.set_cons_zero, List.set_cons_succ]
          refine wpAnyH_take (i := 4) (v := ?_) rfl (by kernel_rfl) (by kernel_rfl) (by kernel_rfl) (fun _ _ _ h => h) (Or.inl ⟨by rfl, ?_⟩) (HS.out _ hd) ?_
          rotate_left 1
          next => intro w hSw; rw [hSe] at hSw; obtain ⟨s1, s2, s3, s4⟩ := hSw; go_simp; try with_reducible rfl
          try simp only [Act.put, List.getElem_toArray, List.getElem_cons_zero, List.getElem_cons_succ, List.setIfInBounds_toArray, List.set_cons_zero, List.set_cons_succ]
          refine wpAnyH_take (i := 5) (v := ?_) rfl (by kernel_rfl) (by kernel_rfl) (by kernel_rfl) (fun _ _ _ h => h) (Or.inl ⟨by rfl, ?_⟩) (HS.out _ hd) ?_
          rotate_left 1
          next => intro w hSw; rw [hSe] at hSw; obtain ⟨s1, s2, s3, s4⟩ := hSw; go_simp; try with_reducible rfl
          try simp only [Act.put, List.getElem_toArray, List.getElem_cons_zero, List.getElem_cons_succ, List.setIfInBounds_toArray, List.set_cons_zero, List.set_cons_succ]
          refine wpAnyH_take (i := 6) (v := ?_) rfl (by kernel_rfl) (by kernel_rfl) (by kernel_rfl) (fun _ _ _ h => h) (Or.inl ⟨by rfl, ?_⟩) (HS.out _ hd) ?_
          rotate_left 1
          next => intro w hSw; rw [hSe] at hSw; obtain ⟨s1, s2, s3, s4⟩ := hSw; go_simp; try with_reducible rfl
          try simp only [Act.put, List.getElem_toArray, List.getElem_cons_zero, List.getElem_cons_succ, List.setIfInBounds_toArray, List.set_cons_zero, List.set_cons_succ]
          refine wpAnyH_take (i := 7) (v := ?_) rfl (by kernel_rfl) (by kernel_rfl) (by kernel_rfl) (fun _ _ _ h => h) (Or.inl ⟨by rfl, ?_⟩) (HS.out _ hd) ?_
          rotate_left 1
          next => intro w hSw; rw [hSe] at hSw; obtain ⟨s1, s2, s3, s4⟩ := hSw; go_simp; try with_reducible rfl
          try simp only [Act.put, List.getElem_toArray, List.getElem_cons_zero, List.getElem_cons_succ, List.setIfInBounds_toArray, List.set_cons_zero, List.set_cons_succ]
          refine wpAnyH_take (i := 8) (v := ?_) rfl (by kernel_rfl) (by kernel_rfl) (by kernel_rfl) (fun _ _ _ h => h) (Or.inl ⟨by rfl, ?_⟩) (HS.out _ hd) ?_
          rotate_left 1
          next => intro w hSw; rw [hSe] at hSw; obtain ⟨s1, s2, s3, s4⟩ := hSw; go_simp; try with_reducible rfl
          try simp only [Act.put, List.getElem_toArray, List.getElem_cons_zero, List.getElem_cons_succ, List.setIfInBounds_toArray, List.set_cons_zero, List.set_cons_succ]
          refine wpAnyH_take (i := 10) (v := ?_) rfl (by kernel_rfl) (by kernel_rfl) (by kernel_rfl) (fun _ _ _ h => h) (Or.inl ⟨by rfl, ?_⟩) (HS.out _ hd) ?_
          rotate_left 1
          next => intro w hSw; rw [hSe] at hSw; obtain ⟨s1, s2, s3, s4⟩ := hSw; go_simp; try with_reducible rfl
          try simp only [Act.put, List.getElem_toArray, List.getElem_cons_zero, List.getElem_cons_succ, List.setIfInBounds_toArray, List.set_cons_zero, List.set_cons_succ]
          refine wpAnyH_take (i := 11) (v := ?_) rfl (by kernel_rfl) (by kernel_rfl) (by kernel_rfl) (fun _ _ _ h => h) (Or.inl ⟨by rfl, ?_⟩) (HS.out _ hd) ?_
          rotate_left 1
          next => intro w hSw; rw [hSe] at hSw; obtain ⟨s1, s2, s3, s4⟩ := hSw; go_simp; try with_reducible rfl
          try simp only [Act.put, List.getElem_toArray, List.getElem_cons_zero, List.getElem_cons_succ, List.setIfInBounds_toArray, List.set_cons_zero, List.set_cons_succ]
          refine wpAnyH_take (i := 12) (v := ?_) rfl (by kernel_rfl) (by kernel_rfl) (by kernel_rfl) (fun _ _ _ h => h) (Or.inl ⟨by rfl, ?_⟩) (HS.out _ hd) ?_
          rotate_left 1
          next => intro w hSw; rw [hSe] at hSw; obtain ⟨s1, s2, s3, s4⟩ := hSw; go_simp; try with_reducible rfl
          try simp only [Act.put, List.getElem_toArray, List.getElem_cons_zero, List.getElem_cons_succ, List.setIfInBounds_toArray, List.set_cons_zero, List.set_cons_succ]
          refine wpAnyH_take (i := 13) (v := ?_) rfl (by kernel_rfl) (by kernel_rfl) (by kernel_rfl) (fun _ _ _ h => h) (Or.inl ⟨by rfl, ?_⟩) (HS.out _ hd) ?_
          rotate_left 1
          next => intro w hSw; rw [hSe] at hSw; obtain ⟨s1, s2, s3, s4⟩ := hSw; go_simp; try with_reducible rfl
          try simp only [Act.put, List.getElem_toArray, List.getElem_cons_zero, List.getElem_cons_succ, List.setIfInBounds_toArray, List.set_cons_zero, List.set_cons_succ]
          refine wpAnyH_take (i := 14) (v := ?_) rfl (by kernel_rfl) (by kernel_rfl) (by kernel_rfl) (fun _ _ _ h => h) (Or.inl ⟨by rfl, ?_⟩) (HS.out _ hd) ?_
          rotate_left 1
          next => intro w hSw; rw [hSe] at hSw; obtain ⟨s1, s2, s3, s4⟩ := hSw; go_simp; try with_reducible rfl
          try simp only [Act.put, List.getElem_toArray, List.getElem_cons_zero, List.getElem_cons_succ, List.setIfInBounds_toArray, List.set_cons_zero, List.set_cons_succ]
          refine wpAnyH_take (i := 15) (v := ?_) rfl (by kernel_rfl) (by kernel_rfl) (by kernel_rfl) (fun _ _ _ h => h) (Or.inl ⟨by rfl, ?_⟩) (HS.out _ hd) ?_
          rotate_left 1
          next => intro w hSw; rw [hSe] at hSw; obtain ⟨s1, s2, s3, s4⟩ := hSw; go_simp; try with_reducible rfl
          try simp only [Act.put, List.getElem_toArray, List.getElem_cons_zero, List.getElem_cons_succ, List.setIfInBounds_toArray, List.set_cons_zero, List.set_cons_succ]
          refine wpAnyH_take (i := 16) (v := ?_) rfl (by kernel_rfl) (by kernel_rfl) (by kernel_rfl) (fun _ _ _ h => h) (Or.inl ⟨by rfl, ?_⟩) (HS.out _ hd) ?_
          rotate_left 1
          next => intro w hSw; rw [hSe] at hSw; obtain ⟨s1, s2, s3, s4⟩ := hSw; go_simp; try with_reducible rfl
          try simp only [Act.put, List.getElem_toArray, List.getElem_cons_zero, List.getElem_cons_succ, List.setIfInBounds_toArray, List.set_cons_zero, List.set_cons_succ]
          refine wpAnyH_take (i := 17) (v := ?_) rfl (by kernel_rfl) (by kernel_rfl) (by kernel_rfl) (fun _ _ _ h => h) (Or.inl ⟨by rfl, ?_⟩) (HS.out _ hd) ?_
          rotate_left 1
          next => intro w hSw; rw [hSe] at hSw; obtain ⟨s1, s2, s3, s4⟩ := hSw; go_simp; try with_reducible rfl
          try simp only [Act.put, List.getElem_toArray, List.getElem_cons_zero, List.getElem_cons_succ, List.setIfInBounds_toArray, List.set_cons_zero, List.set_cons_succ]
          try simp only [Act.put, List.getElem_toArray, List.getElem_cons_zero, List.getElem_cons_succ, List.setIfInBounds_toArray, List.set_cons_zero, List.set_cons_succ]
          refine wpAnyH_ready (rs := [9, 18]) (by kernel_rfl) (by simp) ?_
          refine AllReadyH.cons rfl (fun K hK => ?_) (AllReadyH.cons rfl (fun K hK => ?_) AllReadyH.nil)
          · obtain ⟨hv1, _⟩ := HXX.out _ hd
            obtain ⟨⟨z0, z1⟩, z2, z3⟩ := hv1.2 s ea
            rw [HXe.out, HXX1.out] at z0 z1
            go_simp
            refine hK.out _ _ (HS.out _ hd) (fun _ => ?_)
            clear hK K z0 z1 z2 z3 hv1
            try simp only [Act.put, List.getElem_toArray, List.getElem_cons_zero, List.getElem_cons_succ, List.setIfInBounds_toArray, List.set_cons_zero, List.set_cons_succ]
            refine wpAnyH_ready (rs := [18]) (by kernel_rfl) (by simp) ?_
            refine AllReadyH.cons rfl (fun K hK => ?_) AllReadyH.nil
            go_simp
            refine (HMk.out _).mono ?_
            rintro e w1 ⟨rfl, hbc⟩
            have hb1 : Below wr.heap.size wr w1 := hd.trans (hbc.mono hd.size)
            dsimp only
            refine hK.out _ _ (HS.out _ hb1) (fun _ => ?_)
            clear hK K hbc
            try simp only [Act.put, List.getElem_toArray, List.getElem_cons_zero, List.getElem_cons_succ, List.setIfInBounds_toArray, List.set_cons_zero, List.set_cons_succ]
            refine wpAnyH_ready (rs := [19]) (by kernel_rfl) (by simp) ?_
            refine AllReadyH.cons rfl (fun K hK => ?_) AllReadyH.nil
            go_simp
            refine (HP.out _).mono ?_
            rintro e w2 ⟨rfl, hbc⟩
            have hb2 : Below wr.heap.size wr w2 := hb1.trans (hbc.mono hb1.size)
            dsimp only
            refine hK.out _ _ (HS.out _ hb2) (fun _ => ?_)
            clear hK K hbc
            refine wpAnyH_take (i := 20) (v := ?_) rfl (by kernel_rfl) (by kernel_rfl) (by kernel_rfl) (fun _ _ _ h => h) (Or.inl ⟨by rfl, ?_⟩) (HS.out _ hb2) ?_
            rotate_left 1
            next => intro w hSw; rw [hSe] at hSw; obtain ⟨s1, s2, s3, s4⟩ := hSw; go_simp; try with_reducible rfl
            try simp only [Act.put, List.getElem_toArray, List.getElem_cons_zero, List.getElem_cons_succ, List.setIfInBounds_toArray, List.set_cons_zero, List.set_cons_succ]
            try simp only [Act.put, List.getElem_toArray, List.getElem_cons_zero, List.getElem_cons_succ, List.setIfInBounds_toArray, List.set_cons_zero, List.set_cons_succ]
            refine wpAnyH_ready (rs := [21]) (by kernel_rfl) (by simp) ?_
            refine AllReadyH.cons rfl (fun K hK => ?_) AllReadyH.nil
            obtain ⟨hv1, hv3⟩ := HXX.out _ hb2
            obtain ⟨⟨z0, z1⟩, z2, z3⟩ := hv1.2 s ea
            have hss := HS.out _ hb2
            have hs2 : SS ((w2.setCell ⟨go, s * 2, none⟩ (.bool ZZ.neg)).setCell ⟨go, s * 2 + 1, none⟩ (.string ZZ.mag)) := by
              rw [hSe] at hss ⊢
              obtain ⟨s1, s2, s3, s4⟩ := hss
              refine ⟨?_, ?_, ?_, ?_⟩ <;> (rw [World.cell?_setCell_other _ _ _ _ (by intro hh; simp only [Addr.mk.injEq] at hh; omega), World.cell?_setCell_other _ _ _ _ (by intro hh; simp only [Addr.mk.injEq] at hh; omega)]; assumption)
            have hrs := hv1.set (k := s) z
            rw [HZ1.out] at hrs
            have F1 := Lib.hid (hrs.congr fun k _ => (HNX.out k).symm)
            have F3 := Lib.hid ((hv3.setCell (p := ⟨go, s * 2, none⟩) (Nat.le_refl _) (.bool ZZ.neg)).setCell (p := ⟨go, s * 2 + 1, none⟩) (Nat.le_refl _) (.string ZZ.mag))
            go_simp
            refine hK.out _ _ hs2 (fun _ => ?_)
            clear hK K z0 z1 z2 z3 hss hs2 hv1 hv3 hrs
            refine wpAnyH_done (by kernel_rfl) ?_ _
            go_wp2_with fail
            go_roundw
            case rel => exact ⟨k + 1, by omega, by go_num, F1, F3⟩
            case measure => simp [intOf]; omega
          · go_simp
            refine (HMk.out _).mono ?_
            rintro e w3 ⟨rfl, hbc⟩
            have hb3 : Below wr.heap.size wr w3 := hd.trans (hbc.mono hd.size)
            dsimp only
            refine hK.out _ _ (HS.out _ hb3) (fun _ => ?_)
            clear hK K hbc
            try simp only [Act.put, List.getElem_toArray, List.getElem_cons_zero, List.getElem_cons_succ, List.setIfInBounds_toArray, List.set_cons_zero, List.set_cons_succ]
            refine wpAnyH_ready (rs := [9]) (by kernel_rfl) (by simp) ?_
            refine AllReadyH.cons rfl (fun K hK => ?_) AllReadyH.nil
            obtain ⟨hv1, _⟩ := HXX.out _ hb3
            obtain ⟨⟨z0, z1⟩, z2, z3⟩ := hv1.2 s ea
            rw [HXe.out, HXX1.out] at z0 z1
            go_simp
            refine hK.out _ _ (HS.out _ hb3) (fun _ => ?_)
            clear hK K z0 z1 z2 z3 hv1
            try simp only [Act.put, List.getElem_toArray, List.getElem_cons_zero, List.getElem_cons_succ, List.setIfInBounds_toArray, List.set_cons_zero, List.set_cons_succ]
            refine wpAnyH_ready (rs := [19]) (by kernel_rfl) (by simp) ?_
            refine AllReadyH.cons rfl (fun K hK => ?_) AllReadyH.nil
            go_simp
            refine (HP.out _).mono ?_
            rintro e w4 ⟨rfl, hbc⟩
            have hb4 : Below wr.heap.size wr w4 := hb3.trans (hbc.mono hb3.size)
            dsimp only
            refine hK.out _ _ (HS.out _ hb4) (fun _ => ?_)
            clear hK K hbc
            refine wpAnyH_take (i := 20) (v := ?_) rfl (by kernel_rfl) (by kernel_rfl) (by kernel_rfl) (fun _ _ _ h => h) (Or.inl ⟨by rfl, ?_⟩) (HS.out _ hb4) ?_
            rotate_left 1
            next => intro w hSw; rw [hSe] at hSw; obtain ⟨s1, s2, s3, s4⟩ := hSw; go_simp; try with_reducible rfl
            try simp only [Act.put, List.getElem_toArray, List.getElem_cons_zero, List.getElem_cons_succ, List.setIfInBounds_toArray, List.set_cons_zero, List.set_cons_succ]
            try simp only [Act.put, List.getElem_toArray, List.getElem_cons_zero, List.getElem_cons_succ, List.setIfInBounds_toArray, List.set_cons_zero, List.set_cons_succ]
            refine wpAnyH_ready (rs := [21]) (by kernel_rfl) (by simp) ?_
            refine AllReadyH.cons rfl (fun K hK => ?_) AllReadyH.nil
            obtain ⟨hv1, hv3⟩ := HXX.out _ hb4
            obtain ⟨⟨z0, z1⟩, z2, z3⟩ := hv1.2 s ea
            have hss := HS.out _ hb4
            have hs2 : SS ((w4.setCell ⟨go, s * 2, none⟩ (.bool ZZ.neg)).setCell ⟨go, s * 2 + 1, none⟩ (.string ZZ.mag)) := by
              rw [hSe] at hss ⊢
              obtain ⟨s1, s2, s3, s4⟩ := hss
              refine ⟨?_, ?_, ?_, ?_⟩ <;> (rw [World.cell?_setCell_other _ _ _ _ (by intro hh; simp only [Addr.mk.injEq] at hh; omega), World.cell?_setCell_other _ _ _ _ (by intro hh; simp only [Addr.mk.injEq] at hh; omega)]; assumption)
            have hrs := hv1.set (k := s) z
            rw [HZ1.out] at hrs
            have F1 := Lib.hid (hrs.congr fun k _ => (HNX.out k).symm)
            have F3 := Lib.hid ((hv3.setCell (p := ⟨go, s * 2, none⟩) (Nat.le_refl _) (.bool ZZ.neg)).setCell (p := ⟨go, s * 2 + 1, none⟩) (Nat.le_refl _) (.string ZZ.mag))
            go_simp
            refine hK.out _ _ hs2 (fun _ => ?_)
            clear hK K z0 z1 z2 z3 hss hs2 hv1 hv3 hrs
            refine wpAnyH_done (by kernel_rfl) ?_ _
            go_wp2_with fail
            go_roundw
            case rel => exact ⟨k + 1, by omega, by go_num, F1, F3⟩
            case measure => simp [intOf]; omega
        · have k1 : ¬ (k : Int) ≤ (m1 : Int) - 1 := by omega
          have hke : k = m1 := by omega
          rw [hke] at HO
          have HO9 := Lib.hid (show ZAt wr go N (mR f g m1 (i + 1)) from HO.out)
          clear hke HO
          go_wp2_with fail
          go_roundw
          case rel => exact ⟨i + 1, by omega, by go_num, HO9, HB⟩
          case measure => simp [intOf]; omega
    · have i1 : ¬ (i : Int) ≤ (n1 : Int) - 1 := by omega
      have hie : i = n1 := by omega
      rw [hie] at HO
      have hca := refCan3_any N (fun k => canon (mR f g m1 n1 k)) (some ⟨go, 0, none⟩) N hN6 (fun k hk => Nat.lt_of_le_of_lt ((mR_bn Hf.out Hg.out n1 k).size 90000000 (by omega)) (by decide)) wr (HO.out.row.g)
      simp only [valZ_canon] at hca
      have HCa := Lib.hid hca
      have HBw := Lib.hid (Hb2.out.trans (HB.out.mono Hgo.out))
      clear hca hie HO HB
      go_wp2_with fail
      refine HCa.out.mono ?_
      rintro e5 w5 ⟨q5, c5, rfl, hr5, hb5⟩
      dsimp only
      have Hr5 := Lib.hid hr5
      have Hb5 := Lib.hid (HBw.out.trans (hb5.mono HBw.out.size))
      clear hr5 hb5 HCa
      go_wp2_with fail
      go_ret
      exact ⟨q5, c5, rfl, Hr5.out, Hb5.out⟩
end Go.Proofs.YtmbamcpndbimaaaDoor
