/- polynomial.Mul: the walk. -/
import Derived.Test.YtmbamcpndbimaaaDoorA10
import Derived.Deep.RegionWith
namespace Go.Proofs.YtmbamcpndbimaaaDoor
open Go.RowKit Go.Shelf
theorem BoxAt.far {w : World} {g : Nat} {a b : Value} (h : BoxAt w g a b) (p : Addr) (v : Value) (hp : p.block ≠ g) : BoxAt (w.setCell p v) g a b := by
  obtain ⟨h1, h2, h3, h4, h5⟩ := h
  have key : ∀ j, (w.setCell p v).cell? ⟨g, j, none⟩ = w.cell? ⟨g, j, none⟩ := fun j => World.cell?_setCell_other _ _ _ _ (by intro h; rw [h] at hp; exact hp rfl)
  exact ⟨by rw [key]; exact h1, by rw [key]; exact h2, by rw [World.frozen?_setCell]; exact h3, by rw [World.frozen?_setCell]; exact h4, by simpa using h5⟩

/-- The sums of the first i rows of a product. -/
def mR (f g : Nat → Int) (m : Nat) : Nat → Nat → Int
  | 0, _ => 0
  | i + 1, t => mR f g m i t + if i ≤ t ∧ t < i + m then f i * g (t - i) else 0
/-- .. and of k numbers of the next one. -/
def mP (f g : Nat → Int) (m i k t : Nat) : Int := mR f g m i t + if i ≤ t ∧ t < i + k then f i * g (t - i) else 0
theorem mP_zero (f g : Nat → Int) (m i t : Nat) : mP f g m i 0 t = mR f g m i t := by unfold mP; rw [if_neg (by omega)]; omega
theorem mP_all (f g : Nat → Int) (m i t : Nat) : mP f g m i m t = mR f g m (i + 1) t := rfl
theorem mP_step (f g : Nat → Int) (m i k t : Nat) : mP f g m i (k + 1) t = if t = i + k then mP f g m i k (i + k) + f i * g k else mP f g m i k t := by
  unfold mP
  by_cases e : t = i + k
  · subst e
    have h1 : i ≤ i + k ∧ i + k < i + (k + 1) := by omega
    have h2 : ¬ (i ≤ i + k ∧ i + k < i + k) := by omega
    rw [if_pos rfl, if_pos h1, if_neg h2, Nat.add_sub_cancel_left]; omega
  · rw [if_neg e]
    by_cases h : i ≤ t ∧ t < i + k
    · have h1 : i ≤ t ∧ t < i + (k + 1) := by omega
      rw [if_pos h, if_pos h1]
    · have h1 : ¬ (i ≤ t ∧ t < i + (k + 1)) := by omega
      rw [if_neg h, if_neg h1]
theorem mR_bn {f g : Nat → Int} {m e e' : Nat} (hf : ∀ i, Bn (f i) e) (hg : ∀ i, Bn (g i) e') : ∀ i t, Bn (mR f g m i t) (e + e' + i)
  | 0, t => Bn.zero _
  | i + 1, t => by
    rw [mR]
    refine Bn.add (mR_bn hf hg i t) ?_
    split
    · exact ((hf i).mul (hg _)).up (show e + e' ≤ e + e' + i by omega)
    · exact Bn.zero _
theorem mP_bn {f g : Nat → Int} {m e e' : Nat} (hf : ∀ i, Bn (f i) e) (hg : ∀ i, Bn (g i) e') (i k t : Nat) : Bn (mP f g m i k t) (e + e' + i + 1) := by
  unfold mP
  refine Bn.add (mR_bn hf hg i t) ?_
  split
  · exact ((hf i).mul (hg _)).up (show e + e' ≤ e + e' + i by omega)
  · exact Bn.zero _
/-- What a function that returns a polynomial and an error gives. -/
def RetPolE (m : Nat) (f : Nat → Int) (c : Int) (w : World) (e : Ending) (w' : World) : Prop := ∃ q cap, e = .returned (.tuple #[.slice q m cap, .int .i64 c]) ∧ RowF w' q m f ∧ Below w.heap.size w w'
/-- What Mul answers: length, coefficients, error. -/
def mulN (f g : Nat → Int) (n m : Nat) : Nat := if dgN f n = 0 ∨ dgN g m = 0 then 0 else if 64 + 2 < dgN f n + dgN g m then 0 else dgN (mR f g (dgN g m) (dgN f n)) (dgN f n + dgN g m - 1)
def mulC (f g : Nat → Int) (n m : Nat) : Int := if dgN f n = 0 ∨ dgN g m = 0 then 0 else if 64 + 2 < dgN f n + dgN g m then 4 else 0
set_option maxRecDepth 100000 in
set_option maxHeartbeats 16000000 in
theorem pMul_any (n m : Nat) (Z Y : Nat → ZI) (p q : Option Addr) (c d : Nat) {e e' : Nat} (hn : n ≤ 1000000) (hm : m ≤ 1000000) (he : e ≤ 10000000) (he' : e' ≤ 10000000) (hz : ∀ k, k < n → (Z k).mag.size ≤ 100000000) (hy : ∀ k, k < m → (Y k).mag.size ≤ 100000000) (hf : ∀ k, Bn (valZ (Z k)) e) (hg : ∀ k, Bn (valZ (Y k)) e') (w : World) (hX : GRow w p n Z) (hY : GRow w q m Y) :
    Calls Tryd.prog 6 #[.slice p n c, .slice q m d] w (RetPolE (mulN (fun k => valZ (Z k)) (fun k => valZ (Y k)) n m) (mR (fun k => valZ (Z k)) (fun k => valZ (Y k)) (dgN (fun k => valZ (Y k)) m) (dgN (fun k => valZ (Z k)) n)) (mulC (fun k => valZ (Z k)) (fun k => valZ (Y k)) n m) w) := by
  have hc1 := Canonical_any n Z p c hn hz w hX
  have hc2 := fun W (hW : Below w.heap.size w W) => Canonical_any m Y q d hm hy W (SlAt.mono hY (Nat.le_refl _) hW)
  obtain ⟨f, hfe⟩ : ∃ f, (fun k => valZ (Z k)) = f := ⟨_, rfl⟩
  obtain ⟨g, hge⟩ : ∃ f, (fun k => valZ (Y k)) = f := ⟨_, rfl⟩
  have hf' : ∀ k, Bn (f k) e := fun k => by rw [← hfe]; exact hf k
  have hg' : ∀ k, Bn (g k) e' := fun k => by rw [← hge]; exact hg k
  have hn1 := dgN_le f n
  have hm1 := dgN_le g m
  rw [hfe] at hc1 ⊢
  rw [hge] at hc2 ⊢
  unfold mulN mulC
  obtain ⟨n1, hne⟩ : ∃ k, dgN f n = k := ⟨_, rfl⟩
  obtain ⟨m1, hme⟩ : ∃ k, dgN g m = k := ⟨_, rfl⟩
  rw [hne] at hn1 hc1 ⊢
  rw [hme] at hm1 hc2 ⊢
  unfold RetPol at hc1 hc2
  obtain ⟨ML, hML⟩ : ∃ k, (if n1 = 0 ∨ m1 = 0 then 0 else if 64 + 2 < n1 + m1 then 0 else dgN (mR f g m1 n1) (n1 + m1 - 1)) = k := ⟨_, rfl⟩
  obtain ⟨MC, hMC⟩ : ∃ k, (if n1 = 0 ∨ m1 = 0 then (0 : Int) else if 64 + 2 < n1 + m1 then 4 else 0) = k := ⟨_, rfl⟩
  rw [hML, hMC]
  have HML := Lib.hid hML
  have HMC := Lib.hid hMC
  clear hML hMC
  have HC1 := Lib.hid hc1
  have HC2 := Lib.hid hc2
  have Hf := Lib.hid hf'
  have Hg := Lib.hid hg'
  clear hc1 hc2 hX hY hz hy hf hg hf' hg' hfe hge hne hme
  go_enter Tryd.func6, Tryd.ntmps6
  go_wp2_with fail
  refine HC1.out.mono ?_
  rintro e1 w1 ⟨q1, c1, rfl, hr1, hb1⟩
  dsimp only
  have HC := Lib.hid (HC2.out w1 hb1)
  have Hr1 := Lib.hid hr1
  have Hb1 := Lib.hid hb1
  clear hr1 hb1 HC1 HC2
  go_wp2_with fail
  refine HC.out.mono ?_
  rintro e2 w2 ⟨q2, c2, rfl, hr2, hb2⟩
  dsimp only
  have Hr1' := Lib.hid (RowF.below Hr1.out (Nat.le_refl _) hb2)
  have Hr2 := Lib.hid hr2
  have Hb2 := Lib.hid (Hb1.out.trans (hb2.mono Hb1.out.size))
  clear hr2 hb2 HC Hr1 Hb1
  by_cases hn0 : n1 = 0
  · have b0 : ((n1 : Int) == 0) = true := by rw [beq_iff_eq]; omega
    have hl : MC = 0 := by rw [← HMC.out]; exact if_pos (.inl hn0)
    have hl2 : ML = 0 := by rw [← HML.out]; exact if_pos (.inl hn0)
    have Hl := Lib.hid hl
    have Hl2 := Lib.hid hl2
    clear hl hl2
    go_wp2_with fail
    go_ret2
    exact ⟨none, 0, by rw [Hl.out, Hl2.out]; rfl, by rw [Hl2.out]; exact .inl rfl, Hb2.out⟩
  have b0 : ((n1 : Int) == 0) = false := by rw [beq_eq_false_iff_ne]; omega
  by_cases hm0 : m1 = 0
  · have b1 : ((m1 : Int) == 0) = true := by rw [beq_iff_eq]; omega
    have hl : MC = 0 := by rw [← HMC.out]; exact if_pos (.inr hm0)
    have hl2 : ML = 0 := by rw [← HML.out]; exact if_pos (.inr hm0)
    have Hl := Lib.hid hl
    have Hl2 := Lib.hid hl2
    clear hl hl2
    go_wp2_with fail
    go_ret2
    exact ⟨none, 0, by rw [Hl.out, Hl2.out]; rfl, by rw [Hl2.out]; exact .inl rfl, Hb2.out⟩
  have b1 : ((m1 : Int) == 0) = false := by rw [beq_eq_false_iff_ne]; omega
  have hor : ¬ (n1 = 0 ∨ m1 = 0) := by omega
  by_cases hbig : 64 + 2 < n1 + m1
  · have b2 : (n1 : Int) + (m1 : Int) - 2 > 64 := by omega
    have hl : MC = 4 := by rw [← HMC.out, if_neg hor, if_pos hbig]
    have hl2 : ML = 0 := by rw [← HML.out, if_neg hor, if_pos hbig]
    have Hl := Lib.hid hl
    have Hl2 := Lib.hid hl2
    clear hl hl2 hor
    go_wp2_with fail
    go_ret2
    exact ⟨none, 0, by rw [Hl.out, Hl2.out]; rfl, by rw [Hl2.out]; exact .inl rfl, Hb2.out⟩
  have b2 : ¬ (n1 : Int) + (m1 : Int) - 2 > 64 := by omega
  obtain ⟨N, hN⟩ : ∃ N, n1 + m1 - 1 = N := ⟨_, rfl⟩
  have hl : MC = 0 := by rw [← HMC.out, if_neg hor, if_neg hbig]
  have hl2 : ML = dgN (mR f g m1 n1) N := by rw [← HML.out, if_neg hor, if_neg hbig, hN]
  subst hl hl2
  have hN1 : (n1 : Int) + (m1 : Int) - 1 = (N : Int) := by omega
  have hN6 : N ≤ 1000000 := by omega
  have hmk := make_zs N hN6
  have HNn := Lib.hid (show n1 + m1 = N + 1 by omega)
  have HM := Lib.hid (fun i k W => mulc_any (f i) (g k) ((Hf.out i).size 100000000 (by omega)) ((Hg.out k).size 100000000 (by omega)) W)
  clear hor hbig hN
  go_wp2_with fail
  obtain ⟨go, hgo⟩ : ∃ g, w2.heap.size = g := ⟨_, rfl⟩
  have hz0 := made_zero w2 N 32
  have hal := (Below.refl w2.heap.size w2).alloc (Nat.le_refl _) (.cells (madeCells #[.bool false, .string ⟨#[]⟩] (N * 2)) 32)
  have Hgo := Lib.hid (show w.heap.size ≤ go by rw [← hgo]; exact Hb2.out.size)
  rw [hgo] at hz0 hal ⊢
  have H0 := Lib.hid hz0
  have B0 := Lib.hid hal
  have Hgo2 := Lib.hid hgo
  clear hz0 hal hgo hmk hN1
  generalize w2.alloc (.cells (madeCells #[.bool false, .string ⟨#[]⟩] (N * 2)) 32) = W0 at *
  go_loopw [39] (fun iv wr => ∃ i : Nat, i ≤ n1 ∧ iv = .int .i64 (i : Nat) ∧ Hid (ZAt wr go N (mR f g m1 i)) ∧ Hid (Below go w2 wr)) (fun iv _ => n1 - (intOf iv).toNat)
  case atStart => exact ⟨0, by omega, by go_num, Lib.hid (H0.out.congr fun k _ => rfl), B0⟩
  case round =>
    clear H0 B0
    obtain ⟨i, hi, rfl, HO, HB⟩ := hrel
    by_cases hil : i < n1
    · have i0 : (0 : Int) ≤ (i : Int) := by omega
      have i1 : (i : Int) < (n1 : Int) := by omega
      obtain ⟨pb, po, rfl, hpl, hpc⟩ := RowF.cells Hr1'.out hil
      obtain ⟨a0, a1⟩ := hpc i hil
      rw [Hgo2.out] at hpl
      have a0 := (HB.out.cell (p := ⟨pb, po + i * 2, none⟩) hpl).trans a0
      have a1 := (HB.out.cell (p := ⟨pb, po + i * 2 + 1, none⟩) hpl).trans a1
      have hgl : go < wr.heap.size := HO.out.1
      obtain ⟨CX, hCX⟩ : ∃ z, canon (f i) = z := ⟨_, rfl⟩
      have HMi := Lib.hid (fun k W => HM.out i k W)
      rw [hCX] at a0 a1 HMi
      clear hpc hpl hCX
      go_upto_region 10 with (fail)
      clear a0 a1
      have hal := (Below.refl wr.heap.size wr).alloc (Nat.le_refl _) (.cells #[.bool CX.neg, .string CX.mag] 32)
      have hbx := BoxAt.new wr (.bool CX.neg) (.string CX.mag) 32
      obtain ⟨gx, hgx⟩ : ∃ k, wr.heap.size = k := ⟨_, rfl⟩
      have HO2 := Lib.hid (HO.out.below hal hgl)
      have HB2 := Lib.hid (HB.out.trans (hal.mono (Nat.le_of_lt hgl)))
      rw [hgx] at hbx hgl ⊢
      have HX2 := Lib.hid hbx
      clear hal hbx HO HB hgx
      generalize wr.alloc (.cells #[.bool CX.neg, .string CX.mag] 32) = V0 at *
      go_wp2_with fail
      go_loopw [46] (fun kv wr => ∃ k : Nat, k ≤ m1 ∧ kv = .int .i64 (k : Nat) ∧ Hid (ZAt wr go N (mP f g m1 i k)) ∧ Hid (BoxAt wr gx (.bool CX.neg) (.string CX.mag)) ∧ Hid (Below go w2 wr)) (fun kv _ => m1 - (intOf kv).toNat)
      case atStart => exact ⟨0, by omega, by go_num, Lib.hid (HO2.out.congr fun k _ => (mP_zero f g m1 i k).symm), HX2, HB2⟩
      case round =>
        clear HO2 HX2 HB2
        obtain ⟨k, hk, rfl, HO, HX, HB⟩ := hrel
        by_cases hkl : k < m1
        · have k0 : (0 : Int) ≤ (k : Int) := by omega
          have k1 : (k : Int) < (m1 : Int) := by omega
          obtain ⟨qb, qo, rfl, hql, hqc⟩ := RowF.cells Hr2.out hkl
          obtain ⟨b0', b1'⟩ := hqc k hkl
          rw [Hgo2.out] at hql
          have b0' := (HB.out.cell (p := ⟨qb, qo + k * 2, none⟩) hql).trans b0'
          have b1' := (HB.out.cell (p := ⟨qb, qo + k * 2 + 1, none⟩) hql).trans b1'
          have hgl2 : go < wr.heap.size := HO.out.1
          obtain ⟨CY, hCY⟩ : ∃ z, canon (g k) = z := ⟨_, rfl⟩
          have hMk := fun W => HMi.out k W
          rw [hCY] at b0' b1' hMk
          have HMk := Lib.hid hMk
          obtain ⟨s, hse⟩ : ∃ s, i + k = s := ⟨_, rfl⟩
          have ea : s < N := by have := HNn.out; omega
          have s1 : (i : Int) + (k : Int) = (s : Int) := by omega
          have s2 : (s : Int) < (N : Int) := by omega
          have s0 : (0 : Int) ≤ (s : Int) := by omega
          have s6 : s < 1000000 := by omega
          have s7 : IntKind.i64.wrap (s : Int) = (s : Int) := IntWalk.i64_in _ (by omega)
          obtain ⟨x, hx⟩ : ∃ x, mP f g m1 i k s = x := ⟨_, rfl⟩
          obtain ⟨y, hy⟩ : ∃ x, f i * g k = x := ⟨_, rfl⟩
          obtain ⟨z, hz⟩ : ∃ z, x + y = z := ⟨_, rfl⟩
          have hxb : Bn x (e + e' + 1000001) := by rw [← hx]; exact (mP_bn Hf.out Hg.out i k s).up (by omega)
          have hyb : Bn y (e + e') := by rw [← hy]; exact (Hf.out i).mul (Hg.out k)
          have HNX : Hid (∀ t, mP f g m1 i (k + 1) t = if t = s then z else mP f g m1 i k t) := Lib.hid (fun t => by rw [mP_step, hse, hx, hy, hz])
          have hP := fun W => addc_any x y (hxb.size 100000000 (by omega)) (hyb.size 100000000 (by omega)) W
          obtain ⟨XX, hXX⟩ : ∃ Z, canon x = Z := ⟨_, rfl⟩
          obtain ⟨YY, hYY⟩ : ∃ Z, canon y = Z := ⟨_, rfl⟩
          obtain ⟨ZZ, hZZ⟩ : ∃ Z, canon z = Z := ⟨_, rfl⟩
          rw [hz, hXX, hYY, hZZ] at hP
          have HP := Lib.hid hP
          rw [hy, hYY] at HMk
          have HXe := Lib.hid hx
          have HXX1 := Lib.hid hXX
          have HZ1 := Lib.hid hZZ
          clear hqc hql hCY hMk hse hx hy hz hxb hyb hP hXX hYY hZZ
          go_upto_region 13 with (fail)
          clear b0' b1'
          have hal := (Below.refl wr.heap.size wr).alloc (Nat.le_refl _) (.cells #[.bool CY.neg, .string CY.mag] 32)
          have hbx := BoxAt.new wr (.bool CY.neg) (.string CY.mag) 32
          obtain ⟨gy, hgy⟩ : ∃ k, wr.heap.size = k := ⟨_, rfl⟩
          have hz2 := HO.out.below hal hgl2
          have hx2 := HX.out.below hal HX.out.2.2.2.2
          have hb2 := HB.out.trans (hal.mono (Nat.le_of_lt hgl2))
          have hgxl : gx < gy := by rw [← hgy]; exact HX.out.2.2.2.2
          rw [hgy] at hbx hgl2 ⊢
          clear hal HO HX HB hgy
          generalize wr.alloc (.cells #[.bool CY.neg, .string CY.mag] 32) = X at *
          have HXX : Hid (∀ W, Below X.heap.size X W → ZAt W go N (mP f g m1 i k) ∧ BoxAt W gx (.bool CX.neg) (.string CX.mag) ∧ Below go w2 W) := Lib.hid (fun W hW => ⟨hz2.below hW hz2.1, hx2.below hW hx2.2.2.2.2, hb2.trans (hW.mono (Nat.le_of_lt hz2.1))⟩)
          obtain ⟨SS, hSe⟩ : ∃ SS : World → Prop, SS = fun W => W.cell? ⟨gx, 0, none⟩ = some (.bool CX.neg) ∧ W.cell? ⟨gx, 1, none⟩ = some (.string CX.mag) ∧ W.cell? ⟨gy, 0, none⟩ = some (.bool CY.neg) ∧ W.cell? ⟨gy, 1, none⟩ = some (.string CY.mag) := ⟨_, rfl⟩
          have HS : Hid (∀ W, Below X.heap.size X W → SS W) := Lib.hid (fun W hW => by
            obtain ⟨c0, c1, _, _, _⟩ := hx2
            obtain ⟨d0, d1, _, _, _⟩ := hbx
            rw [hSe]; exact ⟨cell_below hW c0, cell_below hW c1, cell_below hW d0, cell_below hW d1⟩)
          clear hbx hz2 hx2 hb2
          have hd : Below X.heap.size X X.drew := (Below.refl _ _).drew
          refine wp_region_held_drew (S := SS) (by kernel_rfl) (HS.out _ hd) (fun hSS => ?_)
          refine wpAnyH_take (i := 0) (v := ?_) rfl (by kernel_rfl) (by kernel_rfl) (by kernel_rfl) (fun _ _ _ h => h) (Or.inl ⟨by rfl, ?_⟩) (HS.out _ hd) ?_
          rotate_left 1
          next => intro w hSw; rw [hSe] at hSw; obtain ⟨s1, s2, s3, s4⟩ := hSw; go_simp; try with_reducible rfl
          try simp only [Act.put, List.getElem_toArray, List.getElem_cons_zero, List.getElem_cons_succ, List.setIfInBounds_toArray, List.set_cons_zero, List.set_cons_succ]
          refine wpAnyH_take (i := 1) (v := ?_) rfl (by kernel_rfl) (by kernel_rfl) (by kernel_rfl) (fun _ _ _ h => h) (Or.inl ⟨by rfl, ?_⟩) (HS.out _ hd) ?_
          rotate_left 1
          next => intro w hSw; rw [hSe] at hSw; obtain ⟨s1, s2, s3, s4⟩ := hSw; go_simp; try with_reducible rfl
          try simp only [Act.put, List.getElem_toArray, List.getElem_cons_zero, List.getElem_cons_succ, List.setIfInBounds_toArray, List.set_cons_zero, List.set_cons_succ]
          refine wpAnyH_take (i := 2) (v := ?_) rfl (by kernel_rfl) (by kernel_rfl) (by kernel_rfl) (fun _ _ _ h => h) (Or.inl ⟨by rfl, ?_⟩) (HS.out _ hd) ?_
          rotate_left 1
          next => intro w hSw; rw [hSe] at hSw; obtain ⟨s1, s2, s3, s4⟩ := hSw; go_simp; try with_reducible rfl
          try simp only [Act.put, List.getElem_toArray, List.getElem_cons_zero, List.getElem_cons_succ, List.setIfInBounds_toArray, List.set_cons_zero, List.set_cons_succ]
          refine wpAnyH_take (i := 3) (v := ?_) rfl (by kernel_rfl) (by kernel_rfl) (by kernel_rfl) (fun _ _ _ h => h) (Or.inl ⟨by rfl, ?_⟩) (HS.out _ hd) ?_
          rotate_left 1
          next => intro w hSw; rw [hSe] at hSw; obtain ⟨s1, s2, s3, s4⟩ := hSw; go_simp; try with_reducible rfl
          try simp only [Act.put, List.getElem_toArray, List.getElem_cons_zero, List.getElem_cons_succ, List.setIfInBounds_toArray, List.set_cons_zero, List.set_cons_succ]
          refine wpAnyH_take (i := 4) (v := ?_) rfl (by kernel_rfl) (by kernel_rfl) (by kernel_rfl) (fun _ _ _ h => h) (Or.inl ⟨by rfl, ?_⟩) (HS.out _ hd) ?_
          rotate_left 1
          next => intro w hSw; rw [hSe] at hSw; obtain ⟨s1, s2, s3, s4⟩ := hSw; go_simp; try with_reducible rfl
          try simp only [Act.put, List.getElem_toArray, List.getElem_cons_zero, List.getElem_cons_succ, List.setIfInBounds_toArray, List.set_cons_zero, List.set_cons_succ]
          refine wpAnyH_take (i := 5) (v := ?_) rfl (by kernel_rfl) (by kernel_rfl) (by kernel_rfl) (fun _ _ _ h => h) (Or.inl ⟨by rfl, ?_⟩) (HS.out _ hd) ?_
          rotate_left 1
          next => intro w hSw; rw [hSe] at hSw; obtain ⟨s1, s2, s3, s4⟩ := hSw; go_simp; try with_reducible rfl
          try simp only [Act.put, List.getElem_toArray, List.getElem_cons_zero, List.getElem_cons_succ, List.setIfInBounds_toArray, List.set_cons_zero, List.set_cons_succ]
          refine wpAnyH_take (i := 6) (v := ?_) rfl (by kernel_rfl) (by kernel_rfl) (by kernel_rfl) (fun _ _ _ h => h) (Or.inl ⟨by rfl, ?_⟩) (HS.out _ hd) ?_
          rotate_left 1
          next => intro w hSw; rw [hSe] at hSw; obtain ⟨s1, s2, s3, s4⟩ := hSw; go_simp; try with_reducible rfl
          try simp only [Act.put, List.getElem_toArray, List.getElem_cons_zero, List.getElem_cons_succ, List.setIfInBounds_toArray, List.set_cons_zero, List.set_cons_succ]
          refine wpAnyH_take (i := 7) (v := ?_) rfl (by kernel_rfl) (by kernel_rfl) (by kernel_rfl) (fun _ _ _ h => h) (Or.inl ⟨by rfl, ?_⟩) (HS.out _ hd) ?_
          rotate_left 1
          next => intro w hSw; rw [hSe] at hSw; obtain ⟨s1, s2, s3, s4⟩ := hSw; go_simp; try with_reducible rfl
          try simp only [Act.put, List.getElem_toArray, List.getElem_cons_zero, List.getElem_cons_succ, List.setIfInBounds_toArray, List.set_cons_zero, List.set_cons_succ]
          refine wpAnyH_take (i := 8) (v := ?_) rfl (by kernel_rfl) (by kernel_rfl) (by kernel_rfl) (fun _ _ _ h => h) (Or.inl ⟨by rfl, ?_⟩) (HS.out _ hd) ?_
          rotate_left 1
          next => intro w hSw; rw [hSe] at hSw; obtain ⟨s1, s2, s3, s4⟩ := hSw; go_simp; try with_reducible rfl
          try simp only [Act.put, List.getElem_toArray, List.getElem_cons_zero, List.getElem_cons_succ, List.setIfInBounds_toArray, List.set_cons_zero, List.set_cons_succ]
          refine wpAnyH_take (i := 10) (v := ?_) rfl (by kernel_rfl) (by kernel_rfl) (by kernel_rfl) (fun _ _ _ h => h) (Or.inl ⟨by rfl, ?_⟩) (HS.out _ hd) ?_
          rotate_left 1
          next => intro w hSw; rw [hSe] at hSw; obtain ⟨s1, s2, s3, s4⟩ := hSw; go_simp; try with_reducible rfl
          try simp only [Act.put, List.getElem_toArray, List.getElem_cons_zero, List.getElem_cons_succ, List.setIfInBounds_toArray, List.set_cons_zero, List.set_cons_succ]
          refine wpAnyH_take (i := 11) (v := ?_) rfl (by kernel_rfl) (by kernel_rfl) (by kernel_rfl) (fun _ _ _ h => h) (Or.inl ⟨by rfl, ?_⟩) (HS.out _ hd) ?_
          rotate_left 1
          next => intro w hSw; rw [hSe] at hSw; obtain ⟨s1, s2, s3, s4⟩ := hSw; go_simp; try with_reducible rfl
          try simp only [Act.put, List.getElem_toArray, List.getElem_cons_zero, List.getElem_cons_succ, List.setIfInBounds_toArray, List.set_cons_zero, List.set_cons_succ]
          try simp only [Act.put, List.getElem_toArray, List.getElem_cons_zero, List.getElem_cons_succ, List.setIfInBounds_toArray, List.set_cons_zero, List.set_cons_succ]
          refine wpAnyH_ready (rs := [9, 12]) (by kernel_rfl) (by simp) ?_
          refine AllReadyH.cons rfl (fun K hK => ?_) (AllReadyH.cons rfl (fun K hK => ?_) AllReadyH.nil)
          · obtain ⟨hv1, _, _⟩ := HXX.out _ hd
            obtain ⟨⟨z0, z1⟩, z2, z3⟩ := hv1.2 s ea
            rw [HXe.out, HXX1.out] at z0 z1
            go_simp
            refine hK.out _ _ (HS.out _ hd) (fun _ => ?_)
            clear hK K z0 z1 z2 z3 hv1
            try simp only [Act.put, List.getElem_toArray, List.getElem_cons_zero, List.getElem_cons_succ, List.setIfInBounds_toArray, List.set_cons_zero, List.set_cons_succ]
            refine wpAnyH_ready (rs := [12]) (by kernel_rfl) (by simp) ?_
            refine AllReadyH.cons rfl (fun K hK => ?_) AllReadyH.nil
            go_simp
            refine (HMk.out _).mono ?_
            rintro e w1 ⟨rfl, hbc⟩
            have hb1 : Below X.heap.size X w1 := hd.trans (hbc.mono hd.size)
            dsimp only
            refine hK.out _ _ (HS.out _ hb1) (fun _ => ?_)
            clear hK K hbc
            try simp only [Act.put, List.getElem_toArray, List.getElem_cons_zero, List.getElem_cons_succ, List.setIfInBounds_toArray, List.set_cons_zero, List.set_cons_succ]
            refine wpAnyH_ready (rs := [13]) (by kernel_rfl) (by simp) ?_
            refine AllReadyH.cons rfl (fun K hK => ?_) AllReadyH.nil
            go_simp
            refine (HP.out _).mono ?_
            rintro e w2 ⟨rfl, hbc⟩
            have hb2 : Below X.heap.size X w2 := hb1.trans (hbc.mono hb1.size)
            dsimp only
            refine hK.out _ _ (HS.out _ hb2) (fun _ => ?_)
            clear hK K hbc
            refine wpAnyH_take (i := 14) (v := ?_) rfl (by kernel_rfl) (by kernel_rfl) (by kernel_rfl) (fun _ _ _ h => h) (Or.inl ⟨by rfl, ?_⟩) (HS.out _ hb2) ?_
            rotate_left 1
            next => intro w hSw; rw [hSe] at hSw; obtain ⟨s1, s2, s3, s4⟩ := hSw; go_simp; try with_reducible rfl
            try simp only [Act.put, List.getElem_toArray, List.getElem_cons_zero, List.getElem_cons_succ, List.setIfInBounds_toArray, List.set_cons_zero, List.set_cons_succ]
            try simp only [Act.put, List.getElem_toArray, List.getElem_cons_zero, List.getElem_cons_succ, List.setIfInBounds_toArray, List.set_cons_zero, List.set_cons_succ]
            refine wpAnyH_ready (rs := [15]) (by kernel_rfl) (by simp) ?_
            refine AllReadyH.cons rfl (fun K hK => ?_) AllReadyH.nil
            obtain ⟨hv1, hv2, hv3⟩ := HXX.out _ hb2
            obtain ⟨⟨z0, z1⟩, z2, z3⟩ := hv1.2 s ea
            have hss := HS.out _ hb2
            have hs2 : SS ((w2.setCell ⟨go, s * 2, none⟩ (.bool ZZ.neg)).setCell ⟨go, s * 2 + 1, none⟩ (.string ZZ.mag)) := by
              rw [hSe] at hss ⊢
              obtain ⟨s1, s2, s3, s4⟩ := hss
              refine ⟨?_, ?_, ?_, ?_⟩ <;> (rw [World.cell?_setCell_other _ _ _ _ (by intro hh; simp only [Addr.mk.injEq] at hh; omega), World.cell?_setCell_other _ _ _ _ (by intro hh; simp only [Addr.mk.injEq] at hh; omega)]; assumption)
            have hrs := hv1.set (k := s) z
            rw [HZ1.out] at hrs
            have F1 := Lib.hid (hrs.congr fun k _ => (HNX.out k).symm)
            have F2 := Lib.hid ((hv2.far ⟨go, s * 2, none⟩ (.bool ZZ.neg) (by dsimp only; omega)).far ⟨go, s * 2 + 1, none⟩ (.string ZZ.mag) (by dsimp only; omega))
            have F3 := Lib.hid ((hv3.setCell (p := ⟨go, s * 2, none⟩) (Nat.le_refl _) (.bool ZZ.neg)).setCell (p := ⟨go, s * 2 + 1, none⟩) (Nat.le_refl _) (.string ZZ.mag))
            go_simp
            refine hK.out _ _ hs2 (fun _ => ?_)
            clear hK K z0 z1 z2 z3 hss hs2 hv1 hv2 hv3 hrs
            refine wpAnyH_done (by kernel_rfl) ?_ _
            go_wp2_with fail
            go_roundw
            case rel => exact ⟨k + 1, by omega, by go_num, F1, F2, F3⟩
            case measure => simp [intOf]; omega
          · go_simp
            refine (HMk.out _).mono ?_
            rintro e w3 ⟨rfl, hbc⟩
            have hb3 : Below X.heap.size X w3 := hd.trans (hbc.mono hd.size)
            dsimp only
            refine hK.out _ _ (HS.out _ hb3) (fun _ => ?_)
            clear hK K hbc
            try simp only [Act.put, List.getElem_toArray, List.getElem_cons_zero, List.getElem_cons_succ, List.setIfInBounds_toArray, List.set_cons_zero, List.set_cons_succ]
            refine wpAnyH_ready (rs := [9]) (by kernel_rfl) (by simp) ?_
            refine AllReadyH.cons rfl (fun K hK => ?_) AllReadyH.nil
            obtain ⟨hv1, _, _⟩ := HXX.out _ hb3
            obtain ⟨⟨z0, z1⟩, z2, z3⟩ := hv1.2 s ea
            rw [HXe.out, HXX1.out] at z0 z1
            go_simp
            refine hK.out _ _ (HS.out _ hb3) (fun _ => ?_)
            clear hK K z0 z1 z2 z3 hv1
            try simp only [Act.put, List.getElem_toArray, List.getElem_cons_zero, List.getElem_cons_succ, List.setIfInBounds_toArray, List.set_cons_zero, List.set_cons_succ]
            refine wpAnyH_ready (rs := [13]) (by kernel_rfl) (by simp) ?_
            refine AllReadyH.cons rfl (fun K hK => ?_) AllReadyH.nil
            go_simp
            refine (HP.out _).mono ?_
            rintro e w4 ⟨rfl, hbc⟩
            have hb4 : Below X.heap.size X w4 := hb3.trans (hbc.mono hb3.size)
            dsimp only
            refine hK.out _ _ (HS.out _ hb4) (fun _ => ?_)
            clear hK K hbc
            refine wpAnyH_take (i := 14) (v := ?_) rfl (by kernel_rfl) (by kernel_rfl) (by kernel_rfl) (fun _ _ _ h => h) (Or.inl ⟨by rfl, ?_⟩) (HS.out _ hb4) ?_
            rotate_left 1
            next => intro w hSw; rw [hSe] at hSw; obtain ⟨s1, s2, s3, s4⟩ := hSw; go_simp; try with_reducible rfl
            try simp only [Act.put, List.getElem_toArray, List.getElem_cons_zero, List.getElem_cons_succ, List.setIfInBounds_toArray, List.set_cons_zero, List.set_cons_succ]
            try simp only [Act.put, List.getElem_toArray, List.getElem_cons_zero, List.getElem_cons_succ, List.setIfInBounds_toArray, List.set_cons_zero, List.set_cons_succ]
            refine wpAnyH_ready (rs := [15]) (by kernel_rfl) (by simp) ?_
            refine AllReadyH.cons rfl (fun K hK => ?_) AllReadyH.nil
            obtain ⟨hv1, hv2, hv3⟩ := HXX.out _ hb4
            obtain ⟨⟨z0, z1⟩, z2, z3⟩ := hv1.2 s ea
            have hss := HS.out _ hb4
            have hs2 : SS ((w4.setCell ⟨go, s * 2, none⟩ (.bool ZZ.neg)).setCell ⟨go, s * 2 + 1, none⟩ (.string ZZ.mag)) := by
              rw [hSe] at hss ⊢
              obtain ⟨s1, s2, s3, s4⟩ := hss
              refine ⟨?_, ?_, ?_, ?_⟩ <;> (rw [World.cell?_setCell_other _ _ _ _ (by intro hh; simp only [Addr.mk.injEq] at hh; omega), World.cell?_setCell_other _ _ _ _ (by intro hh; simp only [Addr.mk.injEq] at hh; omega)]; assumption)
            have hrs := hv1.set (k := s) z
            rw [HZ1.out] at hrs
            have F1 := Lib.hid (hrs.congr fun k _ => (HNX.out k).symm)
            have F2 := Lib.hid ((hv2.far ⟨go, s * 2, none⟩ (.bool ZZ.neg) (by dsimp only; omega)).far ⟨go, s * 2 + 1, none⟩ (.string ZZ.mag) (by dsimp only; omega))
            have F3 := Lib.hid ((hv3.setCell (p := ⟨go, s * 2, none⟩) (Nat.le_refl _) (.bool ZZ.neg)).setCell (p := ⟨go, s * 2 + 1, none⟩) (Nat.le_refl _) (.string ZZ.mag))
            go_simp
            refine hK.out _ _ hs2 (fun _ => ?_)
            clear hK K z0 z1 z2 z3 hss hs2 hv1 hv2 hv3 hrs
            refine wpAnyH_done (by kernel_rfl) ?_ _
            go_wp2_with fail
            go_roundw
            case rel => exact ⟨k + 1, by omega, by go_num, F1, F2, F3⟩
            case measure => simp [intOf]; omega
        · have k1 : ¬ (k : Int) < (m1 : Int) := by omega
          have hke : k = m1 := by omega
          rw [hke] at HO
          have HO9 := Lib.hid (show ZAt wr go N (mR f g m1 (i + 1)) from HO.out)
          clear hke HO
          go_wp2_with fail
          go_roundw
          case rel => exact ⟨i + 1, by omega, by go_num, HO9, HB⟩
          case measure => simp [intOf]; omega
    · have i1 : ¬ (i : Int) < (n1 : Int) := by omega
      have hie : i = n1 := by omega
      rw [hie] at HO
      have hca := Canonical_any N (fun k => canon (mR f g m1 n1 k)) (some ⟨go, 0, none⟩) N hN6 (fun k hk => (mR_bn Hf.out Hg.out n1 k).size 100000000 (by omega)) wr (HO.out.row.g)
      simp only [valZ_canon] at hca
      have HCa := Lib.hid hca
      have HBw := Lib.hid (Hb2.out.trans (HB.out.mono Hgo.out))
      clear hca hie HO HB
      go_wp2_with fail
      refine HCa.out.mono ?_
      rintro e5 w5 ⟨q5, c5, rfl, hr5, hb5⟩
      dsimp only
      have Hr5 := Lib.hid hr5
      have Hb5 := Lib.hid (HBw.out.trans (hb5.mono HBw.out.size))
      clear hr5 hb5 HCa
      go_wp2_with fail
      go_ret2
      exact ⟨q5, c5, rfl, Hr5.out, Hb5.out⟩
end Go.Proofs.YtmbamcpndbimaaaDoor
