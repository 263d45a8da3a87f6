/- PolynomialSums: the walk. -/
import Derived.Test.YteoemijgdcpopaaDoorE10
import Derived.Test.YteoemijgdcpopaaDoorE33
import Derived.Test.YteoemijgdcpopaaDoorE41
import Derived.Test.YteoemijgdcpopaaDoorE42
import Derived.Test.YteoemijgdcpopaaDoorE45
namespace Go.Proofs.YteoemijgdcpopaaDoor
open Go.RowKit Go.Shelf
theorem sstrT {a b : ByteArray} (h : a = b) : (a.toList == b.toList) = true := by rw [h]; exact beq_self_eq_true _
theorem bn_three3 {z : ZI} (h : z.mag.size ≤ 3) : Bn (valZ z) 24 := by
  have h1 := absZ_lt z
  have h2 : 256 ^ z.mag.size ≤ 256 ^ 3 := Nat.pow_le_pow_right (by decide) h
  unfold Bn valZ
  split <;> omega
theorem grow_zx {w : World} {p : Option Addr} {n : Nat} {Z : Nat → ZI} (h : GRow w p n Z) : GRow w p n (zx Z n) := by
  have hx : ∀ k, k < n → zx Z n k = Z k := fun k hk => by unfold zx; rw [if_pos hk]
  rcases h with h | ⟨b, off, rfl, hl, hc⟩
  · exact .inl h
  · refine .inr ⟨b, off, rfl, hl, fun k hk j hj => ?_⟩
    rw [hc k hk j hj]
    show _ = some (zg (zx Z n k) j)
    rw [hx k hk]
theorem cf_small {Z : Nat → ZI} {n : Nat} (hz : ∀ k, k < n → (Z k).mag.size ≤ 3) (k : Nat) : (cf Z n k).natAbs < 256 ^ 3 := by
  unfold cf
  split
  · have h1 := absZ_lt (Z k)
    have h2 : 256 ^ (Z k).mag.size ≤ 256 ^ 3 := Nat.pow_le_pow_right (by decide) (hz k (by assumption))
    unfold valZ
    split <;> omega
  · decide
set_option maxRecDepth 100000 in
set_option maxHeartbeats 8000000 in
theorem lawSums (p : Option Addr) (n c : Nat) (Z : Nat → ZI) (q : Option Addr) (m d : Nat) (Y : Nat → ZI) (w : World) (hX : GRow w p n Z) (hn : n ≤ maxLen) (_hz : ∀ k, k < n → (Z k).mag.size ≤ maxLen) (hY : GRow w q m Y) (hm : m ≤ maxLen) (_hy : ∀ k, k < m → (Y k).mag.size ≤ maxLen) :
    Calls Tryd.prog 5 #[.slice p n c, .slice q m d] w (RetB true w) := by
  have HX := Lib.hid hX
  have HY := Lib.hid hY
  have Hb : Hid (Below w.heap.size w w) := Lib.hid (Below.refl _ _)
  have HAw := Lib.hid (fun W => awake_any W)
  have HGr := Lib.hid (fun W h1 h2 => great2_any W p q n m c d Z Y h1 h2 hn hm)
  clear hX hY
  cases hg : (gtP n Z || gtP m Y)
  · rw [hg] at HGr
    rw [Bool.or_eq_false_iff] at hg
    obtain ⟨n1, z1⟩ := gtP_false hg.1
    obtain ⟨m1, y1⟩ := gtP_false hg.2
    have hC1 := fun W h1 => Canonical_any n Z p c (by omega) (fun k hk => by have := z1 k hk; omega) W h1
    have hC2 := fun W h1 => refCan3_any n Z p c (by omega) (fun k hk => by have := z1 k hk; omega) W h1
    have hD1 := fun W h1 => Degree_any n Z p c (by omega) (fun k hk => by have := z1 k hk; omega) W h1
    have hD2 := fun W h1 => refDeg3_any n Z p c (by omega) (fun k hk => by have := z1 k hk; omega) W h1
    have hA1 := fun W h1 h2 => pAdd_any n m Z Y p q c d (by omega) (by omega) (fun k hk => by have := z1 k hk; omega) (fun k hk => by have := y1 k hk; omega) (fun k _ => Nat.le_trans (canon_size _ (k := 4) (by
      have h1 := cf_small z1 k
      have h2 := cf_small y1 k
      omega)) (by decide)) W h1 h2
    have hA2 := fun W h1 h2 => refAdd3_any n m Z Y p q c d (by omega) (by omega) (fun k hk => by have := z1 k hk; omega) (fun k hk => by have := y1 k hk; omega) W h1 h2
    have hS1 := fun W h1 h2 => pSub_any n m Z Y p q c d (by omega) (by omega) (fun k hk => by have := z1 k hk; omega) (fun k hk => by have := y1 k hk; omega) (fun k _ => Nat.le_trans (canon_size _ (k := 4) (by
      have h1 := cf_small z1 k
      have h2 := cf_small y1 k
      omega)) (by decide)) W h1 h2
    have hS2 := fun W h1 h2 => refSub3_any n m Z Y p q c d (by omega) (by omega) (fun k hk => by have := z1 k hk; omega) (fun k hk => by have := y1 k hk; omega) W h1 h2
    have hzx : ∀ k, (zx Z n k).mag.size ≤ 3 := fun k => by
      unfold zx
      split
      · exact z1 k (by assumption)
      · decide
    have hE1 := fun W (h1 : GRow W p n Z) => pDeriv_any n (zx Z n) p c (e := 24) (by omega) (fun k _ => by have := hzx k; omega) (fun k => bn_three3 (hzx k)) (by decide) W (grow_zx h1) _ rfl _ rfl
    have hE2 := fun W (h1 : GRow W p n Z) => refDer3_any n (zx Z n) p c (by omega) (fun k _ => by have := hzx k; omega) W (grow_zx h1)
    have hP1 := fun W h1 => pPrint_any n Z p c (by omega) (fun k hk => by have := z1 k hk; omega) W h1 _ rfl
    have hP2 := fun W h1 => refPrint3_any n Z p c (by omega) (fun k hk => by have := z1 k hk; omega) W h1 _ rfl
    obtain ⟨A, hA⟩ : ∃ s : ByteArray, (⟨(polL (fun k => valZ (Z k)) (dgN (fun k => valZ (Z k)) n)).toArray⟩ : ByteArray) = s := ⟨_, rfl⟩
    rw [hA] at hP1 hP2
    obtain ⟨dj, hdj⟩ : ∃ j : Int, ((dgN (fun k => valZ (Z k)) n : Nat) : Int) - 1 = j := ⟨_, rfl⟩
    rw [hdj] at hD1 hD2
    obtain ⟨N1, hN1⟩ : ∃ j : Nat, dgN (fun k => valZ (Z k)) n = j := ⟨_, rfl⟩
    rw [hN1] at hC1 hC2
    have l1 : N1 < 1000000000000 := by have := dgN_le (fun k => valZ (Z k)) n; omega
    obtain ⟨N2, hN2⟩ : ∃ j : Nat, dgN (fun k => cf Z n k + cf Y m k) (mxN n m) = j := ⟨_, rfl⟩
    obtain ⟨hx1, hx2⟩ := mxN_ge n m
    have hx3 : mxN n m ≤ 68 := by unfold mxN; split <;> omega
    have l2 : N2 < 1000000000000 := by have := dgN_le (fun k => cf Z n k + cf Y m k) (mxN n m); omega
    rw [hN2] at hA1 hA2
    obtain ⟨N3, hN3⟩ : ∃ j : Nat, dgN (fun k => cf Z n k - cf Y m k) (mxN n m) = j := ⟨_, rfl⟩
    have l3 : N3 < 1000000000000 := by have := dgN_le (fun k => cf Z n k - cf Y m k) (mxN n m); omega
    rw [hN3] at hS1 hS2
    obtain ⟨N4, hN4⟩ : ∃ j : Nat, dgN (fun k => valZ (zx Z n k)) n - 1 = j := ⟨_, rfl⟩
    have l4 : N4 < 1000000000000 := by have := dgN_le (fun k => valZ (zx Z n k)) n; omega
    rw [hN4] at hE1 hE2
    have HC1 := Lib.hid hC1
    have HC2 := Lib.hid hC2
    have HD1 := Lib.hid hD1
    have HD2 := Lib.hid hD2
    have HA1 := Lib.hid hA1
    have HA2 := Lib.hid hA2
    have HS1 := Lib.hid hS1
    have HS2 := Lib.hid hS2
    have HE1 := Lib.hid hE1
    have HE2 := Lib.hid hE2
    have HP1 := Lib.hid hP1
    have HP2 := Lib.hid hP2
    have heq := sstrT (rfl : A = A)
    clear hC1 hC2 hD1 hD2 hA1 hA2 hS1 hS2 hE1 hE2 hP1 hP2 hA hdj hN1 hN2 hN3 hN4 hx1 hx2 hx3 hzx n1 z1 m1 y1 hn hm hg _hz _hy
    go_enter Tryd.func5, Tryd.ntmps5
    go_wp2_with fail
    refine (HGr.out _ HX.out HY.out).mono ?_
    rintro e y1 ⟨rfl, hbc⟩
    dsimp only
    have b_1 := Lib.hid (Hb.out.trans (hbc.mono Hb.out.size))
    have X_1 := Lib.hid (SlAt.mono HX.out (Nat.le_refl _) hbc)
    have Y_1 := Lib.hid (SlAt.mono HY.out (Nat.le_refl _) hbc)
    clear Hb HX HY
    go_wp2_with fail
    refine (HC1.out _ X_1.out).mono ?_
    rintro e y2 ⟨qca, kca, rfl, hrc, hbc⟩
    dsimp only
    have b_2 := Lib.hid (b_1.out.trans (hbc.mono b_1.out.size))
    have X_2 := Lib.hid (SlAt.mono X_1.out (Nat.le_refl _) hbc)
    have Y_2 := Lib.hid (SlAt.mono Y_1.out (Nat.le_refl _) hbc)
    clear b_1 X_1 Y_1
    have ca_2 := Lib.hid (hrc)
    clear hrc
    go_wp2_with fail
    refine (HC2.out _ X_2.out).mono ?_
    rintro e y3 ⟨rca, jca, rfl, hrc, hbc⟩
    dsimp only
    have b_3 := Lib.hid (b_2.out.trans (hbc.mono b_2.out.size))
    have X_3 := Lib.hid (SlAt.mono X_2.out (Nat.le_refl _) hbc)
    have Y_3 := Lib.hid (SlAt.mono Y_2.out (Nat.le_refl _) hbc)
    have ca_3 := Lib.hid (ca_2.out.below (Nat.le_refl _) hbc)
    clear b_2 X_2 Y_2 ca_2
    have car_3 := Lib.hid (hrc)
    clear hrc
    go_wp2_with fail
    refine (sameZs_any _ _ _ _ _ _ _ ca_3.out car_3.out l1).mono ?_
    rintro e y4 ⟨rfl, hbc⟩
    dsimp only
    have b_4 := Lib.hid (b_3.out.trans (hbc.mono b_3.out.size))
    have X_4 := Lib.hid (SlAt.mono X_3.out (Nat.le_refl _) hbc)
    have Y_4 := Lib.hid (SlAt.mono Y_3.out (Nat.le_refl _) hbc)
    clear b_3 X_3 Y_3 ca_3 car_3
    go_wp2_with fail
    refine (HD1.out _ X_4.out).mono ?_
    rintro e y5 ⟨rfl, hbc⟩
    dsimp only
    have b_5 := Lib.hid (b_4.out.trans (hbc.mono b_4.out.size))
    have X_5 := Lib.hid (SlAt.mono X_4.out (Nat.le_refl _) hbc)
    have Y_5 := Lib.hid (SlAt.mono Y_4.out (Nat.le_refl _) hbc)
    clear b_4 X_4 Y_4
    go_wp2_with fail
    refine (HD2.out _ X_5.out).mono ?_
    rintro e y6 ⟨rfl, hbc⟩
    dsimp only
    have b_6 := Lib.hid (b_5.out.trans (hbc.mono b_5.out.size))
    have X_6 := Lib.hid (SlAt.mono X_5.out (Nat.le_refl _) hbc)
    have Y_6 := Lib.hid (SlAt.mono Y_5.out (Nat.le_refl _) hbc)
    clear b_5 X_5 Y_5
    go_wp2_with fail
    refine (HA1.out _ X_6.out Y_6.out).mono ?_
    rintro e y7 ⟨qad, kad, rfl, hrc, hbc⟩
    dsimp only
    have b_7 := Lib.hid (b_6.out.trans (hbc.mono b_6.out.size))
    have X_7 := Lib.hid (SlAt.mono X_6.out (Nat.le_refl _) hbc)
    have Y_7 := Lib.hid (SlAt.mono Y_6.out (Nat.le_refl _) hbc)
    clear b_6 X_6 Y_6
    have ad_7 := Lib.hid (hrc)
    clear hrc
    go_wp2_with fail
    refine (HA2.out _ X_7.out Y_7.out).mono ?_
    rintro e y8 ⟨rad, jad, rfl, hrc, hbc⟩
    dsimp only
    have b_8 := Lib.hid (b_7.out.trans (hbc.mono b_7.out.size))
    have X_8 := Lib.hid (SlAt.mono X_7.out (Nat.le_refl _) hbc)
    have Y_8 := Lib.hid (SlAt.mono Y_7.out (Nat.le_refl _) hbc)
    have ad_8 := Lib.hid (ad_7.out.below (Nat.le_refl _) hbc)
    clear b_7 X_7 Y_7 ad_7
    have adr_8 := Lib.hid (hrc)
    clear hrc
    go_wp2_with fail
    refine (sameZs_any _ _ _ _ _ _ _ ad_8.out adr_8.out l2).mono ?_
    rintro e y9 ⟨rfl, hbc⟩
    dsimp only
    have b_9 := Lib.hid (b_8.out.trans (hbc.mono b_8.out.size))
    have X_9 := Lib.hid (SlAt.mono X_8.out (Nat.le_refl _) hbc)
    have Y_9 := Lib.hid (SlAt.mono Y_8.out (Nat.le_refl _) hbc)
    clear b_8 X_8 Y_8 ad_8 adr_8
    go_wp2_with fail
    refine (HS1.out _ X_9.out Y_9.out).mono ?_
    rintro e y10 ⟨qsu, ksu, rfl, hrc, hbc⟩
    dsimp only
    have b_10 := Lib.hid (b_9.out.trans (hbc.mono b_9.out.size))
    have X_10 := Lib.hid (SlAt.mono X_9.out (Nat.le_refl _) hbc)
    have Y_10 := Lib.hid (SlAt.mono Y_9.out (Nat.le_refl _) hbc)
    clear b_9 X_9 Y_9
    have su_10 := Lib.hid (hrc)
    clear hrc
    go_wp2_with fail
    refine (HS2.out _ X_10.out Y_10.out).mono ?_
    rintro e y11 ⟨rsu, jsu, rfl, hrc, hbc⟩
    dsimp only
    have b_11 := Lib.hid (b_10.out.trans (hbc.mono b_10.out.size))
    have X_11 := Lib.hid (SlAt.mono X_10.out (Nat.le_refl _) hbc)
    have Y_11 := Lib.hid (SlAt.mono Y_10.out (Nat.le_refl _) hbc)
    have su_11 := Lib.hid (su_10.out.below (Nat.le_refl _) hbc)
    clear b_10 X_10 Y_10 su_10
    have sur_11 := Lib.hid (hrc)
    clear hrc
    go_wp2_with fail
    refine (sameZs_any _ _ _ _ _ _ _ su_11.out sur_11.out l3).mono ?_
    rintro e y12 ⟨rfl, hbc⟩
    dsimp only
    have b_12 := Lib.hid (b_11.out.trans (hbc.mono b_11.out.size))
    have X_12 := Lib.hid (SlAt.mono X_11.out (Nat.le_refl _) hbc)
    have Y_12 := Lib.hid (SlAt.mono Y_11.out (Nat.le_refl _) hbc)
    clear b_11 X_11 Y_11 su_11 sur_11
    go_wp2_with fail
    refine (HE1.out _ X_12.out).mono ?_
    rintro e y13 ⟨qde, kde, rfl, hrc, hbc⟩
    dsimp only
    have b_13 := Lib.hid (b_12.out.trans (hbc.mono b_12.out.size))
    have X_13 := Lib.hid (SlAt.mono X_12.out (Nat.le_refl _) hbc)
    have Y_13 := Lib.hid (SlAt.mono Y_12.out (Nat.le_refl _) hbc)
    clear b_12 X_12 Y_12
    have de_13 := Lib.hid (hrc)
    clear hrc
    go_wp2_with fail
    refine (HE2.out _ X_13.out).mono ?_
    rintro e y14 ⟨rde, jde, rfl, hrc, hbc⟩
    dsimp only
    have b_14 := Lib.hid (b_13.out.trans (hbc.mono b_13.out.size))
    have X_14 := Lib.hid (SlAt.mono X_13.out (Nat.le_refl _) hbc)
    have Y_14 := Lib.hid (SlAt.mono Y_13.out (Nat.le_refl _) hbc)
    have de_14 := Lib.hid (de_13.out.below (Nat.le_refl _) hbc)
    clear b_13 X_13 Y_13 de_13
    have der_14 := Lib.hid (hrc)
    clear hrc
    go_wp2_with fail
    refine (sameZs_any _ _ _ _ _ _ _ de_14.out der_14.out l4).mono ?_
    rintro e y15 ⟨rfl, hbc⟩
    dsimp only
    have b_15 := Lib.hid (b_14.out.trans (hbc.mono b_14.out.size))
    have X_15 := Lib.hid (SlAt.mono X_14.out (Nat.le_refl _) hbc)
    have Y_15 := Lib.hid (SlAt.mono Y_14.out (Nat.le_refl _) hbc)
    clear b_14 X_14 Y_14 de_14 der_14
    go_wp2_with fail
    refine (HP1.out _ X_15.out).mono ?_
    rintro e y16 ⟨rfl, hbc⟩
    dsimp only
    have b_16 := Lib.hid (b_15.out.trans (hbc.mono b_15.out.size))
    have X_16 := Lib.hid (SlAt.mono X_15.out (Nat.le_refl _) hbc)
    have Y_16 := Lib.hid (SlAt.mono Y_15.out (Nat.le_refl _) hbc)
    clear b_15 X_15 Y_15
    go_wp2_with fail
    refine (HP2.out _ X_16.out).mono ?_
    rintro e y17 ⟨rfl, hbc⟩
    dsimp only
    have b_17 := Lib.hid (b_16.out.trans (hbc.mono b_16.out.size))
    have X_17 := Lib.hid (SlAt.mono X_16.out (Nat.le_refl _) hbc)
    have Y_17 := Lib.hid (SlAt.mono Y_16.out (Nat.le_refl _) hbc)
    clear b_16 X_16 Y_16
    go_wp2_with fail
    refine (HAw.out _).mono ?_
    rintro e y18 ⟨rfl, hbc⟩
    dsimp only
    have b_18 := Lib.hid (b_17.out.trans (hbc.mono b_17.out.size))
    have X_18 := Lib.hid (SlAt.mono X_17.out (Nat.le_refl _) hbc)
    have Y_18 := Lib.hid (SlAt.mono Y_17.out (Nat.le_refl _) hbc)
    clear b_17 X_17 Y_17
    go_wp2_with fail
    go_ret
    exact ⟨rfl, b_18.out⟩
  · rw [hg] at HGr
    clear hg hn hm _hz _hy
    go_enter Tryd.func5, Tryd.ntmps5
    go_wp2_with fail
    refine (HGr.out _ HX.out HY.out).mono ?_
    rintro e y1 ⟨rfl, hbc⟩
    dsimp only
    have b_1 := Lib.hid (Hb.out.trans (hbc.mono Hb.out.size))
    have X_1 := Lib.hid (SlAt.mono HX.out (Nat.le_refl _) hbc)
    have Y_1 := Lib.hid (SlAt.mono HY.out (Nat.le_refl _) hbc)
    clear Hb HX HY
    go_wp2_with fail
    refine (HAw.out _).mono ?_
    rintro e y2 ⟨rfl, hbc⟩
    dsimp only
    have b_2 := Lib.hid (b_1.out.trans (hbc.mono b_1.out.size))
    have X_2 := Lib.hid (SlAt.mono X_1.out (Nat.le_refl _) hbc)
    have Y_2 := Lib.hid (SlAt.mono Y_1.out (Nat.le_refl _) hbc)
    clear b_1 X_1 Y_1
    go_wp2_with fail
    go_ret
    exact ⟨rfl, b_2.out⟩
end Go.Proofs.YteoemijgdcpopaaDoor
