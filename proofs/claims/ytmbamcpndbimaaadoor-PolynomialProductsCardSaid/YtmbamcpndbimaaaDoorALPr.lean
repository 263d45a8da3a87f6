/- PolynomialProducts: the walk. -/
import Derived.Test.YtmbamcpndbimaaaDoorA7
import Derived.Test.YtmbamcpndbimaaaDoorA25
import Derived.Test.YtmbamcpndbimaaaDoorA44
namespace Go.Proofs.YtmbamcpndbimaaaDoor
open Go.RowKit Go.Shelf
theorem grow_zx {w : World} {p : Option Addr} {n : Nat} {Z : Nat → ZI} (h : GRow w p n Z) : GRow w p n (zx Z n) := by
  have hx : ∀ k, k < n → zx Z n k = Z k := fun k hk => by unfold zx; rw [if_pos hk]
  rcases h with h | ⟨b, off, rfl, hl, hc⟩
  · exact .inl h
  · refine .inr ⟨b, off, rfl, hl, fun k hk j hj => ?_⟩
    rw [hc k hk j hj]
    show _ = some (zg (zx Z n k) j)
    rw [hx k hk]
theorem gcS_bd {B : Nat} : ∀ (k n m : Nat) (f g : Nat → Int), n ≤ B → m ≤ B → (gcS k n f m g).1 ≤ B
  | 0, n, m, f, g, h, _ => h
  | k + 1, n, m, f, g, h1, h2 => by
    rw [gcS]
    by_cases h0 : m = 0
    · rw [if_pos h0]; exact h1
    rw [if_neg h0]
    by_cases h : n < m
    · rw [if_pos h]; exact gcS_bd k m n g f h2 h1
    · rw [if_neg h]
      have := dvLR_lt (f := f) (g := g) (show 0 < m by omega) h
      exact gcS_bd k m _ g _ h2 (by omega)
theorem zx_small {Z : Nat → ZI} {n : Nat} (hz : ∀ k, k < n → (Z k).mag.size ≤ 3) (k : Nat) : (zx Z n k).mag.size ≤ 3 := by
  unfold zx
  split
  · exact hz k (by assumption)
  · decide
theorem zx_out {Z : Nat → ZI} {n : Nat} (k : Nat) (h : n ≤ k) : valZ (zx Z n k) = 0 := by
  unfold zx
  rw [if_neg (by omega)]; rfl
theorem mulN_bd {f g : Nat → Int} {n m : Nat} : mulN f g n m ≤ n + m := by
  unfold mulN
  have h1 := dgN_le f n
  have h2 := dgN_le g m
  split
  · omega
  · split
    · omega
    · have := dgN_le (mR f g (dgN g m) (dgN f n)) (dgN f n + dgN g m - 1); omega
theorem dvLQ_bd {f g : Nat → Int} {n m : Nat} : dvLQ f g n m ≤ n + 1 := by
  unfold dvLQ
  split
  · omega
  · have := dgN_le (dvS f g n m (n - m + 1)).1 (n - m + 1); omega
theorem dvLR_bd {f g : Nat → Int} {n m : Nat} : dvLR f g n m ≤ n := by
  unfold dvLR
  split
  · omega
  · exact dgN_le _ _
theorem if_bd {c : Prop} [Decidable c] {a B : Nat} (h : a ≤ B) : (if c then a else 0) ≤ B := by
  split
  · exact h
  · omega
set_option maxRecDepth 100000 in
set_option maxHeartbeats 8000000 in
theorem lawProducts (p : Option Addr) (n c : Nat) (Z : Nat → ZI) (q : Option Addr) (m d : Nat) (Y : Nat → ZI) (w : World) (hX : GRow w p n Z) (hn : n ≤ maxLen) (_hz : ∀ k, k < n → (Z k).mag.size ≤ maxLen) (hY : GRow w q m Y) (hm : m ≤ maxLen) (_hy : ∀ k, k < m → (Y k).mag.size ≤ maxLen) :
    Calls Tryd.prog 3 #[.slice p n c, .slice q m d] w (RetB true w) := by
  have HX := Lib.hid hX
  have HY := Lib.hid hY
  have Hb : Hid (Below w.heap.size w w) := Lib.hid (Below.refl _ _)
  have HAw := Lib.hid (fun W => awake_any W)
  have HGr := Lib.hid (fun W h1 h2 => great2_any W p q n m c d Z Y h1 h2 hn hm)
  clear hX hY
  cases hg : (gtP n Z || gtP m Y)
  · rw [hg] at HGr
    rw [Bool.or_eq_false_iff] at hg
    obtain ⟨n1, z1⟩ := gtP_false hg.1
    obtain ⟨m1, y1⟩ := gtP_false hg.2
    have zs := zx_small z1
    have ys := zx_small y1
    have bz := fun k => bn_24 (zs k)
    have by_ := fun k => bn_24 (ys k)
    have z0 : ∀ k, n ≤ k → valZ (zx Z n k) = 0 := fun k hk => zx_out k hk
    have y0 : ∀ k, m ≤ k → valZ (zx Y m k) = 0 := fun k hk => zx_out k hk
    have hM1 := fun W (h1 : GRow W p n Z) (h2 : GRow W q m Y) => pMul_any n m (zx Z n) (zx Y m) p q c d (e := 24) (e' := 24) (by omega) (by omega) (by decide) (by decide) (fun k _ => by have := zs k; omega) (fun k _ => by have := ys k; omega) bz by_ W (grow_zx h1) (grow_zx h2)
    have hM2 := fun W (h1 : GRow W p n Z) (h2 : GRow W q m Y) => refMul3_any n m (zx Z n) (zx Y m) p q c d (e := 24) (e' := 24) (by omega) (by omega) (by decide) (by decide) (fun k _ => by have := zs k; omega) (fun k _ => by have := ys k; omega) bz by_ W (grow_zx h1) (grow_zx h2)
    have lM := mulN_bd (f := fun k => valZ (zx Z n k)) (g := fun k => valZ (zx Y m k)) (n := n) (m := m)
    obtain ⟨f, hf⟩ : ∃ f, (fun k => valZ (zx Z n k)) = f := ⟨_, rfl⟩
    obtain ⟨g, hg2⟩ : ∃ f, (fun k => valZ (zx Y m k)) = f := ⟨_, rfl⟩
    have fz : ∀ k, n ≤ k → f k = 0 := fun k hk => by rw [← hf]; exact z0 k hk
    have gz : ∀ k, m ≤ k → g k = 0 := fun k hk => by rw [← hg2]; exact y0 k hk
    have bf : ∀ k, Bn (f k) 24 := fun k => by rw [← hf]; exact bz k
    have bg : ∀ k, Bn (g k) 24 := fun k => by rw [← hg2]; exact by_ k
    have hD1 := fun W (h1 : GRow W p n Z) (h2 : GRow W q m Y) => pDivide_any n m (zx Z n) (zx Y m) p q c d (e := 24) (by omega) (by omega) (fun k _ => by have := zs k; omega) (fun k _ => by have := ys k; omega) bz by_ (by decide) W (grow_zx h1) (grow_zx h2) f g hf hg2 _ _ rfl rfl
    have hD2 := fun W (h1 : GRow W p n Z) (h2 : GRow W q m Y) => refDivide3_any n m (zx Z n) (zx Y m) p q c d (e := 24) f g _ _ (by omega) (by omega) (by decide) (fun k _ => by have := zs k; omega) (fun k _ => by have := ys k; omega) hf hg2 fz gz bf bg rfl rfl W (grow_zx h1) (grow_zx h2)
    have hga := gall_zx n1 m1 bf bg fz gz rfl rfl
    have hG1 := fun W (h1 : GRow W p n Z) (h2 : GRow W q m Y) => pGcdE_any n m (zx Z n) (zx Y m) p q c d (e := 6600) (by omega) (by omega) (fun k _ => by have := zs k; omega) (fun k _ => by have := ys k; omega) (fun k => (bz k).up (by decide)) (fun k => (by_ k).up (by decide)) W (grow_zx h1) (grow_zx h2) f g hf hg2 _ _ rfl rfl (by decide) (fun _ _ => hga)
    have hG2 := fun W (h1 : GRow W p n Z) (h2 : GRow W q m Y) => refGcdE3_any n m (zx Z n) (zx Y m) p q c d (e := 6600) f g _ _ (by omega) (by omega) (by decide) (fun k _ => by have := zs k; omega) (fun k _ => by have := ys k; omega) hf hg2 fz gz (fun k => (bf k).up (by decide)) (fun k => (bg k).up (by decide)) rfl rfl (fun _ _ => hga) W (grow_zx h1) (grow_zx h2)
    have dn := dgN_le f n
    have dm := dgN_le g m
    obtain ⟨N1, hN1⟩ : ∃ k, dgN f n = k := ⟨_, rfl⟩
    obtain ⟨M1, hM1e⟩ : ∃ k, dgN g m = k := ⟨_, rfl⟩
    rw [hN1] at dn hD1 hD2 hG1 hG2
    rw [hM1e] at dm hD1 hD2 hG1 hG2
    have lQ := if_bd (c := dvCode N1 M1 = 0) (dvLQ_bd (f := f) (g := g) (n := N1) (m := M1))
    have lR := if_bd (c := dvCode N1 M1 = 0) (dvLR_bd (f := f) (g := g) (n := N1) (m := M1))
    have lG := if_bd (c := gcCode N1 M1 = 0) (show (gcR f g N1 M1).1 ≤ 100 from gcS_bd _ _ _ _ _ (by omega) (by omega))
    obtain ⟨LQ, eQ⟩ : ∃ k, (if dvCode N1 M1 = 0 then dvLQ f g N1 M1 else 0) = k := ⟨_, rfl⟩
    obtain ⟨LR, eR⟩ : ∃ k, (if dvCode N1 M1 = 0 then dvLR f g N1 M1 else 0) = k := ⟨_, rfl⟩
    obtain ⟨LG, eG⟩ : ∃ k, (if gcCode N1 M1 = 0 then (gcR f g N1 M1).1 else 0) = k := ⟨_, rfl⟩
    obtain ⟨CD, eC⟩ : ∃ k, dvCode N1 M1 = k := ⟨_, rfl⟩
    obtain ⟨CG, eD⟩ : ∃ k, gcCode N1 M1 = k := ⟨_, rfl⟩
    rw [eQ, eR, eC] at hD1 hD2
    rw [eG, eD] at hG1 hG2
    rw [eQ] at lQ
    rw [eR] at lR
    rw [eG] at lG
    rw [hf, hg2] at hM1 hM2 lM
    obtain ⟨LM, eM⟩ : ∃ k, mulN f g n m = k := ⟨_, rfl⟩
    obtain ⟨CM, eN⟩ : ∃ k, mulC f g n m = k := ⟨_, rfl⟩
    rw [eM, eN] at hM1 hM2
    rw [eM] at lM
    generalize mR f g (dgN g m) (dgN f n) = FM at *
    generalize dvQ f g N1 M1 = FQ at *
    generalize dvR f g N1 M1 = FR at *
    generalize (gcR f g N1 M1).2 = FG at *
    have l1 : LM < 1000000000000 := by omega
    have l2 : LQ < 1000000000000 := by omega
    have l3 : LR < 1000000000000 := by omega
    have l4 : LG < 1000000000000 := by omega
    unfold RetPolE at hM1 hM2 hG1 hG2
    unfold RetDvE at hD1 hD2
    have HM1 := Lib.hid hM1
    have HM2 := Lib.hid hM2
    have HD1 := Lib.hid hD1
    have HD2 := Lib.hid hD2
    have HG1 := Lib.hid hG1
    have HG2 := Lib.hid hG2
    clear hM1 hM2 hD1 hD2 hG1 hG2 hga hf hg2 hN1 hM1e fz gz bf bg z0 y0 zs ys bz by_ z1 y1 n1 m1 hn hm hg _hz _hy eQ eR eG eC eD eM eN lQ lR lG lM dn dm
    go_enter Tryd.func3, Tryd.ntmps3
    go_wp2_with fail
    refine (HGr.out _ HX.out HY.out).mono ?_
    rintro e y1 ⟨rfl, hbc⟩
    dsimp only
    have b_1 := Lib.hid (Hb.out.trans (hbc.mono Hb.out.size))
    have X_1 := Lib.hid (SlAt.mono HX.out (Nat.le_refl _) hbc)
    have Y_1 := Lib.hid (SlAt.mono HY.out (Nat.le_refl _) hbc)
    clear Hb HX HY
    go_wp2_with fail
    refine (HM1.out _ X_1.out Y_1.out).mono ?_
    rintro e y2 ⟨q1, k1, rfl, hrc, hbc⟩
    dsimp only
    have b_2 := Lib.hid (b_1.out.trans (hbc.mono b_1.out.size))
    have X_2 := Lib.hid (SlAt.mono X_1.out (Nat.le_refl _) hbc)
    have Y_2 := Lib.hid (SlAt.mono Y_1.out (Nat.le_refl _) hbc)
    clear b_1 X_1 Y_1
    have a_2 := Lib.hid (hrc)
    clear hrc
    go_wp2_with fail
    refine (HM2.out _ X_2.out Y_2.out).mono ?_
    rintro e y3 ⟨q2, k2, rfl, hrc, hbc⟩
    dsimp only
    have b_3 := Lib.hid (b_2.out.trans (hbc.mono b_2.out.size))
    have X_3 := Lib.hid (SlAt.mono X_2.out (Nat.le_refl _) hbc)
    have Y_3 := Lib.hid (SlAt.mono Y_2.out (Nat.le_refl _) hbc)
    have a_3 := Lib.hid (a_2.out.below (Nat.le_refl _) hbc)
    clear b_2 X_2 Y_2 a_2
    have b2_3 := Lib.hid (hrc)
    clear hrc
    go_wp2_with fail
    refine (HD1.out _ X_3.out Y_3.out).mono ?_
    rintro e y4 ⟨q3, k3, q4, k4, rfl, hrc, hrd, hbc⟩
    dsimp only
    have b_4 := Lib.hid (b_3.out.trans (hbc.mono b_3.out.size))
    have X_4 := Lib.hid (SlAt.mono X_3.out (Nat.le_refl _) hbc)
    have Y_4 := Lib.hid (SlAt.mono Y_3.out (Nat.le_refl _) hbc)
    have a_4 := Lib.hid (a_3.out.below (Nat.le_refl _) hbc)
    have b2_4 := Lib.hid (b2_3.out.below (Nat.le_refl _) hbc)
    clear b_3 X_3 Y_3 a_3 b2_3
    have c_4 := Lib.hid (hrc)
    have d_4 := Lib.hid (hrd)
    clear hrc hrd
    go_wp2_with fail
    refine (HD2.out _ X_4.out Y_4.out).mono ?_
    rintro e y5 ⟨q5, k5, q6, k6, rfl, hrc, hrd, hbc⟩
    dsimp only
    have b_5 := Lib.hid (b_4.out.trans (hbc.mono b_4.out.size))
    have X_5 := Lib.hid (SlAt.mono X_4.out (Nat.le_refl _) hbc)
    have Y_5 := Lib.hid (SlAt.mono Y_4.out (Nat.le_refl _) hbc)
    have a_5 := Lib.hid (a_4.out.below (Nat.le_refl _) hbc)
    have b2_5 := Lib.hid (b2_4.out.below (Nat.le_refl _) hbc)
    have c_5 := Lib.hid (c_4.out.below (Nat.le_refl _) hbc)
    have d_5 := Lib.hid (d_4.out.below (Nat.le_refl _) hbc)
    clear b_4 X_4 Y_4 a_4 b2_4 c_4 d_4
    have e_5 := Lib.hid (hrc)
    have f_5 := Lib.hid (hrd)
    clear hrc hrd
    go_wp2_with fail
    refine (HG1.out _ X_5.out Y_5.out).mono ?_
    rintro e y6 ⟨q7, k7, rfl, hrc, hbc⟩
    dsimp only
    have b_6 := Lib.hid (b_5.out.trans (hbc.mono b_5.out.size))
    have X_6 := Lib.hid (SlAt.mono X_5.out (Nat.le_refl _) hbc)
    have Y_6 := Lib.hid (SlAt.mono Y_5.out (Nat.le_refl _) hbc)
    have a_6 := Lib.hid (a_5.out.below (Nat.le_refl _) hbc)
    have b2_6 := Lib.hid (b2_5.out.below (Nat.le_refl _) hbc)
    have c_6 := Lib.hid (c_5.out.below (Nat.le_refl _) hbc)
    have d_6 := Lib.hid (d_5.out.below (Nat.le_refl _) hbc)
    have e_6 := Lib.hid (e_5.out.below (Nat.le_refl _) hbc)
    have f_6 := Lib.hid (f_5.out.below (Nat.le_refl _) hbc)
    clear b_5 X_5 Y_5 a_5 b2_5 c_5 d_5 e_5 f_5
    have g_6 := Lib.hid (hrc)
    clear hrc
    go_wp2_with fail
    refine (HG2.out _ X_6.out Y_6.out).mono ?_
    rintro e y7 ⟨q8, k8, rfl, hrc, hbc⟩
    dsimp only
    have b_7 := Lib.hid (b_6.out.trans (hbc.mono b_6.out.size))
    have X_7 := Lib.hid (SlAt.mono X_6.out (Nat.le_refl _) hbc)
    have Y_7 := Lib.hid (SlAt.mono Y_6.out (Nat.le_refl _) hbc)
    have a_7 := Lib.hid (a_6.out.below (Nat.le_refl _) hbc)
    have b2_7 := Lib.hid (b2_6.out.below (Nat.le_refl _) hbc)
    have c_7 := Lib.hid (c_6.out.below (Nat.le_refl _) hbc)
    have d_7 := Lib.hid (d_6.out.below (Nat.le_refl _) hbc)
    have e_7 := Lib.hid (e_6.out.below (Nat.le_refl _) hbc)
    have f_7 := Lib.hid (f_6.out.below (Nat.le_refl _) hbc)
    have g_7 := Lib.hid (g_6.out.below (Nat.le_refl _) hbc)
    clear b_6 X_6 Y_6 a_6 b2_6 c_6 d_6 e_6 f_6 g_6
    have h_7 := Lib.hid (hrc)
    clear hrc
    go_wp2_with fail
    refine (sameZs_any _ _ _ _ _ _ _ a_7.out b2_7.out l1).mono ?_
    rintro e y8 ⟨rfl, hbc⟩
    dsimp only
    have b_8 := Lib.hid (b_7.out.trans (hbc.mono b_7.out.size))
    have X_8 := Lib.hid (SlAt.mono X_7.out (Nat.le_refl _) hbc)
    have Y_8 := Lib.hid (SlAt.mono Y_7.out (Nat.le_refl _) hbc)
    have c_8 := Lib.hid (c_7.out.below (Nat.le_refl _) hbc)
    have d_8 := Lib.hid (d_7.out.below (Nat.le_refl _) hbc)
    have e_8 := Lib.hid (e_7.out.below (Nat.le_refl _) hbc)
    have f_8 := Lib.hid (f_7.out.below (Nat.le_refl _) hbc)
    have g_8 := Lib.hid (g_7.out.below (Nat.le_refl _) hbc)
    have h_8 := Lib.hid (h_7.out.below (Nat.le_refl _) hbc)
    clear b_7 X_7 Y_7 a_7 b2_7 c_7 d_7 e_7 f_7 g_7 h_7
    go_wp2_with fail
    refine (sameZs_any _ _ _ _ _ _ _ c_8.out e_8.out l2).mono ?_
    rintro e y9 ⟨rfl, hbc⟩
    dsimp only
    have b_9 := Lib.hid (b_8.out.trans (hbc.mono b_8.out.size))
    have X_9 := Lib.hid (SlAt.mono X_8.out (Nat.le_refl _) hbc)
    have Y_9 := Lib.hid (SlAt.mono Y_8.out (Nat.le_refl _) hbc)
    have d_9 := Lib.hid (d_8.out.below (Nat.le_refl _) hbc)
    have f_9 := Lib.hid (f_8.out.below (Nat.le_refl _) hbc)
    have g_9 := Lib.hid (g_8.out.below (Nat.le_refl _) hbc)
    have h_9 := Lib.hid (h_8.out.below (Nat.le_refl _) hbc)
    clear b_8 X_8 Y_8 c_8 d_8 e_8 f_8 g_8 h_8
    go_wp2_with fail
    refine (sameZs_any _ _ _ _ _ _ _ d_9.out f_9.out l3).mono ?_
    rintro e y10 ⟨rfl, hbc⟩
    dsimp only
    have b_10 := Lib.hid (b_9.out.trans (hbc.mono b_9.out.size))
    have X_10 := Lib.hid (SlAt.mono X_9.out (Nat.le_refl _) hbc)
    have Y_10 := Lib.hid (SlAt.mono Y_9.out (Nat.le_refl _) hbc)
    have g_10 := Lib.hid (g_9.out.below (Nat.le_refl _) hbc)
    have h_10 := Lib.hid (h_9.out.below (Nat.le_refl _) hbc)
    clear b_9 X_9 Y_9 d_9 f_9 g_9 h_9
    go_wp2_with fail
    refine (sameZs_any _ _ _ _ _ _ _ g_10.out h_10.out l4).mono ?_
    rintro e y11 ⟨rfl, hbc⟩
    dsimp only
    have b_11 := Lib.hid (b_10.out.trans (hbc.mono b_10.out.size))
    have X_11 := Lib.hid (SlAt.mono X_10.out (Nat.le_refl _) hbc)
    have Y_11 := Lib.hid (SlAt.mono Y_10.out (Nat.le_refl _) hbc)
    clear b_10 X_10 Y_10 g_10 h_10
    go_wp2_with fail
    refine (HAw.out _).mono ?_
    rintro e y12 ⟨rfl, hbc⟩
    dsimp only
    have b_12 := Lib.hid (b_11.out.trans (hbc.mono b_11.out.size))
    have X_12 := Lib.hid (SlAt.mono X_11.out (Nat.le_refl _) hbc)
    have Y_12 := Lib.hid (SlAt.mono Y_11.out (Nat.le_refl _) hbc)
    clear b_11 X_11 Y_11
    go_wp2_with fail
    go_ret
    exact ⟨rfl, b_12.out⟩
  · rw [hg] at HGr
    clear hg hn hm _hz _hy
    go_enter Tryd.func3, Tryd.ntmps3
    go_wp2_with fail
    refine (HGr.out _ HX.out HY.out).mono ?_
    rintro e y1 ⟨rfl, hbc⟩
    dsimp only
    have b_1 := Lib.hid (Hb.out.trans (hbc.mono Hb.out.size))
    have X_1 := Lib.hid (SlAt.mono HX.out (Nat.le_refl _) hbc)
    have Y_1 := Lib.hid (SlAt.mono HY.out (Nat.le_refl _) hbc)
    clear Hb HX HY
    go_wp2_with fail
    refine (HAw.out _).mono ?_
    rintro e y2 ⟨rfl, hbc⟩
    dsimp only
    have b_2 := Lib.hid (b_1.out.trans (hbc.mono b_1.out.size))
    have X_2 := Lib.hid (SlAt.mono X_1.out (Nat.le_refl _) hbc)
    have Y_2 := Lib.hid (SlAt.mono Y_1.out (Nat.le_refl _) hbc)
    clear b_1 X_1 Y_1
    go_wp2_with fail
    go_ret
    exact ⟨rfl, b_2.out⟩
end Go.Proofs.YtmbamcpndbimaaaDoor
