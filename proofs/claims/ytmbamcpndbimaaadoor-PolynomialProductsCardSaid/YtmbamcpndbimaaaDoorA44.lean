/- grooveref03: gcd, Mul, Divide, Gcd: the walks. -/
import Derived.Test.YtmbamcpndbimaaaDoorA37
import Derived.Test.YtmbamcpndbimaaaDoorA41
import Derived.Test.YtmbamcpndbimaaaDoorA42
import Derived.Test.YtmbamcpndbimaaaDoorA43
namespace Go.Proofs.YtmbamcpndbimaaaDoor
open Go.RowKit Go.Shelf
theorem prC_self {f : Nat → Int} {n : Nat} (h : 0 < n → Prim n f) (hf : ∀ i, n ≤ i → f i = 0) : prC f n = f := by
  funext i
  by_cases hn : 0 < n
  · have h1 := h hn
    have hg : prG f n = 1 := by
      unfold prG
      rw [if_neg (by have := h1.lead; omega), h1.one]; rfl
    unfold prC
    rw [hg, Int.ediv_one]
  · rw [hf i (by omega), prC_zero (hf i (by omega))]
theorem dvS_end {f g : Nat → Int} {n m : Nat} (hm : 0 < m) : (n < m → (dvS f g n m (n + 1 - m)).2 = f) ∧ (¬ n < m → (dvS f g n m (n + 1 - m)).2 = dvR f g n m ∧ dvLR f g n m = dgN (dvR f g n m) n) := by
  refine ⟨fun h => ?_, fun h => ?_⟩
  · rw [show n + 1 - m = 0 by omega]; rfl
  · unfold dvR dvLR
    rw [if_neg h, if_neg h, show n + 1 - m = n - m + 1 by omega]
    exact ⟨rfl, rfl⟩
set_option maxRecDepth 100000 in
set_option maxHeartbeats 8000000 in
theorem refGcd3_any (n m : Nat) (Z Y : Nat → ZI) (p q : Option Addr) (c d : Nat) {e : Nat} (f g : Nat → Int) (n1 m1 : Nat) (hn : n ≤ 900) (hm : m ≤ 900) (hE : e ≤ 70000) (hz : ∀ k, k < n → (Z k).mag.size < 10000000) (hy : ∀ k, k < m → (Y k).mag.size < 10000000) (hfe : ∀ k, cf Z n k = f k) (hge : ∀ k, cf Y m k = g k) (hf : ∀ k, Bn (f k) e) (hg : ∀ k, Bn (g k) e) (hne : dgN f n = n1) (hme : dgN g m = m1) (hB : GAll e m1 n1 (prC f n1) m1 (prC g m1)) (w : World) (hX : GRow w p n Z) (hY : GRow w q m Y) :
    Calls Tryd.prog 28 #[.slice p n c, .slice q m d] w (RetPol (gcS m1 n1 (prC f n1) m1 (prC g m1)).1 (gcS m1 n1 (prC f n1) m1 (prC g m1)).2 w) := by
  have hP1 := refPrim_any n Z p c f n1 (by omega) (by omega) hz hfe hf hne w hX
  have hP2 := fun W (hW : Below w.heap.size w W) => refPrim_any m Y q d g m1 (by omega) (by omega) hy hge hg hme W (SlAt.mono hY (Nat.le_refl _) hW)
  have hn1 : n1 ≤ 900 := by rw [← hne]; exact Nat.le_trans (dgN_le f n) hn
  have hm1 : m1 ≤ 900 := by rw [← hme]; exact Nat.le_trans (dgN_le g m) hm
  have hf0 : ∀ i, n1 ≤ i → f i = 0 := fun i hi => by
    rcases Nat.lt_or_ge i n with h | h
    · exact dgN_over f n i (by omega) h
    · rw [← hfe, cf_out Z n i h]
  have hg0 : ∀ i, m1 ≤ i → g i = 0 := fun i hi => by
    rcases Nat.lt_or_ge i m with h | h
    · exact dgN_over g m i (by omega) h
    · rw [← hge, cf_out Y m i h]
  have htf : 0 < n1 → f (n1 - 1) ≠ 0 := fun h => by rw [← hne] at h ⊢; exact dgN_top f n h
  have htg : 0 < m1 → g (m1 - 1) ≠ 0 := fun h => by rw [← hme] at h ⊢; exact dgN_top g m h
  have hf1 := fun k => prC_bn hf n1 k
  have hg1 := fun k => prC_bn hg m1 k
  have hpf : 0 < n1 → Prim n1 (prC f n1) := fun h => prC_prim h (htf h)
  have hpg : 0 < m1 → Prim m1 (prC g m1) := fun h => prC_prim h (htg h)
  have hf2 : ∀ i, n1 ≤ i → prC f n1 i = 0 := fun i hi => prC_zero (hf0 i hi)
  have hg2 : ∀ i, m1 ≤ i → prC g m1 i = 0 := fun i hi => prC_zero (hg0 i hi)
  have htf1 := fun h => prC_top htf h
  have htg1 := fun h => prC_top htg h
  obtain ⟨f1, hfe1⟩ : ∃ x, prC f n1 = x := ⟨_, rfl⟩
  obtain ⟨g1, hge1⟩ : ∃ x, prC g m1 = x := ⟨_, rfl⟩
  rw [hfe1] at hP1 hf1 hpf hB hf2 htf1 ⊢
  rw [hge1] at hP2 hg1 hpg hB hg2 htg1 ⊢
  obtain ⟨N, hN⟩ : ∃ x, (gcS m1 n1 f1 m1 g1).1 = x := ⟨_, rfl⟩
  obtain ⟨F, hF⟩ : ∃ x, (gcS m1 n1 f1 m1 g1).2 = x := ⟨_, rfl⟩
  have HR := Lib.hid (show gcS m1 n1 f1 m1 g1 = (N, F) from by rw [← hN, ← hF])
  rw [hN, hF]
  have H1 := Lib.hid hP1
  have H2 := Lib.hid hP2
  have Hf1 := Lib.hid hf1
  have Hg1 := Lib.hid hg1
  have Hpf := Lib.hid hpf
  have Hpg := Lib.hid hpg
  have HBb := Lib.hid hB
  have Hf2 := Lib.hid hf2
  have Htf := Lib.hid htf1
  have Htg := Lib.hid htg1
  have Hg2 := Lib.hid hg2
  clear hP1 hP2 hf hg hX hY hfe hge hfe1 hge1 hN hF hf1 hg1 hpf hpg hB hf2 hg2 htf1 htg1 hf0 hg0 htf htg hne hme hz hy
  go_enter Tryd.func28, Tryd.ntmps28
  go_wp2_with fail
  refine H1.out.mono ?_
  rintro e1 w1 ⟨q1, l1, c1, rfl, hr1, hb1⟩
  dsimp only
  have H3 := Lib.hid (H2.out w1 hb1)
  have Hr1 := Lib.hid hr1
  have Hb1 := Lib.hid hb1
  clear hr1 hb1 H1 H2
  go_wp2_with fail
  refine H3.out.mono ?_
  rintro e2 w2 ⟨q2, l2, c2, rfl, hr2, hb2⟩
  dsimp only
  have Ha := Lib.hid (Hr1.out.below hb2)
  have Hb := Lib.hid hr2
  have HW := Lib.hid (Hb1.out.trans (hb2.mono Hb1.out.size))
  clear hr2 hb2 H3 Hr1 Hb1
  have hl1 := Ha.out.len Hf2.out Htf.out
  have hl2 := Hb.out.len Hg2.out Htg.out
  subst hl1 hl2
  go_wp2_with fail
  go_loopw [0, 1] (fun av bv wr => ∃ (k n m : Nat) (f g : Nat → Int) (p q : Option Addr) (c d : Nat), m ≤ k ∧ n ≤ 900 ∧ m ≤ 900 ∧ av = .slice p n c ∧ bv = .slice q m d ∧ Hid (Cn wr p n f) ∧ Hid (Cn wr q m g) ∧ Hid (GAll e k n f m g) ∧ Hid (∀ k, Bn (f k) e) ∧ Hid (∀ k, Bn (g k) e) ∧ Hid (0 < n → Prim n f) ∧ Hid (0 < m → Prim m g) ∧ Hid (gcS k n f m g = (N, F)) ∧ Hid (Below w.heap.size w wr)) (fun _ bv _ => (match bv with | .slice _ m _ => m | _ => 0))
  case atStart => exact ⟨_, _, _, f1, g1, q1, q2, c1, c2, Nat.le_refl _, hn1, hm1, rfl, rfl, Ha, Hb, HBb, Hf1, Hg1, Hpf, Hpg, HR, HW⟩
  case round =>
    clear Ha Hb HBb Hf1 Hg1 Hpf Hpg HR HW hn hm hn1 hm1 Hf2 Hg2 Htf Htg
    obtain ⟨k, n, m, f, g, p, q, c, d, hk, hn, hm, rfl, rfl, Ha, Hb, HBb, Hf, Hg, Hpf, Hpg, HR, HW⟩ := hrel
    have hdg := refDeg3_any m (fun k => canon (g k)) q d (by omega) (fun k _ => Nat.le_trans ((Hg.out k).size 90000000 (by omega)) (by decide)) wr Hb.out.g
    simp only [valZ_canon] at hdg
    rw [show dgN (fun k => g k) m = m from Hb.out.dg (Nat.le_refl _)] at hdg
    have HDg := Lib.hid hdg
    clear hdg
    by_cases hm0 : 0 < m
    · obtain ⟨k, rfl⟩ : ∃ j, k = j + 1 := ⟨k - 1, by omega⟩
      have m0 : (m : Int) - 1 ≥ 0 := by omega
      have hmul : (n + 1 - m) * (e + 1) ≤ 901 * 70001 := Nat.mul_le_mul (by omega) (by omega)
      have hdv := fun W (h1 : Cn W p n f) (h2 : Cn W q m g) => refDivide_any n m (fun k => canon (f k)) (fun k => canon (g k)) p q c d f g n m hn hm hm0 (by omega) (fun k _ => bn_sz (Hf.out k) (by omega)) (fun k _ => bn_sz (Hg.out k) (by omega)) (cf_canon h1) (cf_canon h2) Hf.out Hg.out (h1.dg (Nat.le_refl _)) (h2.dg (Nat.le_refl _)) W h1.g h2.g
      have hrb := fun k => (dvS_bn (n := n) (m := m) Hf.out Hg.out (n + 1 - m)).2 k
      obtain ⟨hE1, hE2⟩ := dvS_end (f := f) (g := g) (n := n) hm0
      have hR0 : ∀ i, n ≤ i → (dvS f g n m (n + 1 - m)).2 i = 0 := fun i hi => by
        by_cases h : n < m
        · rw [hE1 h]; exact Ha.out.out i hi
        · exact dvS_far (by omega) Ha.out.out _ i hi
      have hnext : ∀ l, (∀ i, l ≤ i → (dvS f g n m (n + 1 - m)).2 i = 0) → (0 < l → (dvS f g n m (n + 1 - m)).2 (l - 1) ≠ 0) → l < m ∧ (∀ i, Bn (prC (dvS f g n m (n + 1 - m)).2 l i) e) ∧ GAll e k m g l (prC (dvS f g n m (n + 1 - m)).2 l) ∧ gcS k m g l (prC (dvS f g n m (n + 1 - m)).2 l) = (N, F) := fun l ho ht => by
        have hHR := HR.out
        have hHB := HBb.out
        rw [gcS, if_neg (by omega)] at hHR
        rw [GAll, if_neg (by omega)] at hHB
        by_cases h : n < m
        · rw [if_pos h] at hHR hHB
          rw [hE1 h] at ho ht ⊢
          obtain rfl : l = n := Nat.le_antisymm (Nat.le_of_not_lt fun hh => ht (by omega) (Ha.out.out _ (by omega))) (Nat.le_of_not_lt fun hh => Ha.out.top (by omega) (ho _ (by omega)))
          rw [prC_self Hpf.out Ha.out.out]
          exact ⟨h, Hf.out, hHB, hHR⟩
        · rw [if_neg h] at hHR hHB
          obtain ⟨h1, h2⟩ := hE2 h
          rw [h1] at ho ht hR0 ⊢
          have hln : l ≤ n := Nat.le_of_not_lt fun hh => ht (by omega) (hR0 _ (by omega))
          have h3 : dvLR f g n m = l := by rw [h2]; exact dgN_eq ho ht hln
          rw [h3] at hHR hHB
          exact ⟨by rw [← h3]; exact dvLR_lt hm0 h, hHB.1, hHB.2, hHR⟩
      obtain ⟨R, hRe⟩ : ∃ x, (dvS f g n m (n + 1 - m)).2 = x := ⟨_, rfl⟩
      obtain ⟨Q, hQe⟩ : ∃ x, (dvS f g n m (n + 1 - m)).1 = x := ⟨_, rfl⟩
      rw [hRe, hQe] at hdv
      rw [hRe] at hrb hnext hR0
      obtain ⟨e2, he2⟩ : ∃ x, e + (n + 1 - m) * (e + 1) = x := ⟨_, rfl⟩
      rw [he2] at hrb
      have he3 : e2 ≤ 70000000 := by omega
      have hpr := fun W p l c (h : Cn W p l R) => (refPrim_any l (fun k => canon (R k)) p c R l (by have := (hnext l h.out h.top).1; omega) he3 (fun k _ => bn_sz (hrb k) (by omega)) (cf_canon h) hrb (h.dg (Nat.le_refl _)) W h.g)
      have HDv := Lib.hid hdv
      have HPr := Lib.hid hpr
      have Hnext := Lib.hid hnext
      clear hdv hpr hnext hrb hE1 hE2 hR0 hRe hQe he2 he3 hmul HR HBb Hf Hpf
      go_wp2_with fail
      refine HDg.out.mono ?_
      rintro e2 w2 ⟨rfl, hb2⟩
      dsimp only
      have Ha2 := Lib.hid (Ha.out.below hb2)
      have Hb2 := Lib.hid (Hb.out.below hb2)
      have HW2 := Lib.hid (HW.out.trans (hb2.mono HW.out.size))
      clear hb2 Ha Hb HW HDg
      go_wp2_with fail
      refine (HDv.out _ Ha2.out Hb2.out).mono ?_
      rintro e3 w3 ⟨q3, l3, c3, p3, l, d3, rfl, _, hr3, hb3⟩
      dsimp only
      have HP3 := Lib.hid (HPr.out w3 p3 l d3 hr3)
      obtain ⟨hlm, hbn, hga, hgs⟩ := Hnext.out l hr3.out hr3.top
      have hpo : ∀ i, l ≤ i → prC R l i = 0 := fun i hi => prC_zero (hr3.out i hi)
      have hpt : 0 < l → prC R l (l - 1) ≠ 0 := fun h => prC_top hr3.top h
      have Hpp := Lib.hid (fun h : 0 < l => prC_prim h (hr3.top h))
      have Hpo := Lib.hid hpo
      have Hpt := Lib.hid hpt
      have Hbn := Lib.hid hbn
      have Hga := Lib.hid hga
      have Hgs := Lib.hid hgs
      have Hb3 := Lib.hid (Hb2.out.below hb3)
      have HW3 := Lib.hid (HW2.out.trans (hb3.mono HW2.out.size))
      clear hr3 hb3 HDv HPr Ha2 Hb2 HW2 hbn hga hgs hpo hpt Hnext
      go_wp2_with fail
      refine HP3.out.mono ?_
      rintro e4 w4 ⟨p4, l4, c4, rfl, hr4, hb4⟩
      dsimp only
      obtain rfl := hr4.len Hpo.out Hpt.out
      have Hr4 := Lib.hid hr4
      have Hb4 := Lib.hid (Hb3.out.below hb4)
      have HW4 := Lib.hid (HW3.out.trans (hb4.mono HW3.out.size))
      clear hr4 hb4 HP3 Hb3 HW3
      go_wp2_with fail
      go_roundw
      case rel => exact ⟨k, _, _, g, _, q, p4, d, c4, by omega, hm, by omega, rfl, rfl, Hb4, Hr4, Hga, Hg, Hbn, Hpg, Hpp, Hgs, HW4⟩
      case measure => simp; omega
    · obtain rfl : 0 = m := by omega
      have hHR := HR.out
      rw [gcS_end] at hHR
      cases hHR
      go_wp2_with fail
      refine HDg.out.mono ?_
      rintro e2 w2 ⟨rfl, hb2⟩
      dsimp only
      have Ha2 := Lib.hid (Ha.out.below hb2)
      have HW2 := Lib.hid (HW.out.trans (hb2.mono HW.out.size))
      clear hb2 Ha Hb HW HDg
      go_wp2_with fail
      go_ret
      exact ⟨p, c, rfl, Ha2.out.row, HW2.out⟩
/-- large. -/
theorem large3_any (n : Nat) (Z : Nat → ZI) (p : Option Addr) (c : Nat) (hn : n ≤ 1000000) (hz : ∀ k, k < n → (Z k).mag.size < 10000000) (n1 : Nat) (hne : dgN (fun k => valZ (Z k)) n = n1) (w : World) (hX : GRow w p n Z) :
    Calls Tryd.prog 25 #[.slice p n c] w fun e w' => e = .returned (.bool (decide (65 < n1))) ∧ Below w.heap.size w w' := by
  have hd1 := refDeg3_any n Z p c hn (fun k hk => Nat.le_of_lt (Nat.lt_of_lt_of_le (hz k hk) (by decide))) w hX
  rw [hne] at hd1
  have HD := Lib.hid hd1
  clear hd1 hX hz hne
  have hd : decide (65 < n1) = decide ((64 : Int) < (n1 : Int) - 1) := by
    rw [decide_eq_decide]; omega
  rw [hd]
  clear hd
  go_enter Tryd.func25, Tryd.ntmps25
  go_wp2_with fail
  refine HD.out.mono ?_
  rintro e1 w1 ⟨rfl, hb1⟩
  dsimp only
  have Hb1 := Lib.hid hb1
  clear hb1 HD
  go_wp2_with fail
  go_ret
  exact ⟨rfl, Hb1.out⟩
theorem RetDC.dv {f g : Nat → Int} {n m : Nat} {w w' : World} {e : Ending} (hf : ∀ i, n ≤ i → f i = 0) (h : RetDC (dvS f g n m (n + 1 - m)).1 (dvS f g n m (n + 1 - m)).2 w e w') (htop : 0 < n → f (n - 1) ≠ 0) : RetDv (dvLQ f g n m) (dvLR f g n m) (dvQ f g n m) (dvR f g n m) w e w' := by
  obtain ⟨q, a, c, p, b, d, rfl, h1, h2, hb⟩ := h
  by_cases hnm : n < m
  · have hJ : n + 1 - m = 0 := by omega
    rw [hJ] at h1 h2
    have ha : a = 0 := h1.len (fun i _ => rfl) (fun h => absurd h (by decide))
    have hb2 : b = n := h2.len hf htop
    subst ha hb2
    unfold dvLQ dvLR dvQ dvR
    rw [if_pos hnm, if_pos hnm, if_pos hnm]
    exact ⟨q, c, p, d, rfl, .inl rfl, h2.row, hb⟩
  · have hJ : n + 1 - m = n - m + 1 := by omega
    rw [hJ] at h1 h2
    unfold dvLQ dvLR dvQ dvR
    rw [if_neg hnm, if_neg hnm, if_neg hnm]
    have ha : dgN (dvS f g n m (n - m + 1)).1 (n - m + 1) = a := h1.dg (h1.le fun i hi => dvS_far1 (by omega) _ i (by omega))
    have hb2 : dgN (dvS f g n m (n - m + 1)).2 n = b := h2.dg (h2.le fun i hi => dvS_far (by omega) hf _ i hi)
    rw [ha, hb2]
    exact ⟨q, c, p, d, rfl, h1.row, h2.row, hb⟩
set_option maxRecDepth 100000 in
set_option maxHeartbeats 8000000 in
theorem refMul3_any (n m : Nat) (Z Y : Nat → ZI) (p q : Option Addr) (c d : Nat) {e e' : Nat} (hn : n ≤ 1000) (hm : m ≤ 1000) (he : e ≤ 10000000) (he' : e' ≤ 10000000) (hz : ∀ k, k < n → (Z k).mag.size < 10000000) (hy : ∀ k, k < m → (Y k).mag.size < 10000000) (hf : ∀ k, Bn (valZ (Z k)) e) (hg : ∀ k, Bn (valZ (Y k)) e') (w : World) (hX : GRow w p n Z) (hY : GRow w q m Y) :
    Calls Tryd.prog 7 #[.slice p n c, .slice q m d] w (RetPolE (mulN (fun k => valZ (Z k)) (fun k => valZ (Y k)) n m) (mR (fun k => valZ (Z k)) (fun k => valZ (Y k)) (dgN (fun k => valZ (Y k)) m) (dgN (fun k => valZ (Z k)) n)) (mulC (fun k => valZ (Z k)) (fun k => valZ (Y k)) n m) w) := by
  have hd1 := fun W h => refDeg3_any n Z p c (by omega) (fun k hk => Nat.le_of_lt (Nat.lt_of_lt_of_le (hz k hk) (by decide))) W h
  have hd2 := fun W h => refDeg3_any m Y q d (by omega) (fun k hk => Nat.le_of_lt (Nat.lt_of_lt_of_le (hy k hk) (by decide))) W h
  have htm := fun W h1 h2 => refTimes_any n m Z Y p q c d hn hm he he' hz hy hf hg W h1 h2 _ _ rfl rfl _ _ rfl rfl
  unfold mulN mulC
  obtain ⟨n1, hne⟩ : ∃ k, dgN (fun k => valZ (Z k)) n = k := ⟨_, rfl⟩
  obtain ⟨m1, hme⟩ : ∃ k, dgN (fun k => valZ (Y k)) m = k := ⟨_, rfl⟩
  rw [hne] at hd1 htm ⊢
  rw [hme] at hd2 htm ⊢
  have hn1 : n1 ≤ 1000 := by rw [← hne]; exact Nat.le_trans (dgN_le _ n) hn
  have hm1 : m1 ≤ 1000 := by rw [← hme]; exact Nat.le_trans (dgN_le _ m) hm
  generalize mR (fun k => valZ (Z k)) (fun k => valZ (Y k)) m1 n1 = F at *
  have HD1 := Lib.hid hd1
  have HD2 := Lib.hid hd2
  have HTm := Lib.hid htm
  have HX := Lib.hid hX
  have HY := Lib.hid hY
  clear hd1 hd2 htm hX hY hz hy hf hg hne hme
  obtain ⟨K, hK⟩ : ∃ K, dgN F (n1 + m1 - 1) = K := ⟨_, rfl⟩
  rw [hK] at HTm ⊢
  clear hK
  by_cases h0 : n1 = 0 ∨ m1 = 0
  · rw [if_pos h0] at HTm ⊢
    rw [if_pos h0]
    have hb : (0 ≤ (n1 : Int) - 1 ∧ ¬ 0 ≤ (m1 : Int) - 1) ∨ ¬ 0 ≤ (n1 : Int) - 1 := by omega
    rcases hb with ⟨b1, b2⟩ | b1
    all_goals
      go_enter Tryd.func7, Tryd.ntmps7
      go_wp2_with fail
      refine (HD1.out _ HX.out).mono ?_
      rintro e1 w1 ⟨rfl, hb1⟩
      dsimp only
      have HX1 := Lib.hid (SlAt.mono HX.out (Nat.le_refl _) hb1)
      have HY1 := Lib.hid (SlAt.mono HY.out (Nat.le_refl _) hb1)
      have HB1 := Lib.hid hb1
      clear hb1 HX HY
      go_wp2_with fail
      refine (HD2.out _ HY1.out).mono ?_
      rintro e2 w2 ⟨rfl, hb2⟩
      dsimp only
      have HX2 := Lib.hid (SlAt.mono HX1.out (Nat.le_refl _) hb2)
      have HY2 := Lib.hid (SlAt.mono HY1.out (Nat.le_refl _) hb2)
      have HB2 := Lib.hid (HB1.out.trans (hb2.mono HB1.out.size))
      clear hb2 HX1 HY1 HB1 HD1 HD2
      go_wp2_with fail
      refine (HTm.out _ HX2.out HY2.out).mono ?_
      rintro e3 w3 ⟨q3, c3, rfl, hr3, hb3⟩
      dsimp only
      have HR3 := Lib.hid hr3
      have HB3 := Lib.hid (HB2.out.trans (hb3.mono HB2.out.size))
      clear hr3 hb3
      go_wp2_with fail
      go_ret2
      exact ⟨q3, c3, rfl, HR3.out, HB3.out⟩
  · rw [if_neg h0] at HTm ⊢
    rw [if_neg h0]
    have b1 : 0 ≤ (n1 : Int) - 1 := by omega
    have b2 : 0 ≤ (m1 : Int) - 1 := by omega
    by_cases hbig : 64 + 2 < n1 + m1
    · have b3 : (64 : Int) < (n1 : Int) - 1 + ((m1 : Int) - 1) := by omega
      rw [if_pos hbig, if_pos hbig]
      go_enter Tryd.func7, Tryd.ntmps7
      go_wp2_with fail
      refine (HD1.out _ HX.out).mono ?_
      rintro e1 w1 ⟨rfl, hb1⟩
      dsimp only
      have HX1 := Lib.hid (SlAt.mono HX.out (Nat.le_refl _) hb1)
      have HY1 := Lib.hid (SlAt.mono HY.out (Nat.le_refl _) hb1)
      have HB1 := Lib.hid hb1
      clear hb1 HX HY
      go_wp2_with fail
      refine (HD2.out _ HY1.out).mono ?_
      rintro e2 w2 ⟨rfl, hb2⟩
      dsimp only
      have HX2 := Lib.hid (SlAt.mono HX1.out (Nat.le_refl _) hb2)
      have HY2 := Lib.hid (SlAt.mono HY1.out (Nat.le_refl _) hb2)
      have HB2 := Lib.hid (HB1.out.trans (hb2.mono HB1.out.size))
      clear hb2 HX1 HY1 HB1 HD1 HD2
      go_wp2_with fail
      go_ret2
      exact ⟨none, 0, rfl, .inl rfl, HB2.out⟩
    · have b3 : ¬ (64 : Int) < (n1 : Int) - 1 + ((m1 : Int) - 1) := by omega
      rw [if_neg hbig, if_neg hbig]
      go_enter Tryd.func7, Tryd.ntmps7
      go_wp2_with fail
      refine (HD1.out _ HX.out).mono ?_
      rintro e1 w1 ⟨rfl, hb1⟩
      dsimp only
      have HX1 := Lib.hid (SlAt.mono HX.out (Nat.le_refl _) hb1)
      have HY1 := Lib.hid (SlAt.mono HY.out (Nat.le_refl _) hb1)
      have HB1 := Lib.hid hb1
      clear hb1 HX HY
      go_wp2_with fail
      refine (HD2.out _ HY1.out).mono ?_
      rintro e2 w2 ⟨rfl, hb2⟩
      dsimp only
      have HX2 := Lib.hid (SlAt.mono HX1.out (Nat.le_refl _) hb2)
      have HY2 := Lib.hid (SlAt.mono HY1.out (Nat.le_refl _) hb2)
      have HB2 := Lib.hid (HB1.out.trans (hb2.mono HB1.out.size))
      clear hb2 HX1 HY1 HB1 HD1 HD2
      go_wp2_with fail
      refine (HTm.out _ HX2.out HY2.out).mono ?_
      rintro e3 w3 ⟨q3, c3, rfl, hr3, hb3⟩
      dsimp only
      have HR3 := Lib.hid hr3
      have HB3 := Lib.hid (HB2.out.trans (hb3.mono HB2.out.size))
      clear hr3 hb3
      go_wp2_with fail
      go_ret2
      exact ⟨q3, c3, rfl, HR3.out, HB3.out⟩
set_option maxRecDepth 100000 in
set_option maxHeartbeats 8000000 in
theorem refDivide3_any (n m : Nat) (Z Y : Nat → ZI) (p q : Option Addr) (c d : Nat) {e : Nat} (f g : Nat → Int) (n1 m1 : Nat) (hn : n ≤ 900) (hm : m ≤ 900) (hE : e ≤ 70000) (hz : ∀ k, k < n → (Z k).mag.size < 10000000) (hy : ∀ k, k < m → (Y k).mag.size < 10000000) (hfe : (fun k => valZ (Z k)) = f) (hge : (fun k => valZ (Y k)) = g) (hf0 : ∀ i, n ≤ i → f i = 0) (hg0 : ∀ i, m ≤ i → g i = 0) (hf : ∀ k, Bn (f k) e) (hg : ∀ k, Bn (g k) e) (hne : dgN f n = n1) (hme : dgN g m = m1) (w : World) (hX : GRow w p n Z) (hY : GRow w q m Y) :
    Calls Tryd.prog 9 #[.slice p n c, .slice q m d] w (RetDvE (if dvCode n1 m1 = 0 then dvLQ f g n1 m1 else 0) (if dvCode n1 m1 = 0 then dvLR f g n1 m1 else 0) (dvQ f g n1 m1) (dvR f g n1 m1) (dvCode n1 m1) w) := by
  have hl1 := fun W h => large3_any n Z p c (by omega) hz n1 (by rw [hfe]; exact hne) W h
  have hl2 := fun W h => large3_any m Y q d (by omega) hy m1 (by rw [hge]; exact hme) W h
  have hd2 := fun W h => refDeg3_any m Y q d (by omega) (fun k hk => Nat.le_of_lt (Nat.lt_of_lt_of_le (hy k hk) (by decide))) W h
  rw [hge, hme] at hd2
  have hcf : ∀ k, cf Z n k = f k := fun k => by
    unfold cf
    split
    · rw [← hfe]
    · rw [hf0 k (by omega)]
  have hcg : ∀ k, cf Y m k = g k := fun k => by
    unfold cf
    split
    · rw [← hge]
    · rw [hg0 k (by omega)]
  have hn1 : n1 ≤ n := by rw [← hne]; exact dgN_le f n
  have hm1 : m1 ≤ m := by rw [← hme]; exact dgN_le g m
  have HL1 := Lib.hid hl1
  have HL2 := Lib.hid hl2
  have HD2 := Lib.hid hd2
  have HX := Lib.hid hX
  have HY := Lib.hid hY
  have hmul : (n1 + 1 - m1) * (e + 1) ≤ 901 * 70001 := Nat.mul_le_mul (by omega) (by omega)
  have hf2 : ∀ i, n1 ≤ i → f i = 0 := fun i hi => by
    rcases Nat.lt_or_ge i n with h | h
    · exact dgN_over f n i (by omega) h
    · exact hf0 i h
  have htf : 0 < n1 → f (n1 - 1) ≠ 0 := fun h => by rw [← hne] at h ⊢; exact dgN_top f n h
  have HDv := Lib.hid (fun (h0 : 0 < m1) W h1 h2 => (refDivide_any n m Z Y p q c d f g n1 m1 hn hm h0 (by omega) hz hy hcf hcg hf hg hne hme W h1 h2).mono fun en w' h => h.dv hf2 htf)
  clear hmul hf2 htf
  clear hl1 hl2 hd2 hX hY hz hy hfe hge hf0 hg0 hcf hcg hf hg hne hme
  by_cases h65 : 65 < n1
  · have hcd : dvCode n1 m1 = 4 := if_pos (.inl h65)
    rw [hcd]
    clear hcd
    rw [decide_eq_true h65] at HL1
    go_enter Tryd.func9, Tryd.ntmps9
    go_wp2_with fail
    refine (HL1.out _ HX.out).mono ?_
    rintro e1 w1 ⟨rfl, hb1⟩
    dsimp only
    have HB1 := Lib.hid hb1
    clear hb1 HL1
    go_wp2_with fail
    go_ret3
    exact ⟨none, 0, none, 0, rfl, .inl rfl, .inl rfl, HB1.out⟩
  by_cases k65 : 65 < m1
  · have hcd : dvCode n1 m1 = 4 := if_pos (.inr k65)
    rw [hcd]
    clear hcd
    rw [decide_eq_false h65] at HL1
    rw [decide_eq_true k65] at HL2
    go_enter Tryd.func9, Tryd.ntmps9
    go_wp2_with fail
    refine (HL1.out _ HX.out).mono ?_
    rintro e1 w1 ⟨rfl, hb1⟩
    dsimp only
    have HB1 := Lib.hid hb1
    have HX1 := Lib.hid (SlAt.mono HX.out (Nat.le_refl _) hb1)
    have HY1 := Lib.hid (SlAt.mono HY.out (Nat.le_refl _) hb1)
    clear hb1 HL1 HX HY
    go_wp2_with fail
    refine (HL2.out _ HY1.out).mono ?_
    rintro e2 w2 ⟨rfl, hb2⟩
    dsimp only
    have HB2 := Lib.hid (HB1.out.trans (hb2.mono HB1.out.size))
    have HX2 := Lib.hid (SlAt.mono HX1.out (Nat.le_refl _) hb2)
    have HY2 := Lib.hid (SlAt.mono HY1.out (Nat.le_refl _) hb2)
    clear hb2 HL2 HX1 HY1 HB1
    go_wp2_with fail
    go_ret3
    exact ⟨none, 0, none, 0, rfl, .inl rfl, .inl rfl, HB2.out⟩
  by_cases hm0 : m1 = 0
  · have hcd : dvCode n1 m1 = 9 := by
      unfold dvCode
      rw [if_neg (by omega), if_pos hm0]
    rw [hcd]
    clear hcd
    rw [decide_eq_false h65] at HL1
    rw [decide_eq_false k65] at HL2
    go_enter Tryd.func9, Tryd.ntmps9
    go_wp2_with fail
    refine (HL1.out _ HX.out).mono ?_
    rintro e1 w1 ⟨rfl, hb1⟩
    dsimp only
    have HB1 := Lib.hid hb1
    have HX1 := Lib.hid (SlAt.mono HX.out (Nat.le_refl _) hb1)
    have HY1 := Lib.hid (SlAt.mono HY.out (Nat.le_refl _) hb1)
    clear hb1 HL1 HX HY
    go_wp2_with fail
    refine (HL2.out _ HY1.out).mono ?_
    rintro e2 w2 ⟨rfl, hb2⟩
    dsimp only
    have HB2 := Lib.hid (HB1.out.trans (hb2.mono HB1.out.size))
    have HX2 := Lib.hid (SlAt.mono HX1.out (Nat.le_refl _) hb2)
    have HY2 := Lib.hid (SlAt.mono HY1.out (Nat.le_refl _) hb2)
    clear hb2 HL2 HX1 HY1 HB1
    have b1 : (m1 : Int) - 1 < 0 := by omega
    go_wp2_with fail
    refine (HD2.out _ HY2.out).mono ?_
    rintro e3 w3 ⟨rfl, hb3⟩
    dsimp only
    have HB3 := Lib.hid (HB2.out.trans (hb3.mono HB2.out.size))
    clear hb3
    go_wp2_with fail
    go_ret3
    exact ⟨none, 0, none, 0, rfl, .inl rfl, .inl rfl, HB3.out⟩
  have hcd : dvCode n1 m1 = 0 := by
    unfold dvCode
    rw [if_neg (by omega), if_neg hm0]
  rw [hcd]
  clear hcd
  rw [if_pos rfl, if_pos rfl]
  obtain ⟨LQ, hLQ⟩ : ∃ l, dvLQ f g n1 m1 = l := ⟨_, rfl⟩
  obtain ⟨LR, hLR⟩ : ∃ l, dvLR f g n1 m1 = l := ⟨_, rfl⟩
  rw [hLQ, hLR] at HDv ⊢
  clear hLQ hLR
  rw [decide_eq_false h65] at HL1
  rw [decide_eq_false k65] at HL2
  go_enter Tryd.func9, Tryd.ntmps9
  go_wp2_with fail
  refine (HL1.out _ HX.out).mono ?_
  rintro e1 w1 ⟨rfl, hb1⟩
  dsimp only
  have HB1 := Lib.hid hb1
  have HX1 := Lib.hid (SlAt.mono HX.out (Nat.le_refl _) hb1)
  have HY1 := Lib.hid (SlAt.mono HY.out (Nat.le_refl _) hb1)
  clear hb1 HL1 HX HY
  go_wp2_with fail
  refine (HL2.out _ HY1.out).mono ?_
  rintro e2 w2 ⟨rfl, hb2⟩
  dsimp only
  have HB2 := Lib.hid (HB1.out.trans (hb2.mono HB1.out.size))
  have HX2 := Lib.hid (SlAt.mono HX1.out (Nat.le_refl _) hb2)
  have HY2 := Lib.hid (SlAt.mono HY1.out (Nat.le_refl _) hb2)
  clear hb2 HL2 HX1 HY1 HB1
  have b1 : ¬ (m1 : Int) - 1 < 0 := by omega
  have HDv2 := Lib.hid (HDv.out (by omega))
  go_wp2_with fail
  refine (HD2.out _ HY2.out).mono ?_
  rintro e3 w3 ⟨rfl, hb3⟩
  dsimp only
  have HB3 := Lib.hid (HB2.out.trans (hb3.mono HB2.out.size))
  have HX3 := Lib.hid (SlAt.mono HX2.out (Nat.le_refl _) hb3)
  have HY3 := Lib.hid (SlAt.mono HY2.out (Nat.le_refl _) hb3)
  clear hb3 HX2 HY2 HB2 HD2 HDv
  unfold RetDv at HDv2
  go_wp2_with fail
  refine (HDv2.out _ HX3.out HY3.out).mono ?_
  rintro e4 w4 ⟨q4, c4, p4, d4, rfl, hq4, hr4, hb4⟩
  dsimp only
  have HQ4 := Lib.hid hq4
  have HR4 := Lib.hid hr4
  have HB4 := Lib.hid (HB3.out.trans (hb4.mono HB3.out.size))
  clear hb4 hq4 hr4
  go_wp2_with fail
  go_ret3
  exact ⟨q4, c4, p4, d4, rfl, HQ4.out, HR4.out, HB4.out⟩
set_option maxRecDepth 100000 in
set_option maxHeartbeats 8000000 in
theorem refGcdE3_any (n m : Nat) (Z Y : Nat → ZI) (p q : Option Addr) (c d : Nat) {e : Nat} (f g : Nat → Int) (n1 m1 : Nat) (hn : n ≤ 900) (hm : m ≤ 900) (hE : e ≤ 70000) (hz : ∀ k, k < n → (Z k).mag.size < 10000000) (hy : ∀ k, k < m → (Y k).mag.size < 10000000) (hfe : (fun k => valZ (Z k)) = f) (hge : (fun k => valZ (Y k)) = g) (hf0 : ∀ i, n ≤ i → f i = 0) (hg0 : ∀ i, m ≤ i → g i = 0) (hf : ∀ k, Bn (f k) e) (hg : ∀ k, Bn (g k) e) (hne : dgN f n = n1) (hme : dgN g m = m1) (hB : ¬ 65 < n1 → ¬ 65 < m1 → GAll e m1 n1 (prC f n1) m1 (prC g m1)) (w : World) (hX : GRow w p n Z) (hY : GRow w q m Y) :
    Calls Tryd.prog 11 #[.slice p n c, .slice q m d] w (RetPolE (if gcCode n1 m1 = 0 then (gcR f g n1 m1).1 else 0) (gcR f g n1 m1).2 (gcCode n1 m1) w) := by
  have hl1 := fun W h => large3_any n Z p c (by omega) hz n1 (by rw [hfe]; exact hne) W h
  have hl2 := fun W h => large3_any m Y q d (by omega) hy m1 (by rw [hge]; exact hme) W h
  have hd2 := fun W h => refDeg3_any m Y q d (by omega) (fun k hk => Nat.le_of_lt (Nat.lt_of_lt_of_le (hy k hk) (by decide))) W h
  rw [hge, hme] at hd2
  have hcf : ∀ k, cf Z n k = f k := fun k => by
    unfold cf
    split
    · rw [← hfe]
    · rw [hf0 k (by omega)]
  have hcg : ∀ k, cf Y m k = g k := fun k => by
    unfold cf
    split
    · rw [← hge]
    · rw [hg0 k (by omega)]
  have hn1 : n1 ≤ n := by rw [← hne]; exact dgN_le f n
  have hm1 : m1 ≤ m := by rw [← hme]; exact dgN_le g m
  have HL1 := Lib.hid hl1
  have HL2 := Lib.hid hl2
  have HD2 := Lib.hid hd2
  have HX := Lib.hid hX
  have HY := Lib.hid hY
  have HGc := Lib.hid (fun (h1 : ¬ 65 < n1) (h2 : ¬ 65 < m1) W k1 k2 => refGcd3_any n m Z Y p q c d f g n1 m1 hn hm hE hz hy hcf hcg hf hg hne hme (hB h1 h2) W k1 k2)
  clear hB
  unfold gcR
  obtain ⟨GN, hGN⟩ : ∃ x, (gcS m1 n1 (prC f n1) m1 (prC g m1)).1 = x := ⟨_, rfl⟩
  obtain ⟨GF, hGF⟩ : ∃ x, (gcS m1 n1 (prC f n1) m1 (prC g m1)).2 = x := ⟨_, rfl⟩
  rw [hGN, hGF] at HGc ⊢
  clear hGN hGF
  clear hl1 hl2 hd2 hX hY hz hy hfe hge hf0 hg0 hcf hcg hf hg hne hme
  by_cases h65 : 65 < n1
  · have hcd : gcCode n1 m1 = 4 := if_pos (.inl h65)
    rw [hcd]
    clear hcd
    rw [decide_eq_true h65] at HL1
    go_enter Tryd.func11, Tryd.ntmps11
    go_wp2_with fail
    refine (HL1.out _ HX.out).mono ?_
    rintro e1 w1 ⟨rfl, hb1⟩
    dsimp only
    have HB1 := Lib.hid hb1
    clear hb1 HL1
    go_wp2_with fail
    go_ret2
    exact ⟨none, 0, rfl, .inl rfl, HB1.out⟩
  by_cases k65 : 65 < m1
  · have hcd : gcCode n1 m1 = 4 := if_pos (.inr k65)
    rw [hcd]
    clear hcd
    rw [decide_eq_false h65] at HL1
    rw [decide_eq_true k65] at HL2
    go_enter Tryd.func11, Tryd.ntmps11
    go_wp2_with fail
    refine (HL1.out _ HX.out).mono ?_
    rintro e1 w1 ⟨rfl, hb1⟩
    dsimp only
    have HB1 := Lib.hid hb1
    have HX1 := Lib.hid (SlAt.mono HX.out (Nat.le_refl _) hb1)
    have HY1 := Lib.hid (SlAt.mono HY.out (Nat.le_refl _) hb1)
    clear hb1 HL1 HX HY
    go_wp2_with fail
    refine (HL2.out _ HY1.out).mono ?_
    rintro e2 w2 ⟨rfl, hb2⟩
    dsimp only
    have HB2 := Lib.hid (HB1.out.trans (hb2.mono HB1.out.size))
    have HX2 := Lib.hid (SlAt.mono HX1.out (Nat.le_refl _) hb2)
    have HY2 := Lib.hid (SlAt.mono HY1.out (Nat.le_refl _) hb2)
    clear hb2 HL2 HX1 HY1 HB1
    go_wp2_with fail
    go_ret2
    exact ⟨none, 0, rfl, .inl rfl, HB2.out⟩
  have hcd : gcCode n1 m1 = 0 := if_neg (by omega)
  rw [hcd]
  clear hcd
  rw [if_pos rfl]
  have HGc2 := Lib.hid (HGc.out h65 k65)
  rw [decide_eq_false h65] at HL1
  rw [decide_eq_false k65] at HL2
  go_enter Tryd.func11, Tryd.ntmps11
  go_wp2_with fail
  refine (HL1.out _ HX.out).mono ?_
  rintro e1 w1 ⟨rfl, hb1⟩
  dsimp only
  have HB1 := Lib.hid hb1
  have HX1 := Lib.hid (SlAt.mono HX.out (Nat.le_refl _) hb1)
  have HY1 := Lib.hid (SlAt.mono HY.out (Nat.le_refl _) hb1)
  clear hb1 HL1 HX HY
  go_wp2_with fail
  refine (HL2.out _ HY1.out).mono ?_
  rintro e2 w2 ⟨rfl, hb2⟩
  dsimp only
  have HB2 := Lib.hid (HB1.out.trans (hb2.mono HB1.out.size))
  have HX2 := Lib.hid (SlAt.mono HX1.out (Nat.le_refl _) hb2)
  have HY2 := Lib.hid (SlAt.mono HY1.out (Nat.le_refl _) hb2)
  clear hb2 HL2 HX1 HY1 HB1
  clear HGc HD2
  unfold RetPol at HGc2
  go_wp2_with fail
  refine (HGc2.out _ HX2.out HY2.out).mono ?_
  rintro e4 w4 ⟨q4, c4, rfl, hq4, hb4⟩
  dsimp only
  have HQ4 := Lib.hid hq4
  have HB4 := Lib.hid (HB2.out.trans (hb4.mono HB2.out.size))
  clear hb4 hq4
  go_wp2_with fail
  go_ret2
  exact ⟨q4, c4, rfl, HQ4.out, HB4.out⟩
end Go.Proofs.YtmbamcpndbimaaaDoor
