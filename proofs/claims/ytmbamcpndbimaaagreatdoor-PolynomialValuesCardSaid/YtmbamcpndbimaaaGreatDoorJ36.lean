/- grooveref03.Times: the walk. -/
import Derived.Test.YtmbamcpndbimaaaGreatDoorJ30
import Derived.Test.YtmbamcpndbimaaaGreatDoorJ31
import Derived.Test.YtmbamcpndbimaaaGreatDoorJ35
import Derived.Test.YtmbamcpndbimaaaGreatDoorJ23
import Derived.Test.YtmbamcpndbimaaaGreatDoorJ17
namespace Go.Proofs.YtmbamcpndbimaaaGreatDoor
open Go.RowKit Go.Shelf
open Go.RowKit Go.Shelf
theorem prC_self {f : Nat → Int} {n : Nat} (h : 0 < n → Prim n f) (hf : ∀ i, n ≤ i → f i = 0) : prC f n = f := by
 funext i
 by_cases hn : 0 < n
 ·have h1 := h hn
  have hg : prG f n = 1 := by
   unfold prG
   rw [if_neg (by have := h1.lead; omega), h1.one]; rfl
  unfold prC
  rw [hg, Int.ediv_one]
 ·rw [hf i (by omega), prC_zero (hf i (by omega))]
theorem dvS_end {f g : Nat → Int} {n m : Nat} (hm : 0 < m) : (n < m → (dvS f g n m (n + 1 - m)).2 = f) ∧ (¬ n < m → (dvS f g n m (n + 1 - m)).2 = dvR f g n m ∧ dvLR f g n m = dgN (dvR f g n m) n) := by
 refine ⟨fun h => ?_, fun h => ?_⟩
 ·rw [show n + 1 - m = 0 by omega]; rfl
 ·unfold dvR dvLR
  rw [if_neg h, if_neg h, show n + 1 - m = n - m + 1 by omega]
  exact ⟨rfl, rfl⟩
def RetCn (N : Nat) (F : Nat → Int) (w : World) (e : Ending) (w' : World) : Prop := ∃ q c, e = .returned (.slice q N c) ∧ Cn w' q N F ∧ Below w.heap.size w w'
set_option maxRecDepth 100000 in
set_option maxHeartbeats 8000000 in
theorem refGcd3_any (n m : Nat) (Z Y : Nat → ZI) (p q : Option Addr) (c d : Nat) {e : Nat} (f g : Nat → Int) (n1 m1 : Nat) (hn : n ≤ 900) (hm : m ≤ 900) (hE : e ≤ 70000) (hz : ∀ k, k < n → (Z k).mag.size < 10000000) (hy : ∀ k, k < m → (Y k).mag.size < 10000000) (hfe : ∀ k, cf Z n k = f k) (hge : ∀ k, cf Y m k = g k) (hf : ∀ k, Bn (f k) e) (hg : ∀ k, Bn (g k) e) (hne : dgN f n = n1) (hme : dgN g m = m1) (hB : GAll e m1 n1 (prC f n1) m1 (prC g m1)) (w : World) (hX : GRow w p n Z) (hY : GRow w q m Y) :
  Calls Tryz.prog 34 #[.slice p n c, .slice q m d] w (RetCn (gcS m1 n1 (prC f n1) m1 (prC g m1)).1 (gcS m1 n1 (prC f n1) m1 (prC g m1)).2 w) := by
 have hP1 := refPrim_any n Z p c f n1 (by omega) (by omega) hz hfe hf hne w hX
 have hP2 := fun W (hW : Below w.heap.size w W) => refPrim_any m Y q d g m1 (by omega) (by omega) hy hge hg hme W (SlAt.mono hY (Nat.le_refl _) hW)
 have hn1 : n1 ≤ 900 := by rw [← hne]; exact Nat.le_trans (dgN_le f n) hn
 have hm1 : m1 ≤ 900 := by rw [← hme]; exact Nat.le_trans (dgN_le g m) hm
 have hf0 : ∀ i, n1 ≤ i → f i = 0 := fun i hi => by
  rcases Nat.lt_or_ge i n with h | h
  ·exact dgN_over f n i (by omega) h
  ·rw [← hfe, cf_out Z n i h]
 have hg0 : ∀ i, m1 ≤ i → g i = 0 := fun i hi => by
  rcases Nat.lt_or_ge i m with h | h
  ·exact dgN_over g m i (by omega) h
  ·rw [← hge, cf_out Y m i h]
 have htf : 0 < n1 → f (n1 - 1) ≠ 0 := fun h => by rw [← hne] at h ⊢; exact dgN_top f n h
 have htg : 0 < m1 → g (m1 - 1) ≠ 0 := fun h => by rw [← hme] at h ⊢; exact dgN_top g m h
 have hf1 := fun k => prC_bn hf n1 k
 have hg1 := fun k => prC_bn hg m1 k
 have hpf : 0 < n1 → Prim n1 (prC f n1) := fun h => prC_prim h (htf h)
 have hpg : 0 < m1 → Prim m1 (prC g m1) := fun h => prC_prim h (htg h)
 have hf2 : ∀ i, n1 ≤ i → prC f n1 i = 0 := fun i hi => prC_zero (hf0 i hi)
 have hg2 : ∀ i, m1 ≤ i → prC g m1 i = 0 := fun i hi => prC_zero (hg0 i hi)
 have htf1 := fun h => prC_top htf h
 have htg1 := fun h => prC_top htg h
 obtain ⟨f1, hfe1⟩ : ∃ x, prC f n1 = x := ⟨_, rfl⟩
 obtain ⟨g1, hge1⟩ : ∃ x, prC g m1 = x := ⟨_, rfl⟩
 rw [hfe1] at hP1 hf1 hpf hB hf2 htf1 ⊢
 rw [hge1] at hP2 hg1 hpg hB hg2 htg1 ⊢
 obtain ⟨N, hN⟩ : ∃ x, (gcS m1 n1 f1 m1 g1).1 = x := ⟨_, rfl⟩
 obtain ⟨F, hF⟩ : ∃ x, (gcS m1 n1 f1 m1 g1).2 = x := ⟨_, rfl⟩
 have HR := lhd (show gcS m1 n1 f1 m1 g1 = (N, F) from by rw [← hN, ← hF])
 rw [hN, hF]
 have H1 := lhd hP1
 have H2 := lhd hP2
 have Hf1 := lhd hf1
 have Hg1 := lhd hg1
 have Hpf := lhd hpf
 have Hpg := lhd hpg
 have HBb := lhd hB
 have Hf2 := lhd hf2
 have Htf := lhd htf1
 have Htg := lhd htg1
 have Hg2 := lhd hg2
 clear hP1 hP2 hf hg hX hY hfe hge hfe1 hge1 hN hF hf1 hg1 hpf hpg hB hf2 hg2 htf1 htg1 hf0 hg0 htf htg hne hme hz hy
 go_enter Tryz.func34, Tryz.ntmps34
 go_wp2_with fail
 refine H1.out.mono ?_
 rintro e1 w1 ⟨q1, l1, c1, rfl, hr1, hb1⟩
 dsimp only
 have H3 := lhd (H2.out w1 hb1)
 have Hr1 := lhd hr1
 have Hb1 := lhd hb1
 clear hr1 hb1 H1 H2
 go_wp2_with fail
 refine H3.out.mono ?_
 rintro e2 w2 ⟨q2, l2, c2, rfl, hr2, hb2⟩
 dsimp only
 have Ha := lhd (Hr1.out.below hb2)
 have Hb := lhd hr2
 have HW := lhd (Hb1.out.trans (hb2.mono Hb1.out.size))
 clear hr2 hb2 H3 Hr1 Hb1
 have hl1 := Ha.out.len Hf2.out Htf.out
 have hl2 := Hb.out.len Hg2.out Htg.out
 subst hl1 hl2
 go_wp2_with fail
 go_loopw [0, 1] (fun av bv wr => ∃ (k n m : Nat) (f g : Nat → Int) (p q : Option Addr) (c d : Nat), m ≤ k ∧ n ≤ 900 ∧ m ≤ 900 ∧ av = .slice p n c ∧ bv = .slice q m d ∧ Hid (Cn wr p n f) ∧ Hid (Cn wr q m g) ∧ Hid (GAll e k n f m g) ∧ Hid (∀ k, Bn (f k) e) ∧ Hid (∀ k, Bn (g k) e) ∧ Hid (0 < n → Prim n f) ∧ Hid (0 < m → Prim m g) ∧ Hid (gcS k n f m g = (N, F)) ∧ Hid (Below w.heap.size w wr)) (fun _ bv _ => (match bv with | .slice _ m _ => m | _ => 0))
 case atStart => exact ⟨_, _, _, f1, g1, q1, q2, c1, c2, Nat.le_refl _, hn1, hm1, rfl, rfl, Ha, Hb, HBb, Hf1, Hg1, Hpf, Hpg, HR, HW⟩
 case round =>
  clear Ha Hb HBb Hf1 Hg1 Hpf Hpg HR HW hn hm hn1 hm1 Hf2 Hg2 Htf Htg
  obtain ⟨k, n, m, f, g, p, q, c, d, hk, hn, hm, rfl, rfl, Ha, Hb, HBb, Hf, Hg, Hpf, Hpg, HR, HW⟩ := hrel
  have hdg := refDeg3_any m (fun k => canon (g k)) q d (by omega) (fun k _ => Nat.le_trans ((Hg.out k).size 90000000 (by omega)) (by decide)) wr Hb.out.g
  simp only [valZ_canon] at hdg
  rw [show dgN (fun k => g k) m = m from Hb.out.dg (Nat.le_refl _)] at hdg
  have HDg := lhd hdg
  clear hdg
  by_cases hm0 : 0 < m
  ·obtain ⟨k, rfl⟩ : ∃ j, k = j + 1 := ⟨k - 1, by omega⟩
   have m0 : (m : Int) - 1 ≥ 0 := by omega
   have hmul : (n + 1 - m) * (e + 1) ≤ 901 * 70001 := Nat.mul_le_mul (by omega) (by omega)
   have hdv := fun W (h1 : Cn W p n f) (h2 : Cn W q m g) => refDivide_any n m (fun k => canon (f k)) (fun k => canon (g k)) p q c d f g n m hn hm hm0 (by omega) (fun k _ => bn_sz (Hf.out k) (by omega)) (fun k _ => bn_sz (Hg.out k) (by omega)) (cf_canon h1) (cf_canon h2) Hf.out Hg.out (h1.dg (Nat.le_refl _)) (h2.dg (Nat.le_refl _)) W h1.g h2.g
   have hrb := fun k => (dvS_bn (n := n) (m := m) Hf.out Hg.out (n + 1 - m)).2 k
   obtain ⟨hE1, hE2⟩ := dvS_end (f := f) (g := g) (n := n) hm0
   have hR0 : ∀ i, n ≤ i → (dvS f g n m (n + 1 - m)).2 i = 0 := fun i hi => by
    by_cases h : n < m
    ·rw [hE1 h]; exact Ha.out.out i hi
    ·exact dvS_far (by omega) Ha.out.out _ i hi
   have hnext : ∀ l, (∀ i, l ≤ i → (dvS f g n m (n + 1 - m)).2 i = 0) → (0 < l → (dvS f g n m (n + 1 - m)).2 (l - 1) ≠ 0) → l < m ∧ (∀ i, Bn (prC (dvS f g n m (n + 1 - m)).2 l i) e) ∧ GAll e k m g l (prC (dvS f g n m (n + 1 - m)).2 l) ∧ gcS k m g l (prC (dvS f g n m (n + 1 - m)).2 l) = (N, F) := fun l ho ht => by
    have hHR := HR.out
    have hHB := HBb.out
    rw [gcS, if_neg (by omega)] at hHR
    rw [GAll, if_neg (by omega)] at hHB
    by_cases h : n < m
    ·rw [if_pos h] at hHR hHB
     rw [hE1 h] at ho ht ⊢
     obtain rfl : l = n := Nat.le_antisymm (Nat.le_of_not_lt fun hh => ht (by omega) (Ha.out.out _ (by omega))) (Nat.le_of_not_lt fun hh => Ha.out.top (by omega) (ho _ (by omega)))
     rw [prC_self Hpf.out Ha.out.out]
     exact ⟨h, Hf.out, hHB, hHR⟩
    ·rw [if_neg h] at hHR hHB
     obtain ⟨h1, h2⟩ := hE2 h
     rw [h1] at ho ht hR0 ⊢
     have hln : l ≤ n := Nat.le_of_not_lt fun hh => ht (by omega) (hR0 _ (by omega))
     have h3 : dvLR f g n m = l := by rw [h2]; exact dgN_eq ho ht hln
     rw [h3] at hHR hHB
     exact ⟨by rw [← h3]; exact dvLR_lt hm0 h, hHB.1, hHB.2, hHR⟩
   obtain ⟨R, hRe⟩ : ∃ x, (dvS f g n m (n + 1 - m)).2 = x := ⟨_, rfl⟩
   obtain ⟨Q, hQe⟩ : ∃ x, (dvS f g n m (n + 1 - m)).1 = x := ⟨_, rfl⟩
   rw [hRe, hQe] at hdv
   rw [hRe] at hrb hnext hR0
   obtain ⟨e2, he2⟩ : ∃ x, e + (n + 1 - m) * (e + 1) = x := ⟨_, rfl⟩
   rw [he2] at hrb
   have he3 : e2 ≤ 70000000 := by omega
   have hpr := fun W p l c (h : Cn W p l R) => (refPrim_any l (fun k => canon (R k)) p c R l (by have := (hnext l h.out h.top).1; omega) he3 (fun k _ => bn_sz (hrb k) (by omega)) (cf_canon h) hrb (h.dg (Nat.le_refl _)) W h.g)
   have HDv := lhd hdv
   have HPr := lhd hpr
   have Hnext := lhd hnext
   clear hdv hpr hnext hrb hE1 hE2 hR0 hRe hQe he2 he3 hmul HR HBb Hf Hpf
   go_wp2_with fail
   refine HDg.out.mono ?_
   rintro e2 w2 ⟨rfl, hb2⟩
   dsimp only
   have Ha2 := lhd (Ha.out.below hb2)
   have Hb2 := lhd (Hb.out.below hb2)
   have HW2 := lhd (HW.out.trans (hb2.mono HW.out.size))
   clear hb2 Ha Hb HW HDg
   go_wp2_with fail
   refine (HDv.out _ Ha2.out Hb2.out).mono ?_
   rintro e3 w3 ⟨q3, l3, c3, p3, l, d3, rfl, _, hr3, hb3⟩
   dsimp only
   have HP3 := lhd (HPr.out w3 p3 l d3 hr3)
   obtain ⟨hlm, hbn, hga, hgs⟩ := Hnext.out l hr3.out hr3.top
   have hpo : ∀ i, l ≤ i → prC R l i = 0 := fun i hi => prC_zero (hr3.out i hi)
   have hpt : 0 < l → prC R l (l - 1) ≠ 0 := fun h => prC_top hr3.top h
   have Hpp := lhd (fun h : 0 < l => prC_prim h (hr3.top h))
   have Hpo := lhd hpo
   have Hpt := lhd hpt
   have Hbn := lhd hbn
   have Hga := lhd hga
   have Hgs := lhd hgs
   have Hb3 := lhd (Hb2.out.below hb3)
   have HW3 := lhd (HW2.out.trans (hb3.mono HW2.out.size))
   clear hr3 hb3 HDv HPr Ha2 Hb2 HW2 hbn hga hgs hpo hpt Hnext
   go_wp2_with fail
   refine HP3.out.mono ?_
   rintro e4 w4 ⟨p4, l4, c4, rfl, hr4, hb4⟩
   dsimp only
   obtain rfl := hr4.len Hpo.out Hpt.out
   have Hr4 := lhd hr4
   have Hb4 := lhd (Hb3.out.below hb4)
   have HW4 := lhd (HW3.out.trans (hb4.mono HW3.out.size))
   clear hr4 hb4 HP3 Hb3 HW3
   go_wp2_with fail
   go_roundw
   case rel => exact ⟨k, _, _, g, _, q, p4, d, c4, by omega, hm, by omega, rfl, rfl, Hb4, Hr4, Hga, Hg, Hbn, Hpg, Hpp, Hgs, HW4⟩
   case measure => simp; omega
  ·obtain rfl : 0 = m := by omega
   have hHR := HR.out
   rw [gcS_end] at hHR
   cases hHR
   go_wp2_with fail
   refine HDg.out.mono ?_
   rintro e2 w2 ⟨rfl, hb2⟩
   dsimp only
   have Ha2 := lhd (Ha.out.below hb2)
   have HW2 := lhd (HW.out.trans (hb2.mono HW.out.size))
   clear hb2 Ha Hb HW HDg
   go_wp2_with fail
   go_ret
   exact ⟨p, c, rfl, Ha2.out, HW2.out⟩
theorem large3_any (n : Nat) (Z : Nat → ZI) (p : Option Addr) (c : Nat) (hn : n ≤ 1000000) (hz : ∀ k, k < n → (Z k).mag.size < 10000000) (n1 : Nat) (hne : dgN (fun k => valZ (Z k)) n = n1) (w : World) (hX : GRow w p n Z) :
  Calls Tryz.prog 24 #[.slice p n c] w fun e w' => e = .returned (.bool (decide (65 < n1))) ∧ Below w.heap.size w w' := by
 have hd1 := refDeg3_any n Z p c hn (fun k hk => Nat.le_of_lt (Nat.lt_of_lt_of_le (hz k hk) (by decide))) w hX
 rw [hne] at hd1
 have HD := lhd hd1
 clear hd1 hX hz hne
 have hd : decide (65 < n1) = decide ((64 : Int) < (n1 : Int) - 1) := by
  rw [decide_eq_decide]; omega
 rw [hd]
 clear hd
 go_enter Tryz.func24, Tryz.ntmps24
 go_wp2_with fail
 refine HD.out.mono ?_
 rintro e1 w1 ⟨rfl, hb1⟩
 dsimp only
 have Hb1 := lhd hb1
 clear hb1 HD
 go_wp2_with fail
 go_ret
 exact ⟨rfl, Hb1.out⟩
theorem RetDC.dv {f g : Nat → Int} {n m : Nat} {w w' : World} {e : Ending} (hf : ∀ i, n ≤ i → f i = 0) (h : RetDC (dvS f g n m (n + 1 - m)).1 (dvS f g n m (n + 1 - m)).2 w e w') (htop : 0 < n → f (n - 1) ≠ 0) : RetDv (dvLQ f g n m) (dvLR f g n m) (dvQ f g n m) (dvR f g n m) w e w' := by
 obtain ⟨q, a, c, p, b, d, rfl, h1, h2, hb⟩ := h
 by_cases hnm : n < m
 ·have hJ : n + 1 - m = 0 := by omega
  rw [hJ] at h1 h2
  have ha : a = 0 := h1.len (fun i _ => rfl) (fun h => absurd h (by decide))
  have hb2 : b = n := h2.len hf htop
  subst ha hb2
  unfold dvLQ dvLR dvQ dvR
  rw [if_pos hnm, if_pos hnm, if_pos hnm]
  exact ⟨q, c, p, d, rfl, .inl rfl, h2.row, hb⟩
 ·have hJ : n + 1 - m = n - m + 1 := by omega
  rw [hJ] at h1 h2
  unfold dvLQ dvLR dvQ dvR
  rw [if_neg hnm, if_neg hnm, if_neg hnm]
  have ha : dgN (dvS f g n m (n - m + 1)).1 (n - m + 1) = a := h1.dg (h1.le fun i hi => dvS_far1 (by omega) _ i (by omega))
  have hb2 : dgN (dvS f g n m (n - m + 1)).2 n = b := h2.dg (h2.le fun i hi => dvS_far (by omega) hf _ i hi)
  rw [ha, hb2]
  exact ⟨q, c, p, d, rfl, h1.row, h2.row, hb⟩
open Go.RowKit Go.Shelf
theorem gcS_outE {E : Nat} : ∀ (k n m : Nat) (f g : Nat → Int), m ≤ k → GAll E k n f m g → (∀ i, Bn (f i) E) → (∀ i, Bn (g i) E) → (0 < n ∨ 0 < m) → 0 < (gcS k n f m g).1 ∧ ∀ i, Bn ((gcS k n f m g).2 i) E
 | 0, n, m, f, g, hk, _, hf, _, h0 => by
  obtain rfl : m = 0 := by omega
  rw [gcS_end]
  exact ⟨by omega, hf⟩
 | k + 1, n, m, f, g, hk, hG, hf, hg, h0 => by
  rw [GAll] at hG
  rw [gcS]
  by_cases hm : m = 0
  ·rw [if_pos hm]
   exact ⟨by omega, hf⟩
  rw [if_neg hm] at hG ⊢
  by_cases hnm : n < m
  ·rw [if_pos hnm] at hG ⊢
   exact gcS_outE k m n g f (by omega) hG hg hf (.inl (by omega))
  ·rw [if_neg hnm] at hG ⊢
   have := dvLR_lt (f := f) (g := g) (show 0 < m by omega) hnm
   exact gcS_outE k m _ g _ (by omega) hG.2 hg hG.1 (.inl (by omega))
theorem sq_partsE {f : Nat → Int} {n e E : Nat} (hn : 0 < n) (hn2 : n ≤ 900) (hf : ∀ k, Bn (f k) e) (hcf : f (n - 1) ≠ 0) (hE : E ≤ 70000) (heE : e + 10 ≤ E) (hB : GAll E (n - 1) n (prC f n) (n - 1) (prC (dC f n) (n - 1))) :
  0 < (sqG f n).1 ∧ (sqG f n).1 ≤ n ∧ (∀ k, Bn ((sqG f n).2 k) E) ∧ (e + 10) + (n - (sqG f n).1 + 1) * (E + 1) ≤ 100000000 ∧ ∀ k, Bn (dvQ f (sqG f n).2 n (sqG f n).1 k) 100000000 := by
 have hfb : ∀ k, Bn (f k) (e + 10) := fun k => (hf k).up (by omega)
 have hdb := dC_bn (n := n) (by omega) hf
 obtain ⟨h1, h4⟩ := gcS_outE (n - 1) n (n - 1) (prC f n) (prC (dC f n) (n - 1)) (Nat.le_refl _) hB (fun i => prC_bn (fun k => (hfb k).up heE) n i) (fun i => prC_bn (fun k => (hdb k).up heE) (n - 1) i) (.inl hn)
 change 0 < (sqG f n).1 at h1
 change ∀ i, Bn ((sqG f n).2 i) E at h4
 have h7 : (sqG f n).1 ≤ n := gcS_le (n - 1) n (n - 1) _ _ (by omega)
 have h8 : (n - (sqG f n).1 + 1) * (E + 1) ≤ 900 * 70001 := Nat.mul_le_mul (by omega) (by omega)
 refine ⟨h1, h7, h4, by omega, fun k => ?_⟩
 exact ((dvS_bn hfb h4 _).1 k).up (by omega)
set_option maxRecDepth 100000 in
set_option maxHeartbeats 8000000 in
theorem pSquareE_any (n : Nat) (Z : Nat → ZI) (p : Option Addr) (c : Nat) {e E : Nat} (hn : n ≤ 900) (hz : ∀ k, k < n → (Z k).mag.size ≤ 100000000) (hf : ∀ k, Bn (valZ (Z k)) e) (he : e ≤ 9000000) (w : World) (hX : GRow w p n Z) (f : Nat → Int) (hfe : (fun k => valZ (Z k)) = f) (n1 : Nat) (hne : dgN f n = n1)
  (hE : E ≤ 70000) (heE : e + 10 ≤ E) (hB : ¬ 65 < n1 → 0 < n1 → GAll E (n1 - 1) n1 (prC f n1) (n1 - 1) (prC (dC f n1) (n1 - 1))) :
  Calls Tryz.prog 9 #[.slice p n c] w (RetPolE (if sqCode n1 = 0 then sqN f n1 else 0) (sqF f n1) (sqCode n1) w) := by
 have hc1 := Canonical_any n Z p c (by omega) hz w hX
 have hn1 := dgN_le f n
 have hnt := fun h => dgN_top f n h
 rw [hfe] at hc1
 rw [hne] at hn1 hc1 hnt
 have hf' : ∀ k, Bn (f k) e := fun k => by rw [← hfe]; exact hf k
 have hfb : ∀ k, Bn (f k) (e + 10) := fun k => (hf' k).up (by omega)
 have hdb := dC_bn (n := n1) (by omega) hf'
 have hfE : ∀ k, Bn (f k) E := fun k => (hf' k).up (by omega)
 have hdE : ∀ k, Bn (dC f n1 k) E := fun k => (hdb k).up heE
 have hdt : 0 < n1 → 0 < n1 - 1 → dC f n1 (n1 - 1 - 1) ≠ 0 := fun h0 h => by
  unfold dC
  rw [if_pos (by omega)]
  exact deC_top (fun h => hnt h) h
 have HDe := lhd (fun q c W hq => deriv_any n1 f q c (by omega) (show e ≤ 100000000 by omega) hf' W hq)
 have HGc := lhd (fun (h1 : ¬ 65 < n1) (h0 : 0 < n1) q c q' c' W hq (hq' : RowF W q' (n1 - 1) (deC f)) => pgcdE_any n1 (n1 - 1) f (dC f n1) q q' c c' (by omega) (by omega) (show E + 1001 * (E + 1) ≤ 100000000 by omega) (hB h1 h0) hfE hdE hnt (hdt h0) W hq (hq'.congr fun k hk => (if_pos hk).symm))
 have HSp := lhd (fun (h1 : ¬ 65 < n1) (h0 : 0 < n1) => sq_partsE h0 (by omega) hf' (hnt h0) hE heE (hB h1 h0))
 have HGR := lhd (show sqG f n1 = gcS (n1 - 1) n1 (prC f n1) (n1 - 1) (prC (dC f n1) (n1 - 1)) from rfl)
 rw [← HGR.out] at HGc
 have HDv := lhd (fun (h1 : ¬ 65 < n1) (h0 : 0 < n1) q c q' c' W hq (hq' : RowF W q' (sqG f n1).1 (sqG f n1).2) => (by
  obtain ⟨a, b, hE2, hb, _⟩ := HSp.out h1 h0
  exact pdiv_any n1 (sqG f n1).1 f (sqG f n1).2 q q' c c' (by omega) (by omega) a hb hfb hE2 W hq hq' : Calls Tryz.prog 28 #[.slice q n1 c, .slice q' (sqG f n1).1 c'] W (RetDv (dvLQ f (sqG f n1).2 n1 (sqG f n1).1) (dvLR f (sqG f n1).2 n1 (sqG f n1).1) (dvQ f (sqG f n1).2 n1 (sqG f n1).1) (dvR f (sqG f n1).2 n1 (sqG f n1).1) W)))
 have HPr := lhd (fun (h1 : ¬ 65 < n1) (h0 : 0 < n1) q c W (hq : RowF W q (sqN f n1) (dvQ f (sqG f n1).2 n1 (sqG f n1).1)) => (by
  obtain ⟨a, b, _, hb, hQ⟩ := HSp.out h1 h0
  have hle : sqN f n1 ≤ n1 + 1 := dvLQ_le
  exact prim_any (sqN f n1) _ q c (by omega) (Nat.le_refl _) hQ (fun h => dvLQ_top h) W hq : Calls Tryz.prog 31 #[.slice q (sqN f n1) c] W (RetPol (sqN f n1) (sqF f n1) W)))
 rw [show dvLQ f (sqG f n1).2 n1 (sqG f n1).1 = sqN f n1 from rfl] at HDv
 obtain ⟨l1, hl1⟩ : ∃ b, decide (65 < n1) = b := ⟨_, rfl⟩
 have HL1 := lhd (fun q c W => large_any n1 q c (by omega) l1 hl1 W)
 have Hl1 := lhd hl1
 unfold RetPol at hc1 HDe HGc HPr
 unfold RetDv at HDv
 have HC1 := lhd hc1
 have HLQ : Hid (sqCode n1 = 0 → (if sqCode n1 = 0 then sqN f n1 else 0) = sqN f n1) := lhd (fun h => if_pos h)
 have HLN : Hid (sqCode n1 ≠ 0 → (if sqCode n1 = 0 then sqN f n1 else 0) = 0) := lhd (fun h => if_neg h)
 have HCd : Hid (sqCode n1 = if 65 < n1 then 4 else if n1 = 0 then 1 else 0) := lhd rfl
 obtain ⟨A, hA⟩ : ∃ k, (if sqCode n1 = 0 then sqN f n1 else 0) = k := ⟨_, rfl⟩
 obtain ⟨C, hC⟩ : ∃ k, sqCode n1 = k := ⟨_, rfl⟩
 obtain ⟨N, hN⟩ : ∃ k, sqN f n1 = k := ⟨_, rfl⟩
 obtain ⟨F, hF⟩ : ∃ k, sqF f n1 = k := ⟨_, rfl⟩
 obtain ⟨LG, hLG⟩ : ∃ k, (sqG f n1).1 = k := ⟨_, rfl⟩
 obtain ⟨FG, hFG⟩ : ∃ k, (sqG f n1).2 = k := ⟨_, rfl⟩
 rw [hA] at HLQ HLN
 rw [hA, hC, hF]
 rw [hC] at HLQ HLN HCd
 rw [hN] at HLQ HDv HPr
 rw [hF, hLG, hFG] at HPr
 rw [hLG, hFG] at HDv HGc
 obtain ⟨FQ, hFQ⟩ : ∃ k, dvQ f FG n1 LG = k := ⟨_, rfl⟩
 obtain ⟨FR, hFR⟩ : ∃ k, dvR f FG n1 LG = k := ⟨_, rfl⟩
 obtain ⟨LR, hLR⟩ : ∃ k, dvLR f FG n1 LG = k := ⟨_, rfl⟩
 rw [hFQ, hFR, hLR] at HDv
 rw [hFQ] at HPr
 obtain ⟨n2, hn2⟩ : ∃ k, n1 - 1 = k := ⟨_, rfl⟩
 rw [hn2] at HDe HGc
 obtain ⟨DF, hDF⟩ : ∃ k, deC f = k := ⟨_, rfl⟩
 rw [hDF] at HDe HGc
 clear hc1 hX hz hf hf' hfb hdb hdt hfe hne hnt hl1 hB hE heE hfE hdE hA hC hN hF hLG hFG hFQ hFR hLR hn2 hDF HSp HGR
 go_enter Tryz.func9, Tryz.ntmps9
 go_wp2_with fail
 refine HC1.out.mono ?_
 rintro e1 w1 ⟨q1, c1, rfl, hr1, hb1⟩
 dsimp only
 have Hr1 := lhd hr1
 have Hb1 := lhd hb1
 clear hr1 hb1 HC1
 go_wp2_with fail
 refine (HL1.out _ _ _).mono ?_
 rintro e3 w3 ⟨rfl, rfl⟩
 dsimp only
 cases l1
 ·have g1 : ¬ 65 < n1 := of_decide_eq_false Hl1.out
  by_cases hm0 : n1 = 0
  ·have hc : C = 1 := by rw [HCd.out, if_neg g1, if_pos hm0]
   subst hc
   have ea := HLN.out (by decide)
   subst ea
   have b1 : ((n1 : Int) == 0) = true := by rw [beq_iff_eq]; omega
   clear HCd HLQ HLN
   go_wp2_with fail
   go_ret2
   exact ⟨none, 0, rfl, .inl rfl, Hb1.out⟩
  ·have hc : C = 0 := by rw [HCd.out, if_neg g1, if_neg hm0]
   subst hc
   have ea := HLQ.out rfl
   subst ea
   have b1 : ((n1 : Int) == 0) = false := by rw [beq_eq_false_iff_ne]; omega
   have h0 : 0 < n1 := by omega
   have HD1 := lhd (HDe.out q1 c1 _ Hr1.out)
   have HGg := lhd (HGc.out g1 h0)
   have HDd := lhd (HDv.out g1 h0)
   have HPp := lhd (HPr.out g1 h0)
   clear HCd HLQ HLN HDe HGc HDv HPr
   go_wp2_with fail
   refine HD1.out.mono ?_
   rintro e4 w4 ⟨q4, c4, rfl, hr4, hb4⟩
   dsimp only
   have Hr4' := lhd (RowF.below Hr1.out (Nat.le_refl _) hb4)
   have HG4 := lhd (HGg.out q1 c1 q4 c4 w4 Hr4'.out hr4)
   have Hb4 := lhd (Hb1.out.trans (hb4.mono Hb1.out.size))
   clear hr4 hb4 HD1 HGg Hr1 Hb1
   go_wp2_with fail
   refine HG4.out.mono ?_
   rintro e5 w5 ⟨q5, c5, rfl, hr5, hb5⟩
   dsimp only
   have HD5 := lhd (HDd.out q1 c1 q5 c5 w5 (RowF.below Hr4'.out (Nat.le_refl _) hb5) hr5)
   have Hb5 := lhd (Hb4.out.trans (hb5.mono Hb4.out.size))
   clear hr5 hb5 HG4 HDd Hr4' Hb4
   go_wp2_with fail
   refine HD5.out.mono ?_
   rintro e6 w6 ⟨q6, c6, p6, d6, rfl, hr6, _, hb6⟩
   dsimp only
   have HP6 := lhd (HPp.out q6 c6 w6 hr6)
   have Hb6 := lhd (Hb5.out.trans (hb6.mono Hb5.out.size))
   clear hr6 hb6 HD5 HPp Hb5
   go_wp2_with fail
   refine HP6.out.mono ?_
   rintro e7 w7 ⟨q7, c7, rfl, hr7, hb7⟩
   dsimp only
   have Hr7 := lhd hr7
   have Hb7 := lhd (Hb6.out.trans (hb7.mono Hb6.out.size))
   clear hr7 hb7 HP6 Hb6
   go_wp2_with fail
   go_ret2
   exact ⟨q7, c7, rfl, Hr7.out, Hb7.out⟩
 ·have hc : C = 4 := by rw [HCd.out, if_pos (of_decide_eq_true Hl1.out)]
  subst hc
  have ea := HLN.out (by decide)
  subst ea
  clear HCd HLQ HLN
  go_wp2_with fail
  go_ret2
  exact ⟨none, 0, rfl, .inl rfl, Hb1.out⟩
set_option maxRecDepth 100000 in
set_option maxHeartbeats 8000000 in
theorem refSquare3_any (n : Nat) (Z : Nat → ZI) (p : Option Addr) (c : Nat) {e E : Nat} (hn : n ≤ 900) (hz : ∀ k, k < n → (Z k).mag.size < 10000000) (hf : ∀ k, Bn (valZ (Z k)) e) (w : World) (hX : GRow w p n Z) (f : Nat → Int) (hfe : (fun k => valZ (Z k)) = f) (hf0 : ∀ k, n ≤ k → f k = 0) (n1 : Nat) (hne : dgN f n = n1)
  (hE : E ≤ 70000) (heE : e + 10 ≤ E) (hB : ¬ 65 < n1 → 0 < n1 → GAll E (n1 - 1) n1 (prC f n1) (n1 - 1) (prC (dC f n1) (n1 - 1))) :
  Calls Tryz.prog 10 #[.slice p n c] w (RetPolE (if sqCode n1 = 0 then sqN f n1 else 0) (sqF f n1) (sqCode n1) w) := by
 have hl := fun W h => large3_any n Z p c (by omega) hz n1 (by rw [hfe]; exact hne) W h
 have hd := fun W h => refDeg3_any n Z p c (by omega) (fun k hk => Nat.le_of_lt (Nat.lt_of_lt_of_le (hz k hk) (by decide))) W h
 rw [hfe, hne] at hd
 have hde := fun W h => refDer3_any n Z p c (by omega) hz W h
 rw [hfe, hne] at hde
 have hn1 : n1 ≤ n := by rw [← hne]; exact dgN_le f n
 have hnt : 0 < n1 → f (n1 - 1) ≠ 0 := fun h => by rw [← hne] at h ⊢; exact dgN_top f n h
 have hf' : ∀ k, Bn (f k) e := fun k => by rw [← hfe]; exact hf k
 have hfm : ∀ k, n1 ≤ k → f k = 0 := fun k hk => by
  rcases Nat.lt_or_ge k n with h | h
  ·exact dgN_over f n k (by omega) h
  ·exact hf0 k h
 have hcf : ∀ k, cf Z n k = f k := fun k => by
  unfold cf
  split
  ·rw [← hfe]
  ·rw [hf0 k (by omega)]
 have hdC : deC f = dC f n1 := by
  funext k
  unfold dC
  split
  ·rfl
  ·unfold deC
   rw [hfm _ (by omega), Int.zero_mul]
 have hdo : ∀ k, n1 - 1 ≤ k → deC f k = 0 := fun k hk => by rw [hdC]; unfold dC; rw [if_neg (by omega)]
 have hdt : 0 < n1 - 1 → deC f (n1 - 1 - 1) ≠ 0 := fun h => deC_top hnt h
 have hdb : ∀ k, Bn (deC f k) (e + 10) := fun k => by rw [hdC]; exact dC_bn (by omega) hf' k
 have HGc := lhd (fun (h1 : ¬ 65 < n1) (h0 : 0 < n1) W q c' (h : GRow W p n Z) (hq : Cn W q (n1 - 1) (deC f)) => (refGcd3_any n (n1 - 1) Z (fun k => canon (deC f k)) p q c c' (e := E) f (deC f) n1 (n1 - 1) hn (by omega) hE hz (fun k _ => bn_sz (hdb k) (by omega)) hcf (cf_canon hq) (fun k => (hf' k).up (by omega)) (fun k => (hdb k).up heE) hne (hq.dg (Nat.le_refl _)) (by rw [hdC]; exact hB h1 h0) W h hq.g))
 rw [hdC] at HGc
 have HSp := lhd (fun (h1 : ¬ 65 < n1) (h0 : 0 < n1) => sq_partsE h0 (by omega) hf' (hnt h0) hE heE (hB h1 h0))
 have HGR := lhd (show gcS (n1 - 1) n1 (prC f n1) (n1 - 1) (prC (dC f n1) (n1 - 1)) = sqG f n1 from rfl)
 rw [HGR.out] at HGc
 have HDv := lhd (fun (h1 : ¬ 65 < n1) (h0 : 0 < n1) W q c' (h : GRow W p n Z) (hq : Cn W q (sqG f n1).1 (sqG f n1).2) => (by
  obtain ⟨a, b, hE2, hb, _⟩ := HSp.out h1 h0
  have hmul : (n1 + 1 - (sqG f n1).1) * (E + 1) ≤ 901 * 70001 := Nat.mul_le_mul (by omega) (by omega)
  exact (refDivide_any n (sqG f n1).1 Z (fun k => canon ((sqG f n1).2 k)) p q c c' (e := e) (e' := E) f (sqG f n1).2 n1 (sqG f n1).1 hn (by omega) a (by omega) hz (fun k _ => bn_sz (hE2 k) (by omega)) hcf (cf_canon hq) hf' hE2 hne (hq.dg (Nat.le_refl _)) W h hq.g).mono fun en w' h => h.dv hfm hnt : Calls Tryz.prog 33 #[.slice p n c, .slice q (sqG f n1).1 c'] W (RetDv (dvLQ f (sqG f n1).2 n1 (sqG f n1).1) (dvLR f (sqG f n1).2 n1 (sqG f n1).1) (dvQ f (sqG f n1).2 n1 (sqG f n1).1) (dvR f (sqG f n1).2 n1 (sqG f n1).1) W)))
 have HPr := lhd (fun (h1 : ¬ 65 < n1) (h0 : 0 < n1) W q c' (hq : RowF W q (sqN f n1) (dvQ f (sqG f n1).2 n1 (sqG f n1).1)) => (by
  obtain ⟨a, b, hE2, hb, _⟩ := HSp.out h1 h0
  have hmul : (n1 - (sqG f n1).1 + 1) * (E + 1) ≤ 901 * 70001 := Nat.mul_le_mul (by omega) (by omega)
  have hQb : ∀ k, Bn (dvQ f (sqG f n1).2 n1 (sqG f n1).1 k) 70000000 := fun k => ((dvS_bn hf' hE2 _).1 k).up (by omega)
  have hle : sqN f n1 ≤ n1 + 1 := dvLQ_le
  have htp : 0 < sqN f n1 → dvQ f (sqG f n1).2 n1 (sqG f n1).1 (sqN f n1 - 1) ≠ 0 := fun h => dvLQ_top h
  have hqo : ∀ i, sqN f n1 ≤ i → dvQ f (sqG f n1).2 n1 (sqG f n1).1 i = 0 := fun i hi => by
   show (dvS f (sqG f n1).2 n1 (sqG f n1).1 (n1 - (sqG f n1).1 + 1)).1 i = 0
   rcases Nat.lt_or_ge i (n1 - (sqG f n1).1 + 1) with h | h
   ·refine dgN_over _ (n1 - (sqG f n1).1 + 1) i ?_ h
    have h3 : sqN f n1 = dgN (dvS f (sqG f n1).2 n1 (sqG f n1).1 (n1 - (sqG f n1).1 + 1)).1 (n1 - (sqG f n1).1 + 1) := if_neg (by omega)
    rw [← h3]; exact hi
   ·exact dvS_far1 b _ i (by omega)
  have hcn : Cn W q (sqN f n1) (dvQ f (sqG f n1).2 n1 (sqG f n1).1) := ⟨hq, hqo, htp⟩
  refine (refPrim_any (sqN f n1) (fun k => canon (dvQ f (sqG f n1).2 n1 (sqG f n1).1 k)) q c' (e := 70000000) (dvQ f (sqG f n1).2 n1 (sqG f n1).1) (sqN f n1) (by omega) (Nat.le_refl _) (fun k _ => bn_sz (hQb k) (by omega)) (cf_canon hcn) hQb (hcn.dg (Nat.le_refl _)) W hcn.g).mono ?_
  rintro en w' ⟨q9, l9, c9, rfl, h9, hb9⟩
  have hl9 : l9 = sqN f n1 := h9.len (fun i hi => prC_zero (hqo i hi)) (fun h => prC_top htp h)
  rw [hl9] at h9 ⊢
  exact ⟨q9, c9, rfl, h9.row, hb9⟩ : Calls Tryz.prog 36 #[.slice q (sqN f n1) c'] W (RetPol (sqN f n1) (sqF f n1) W)))
 rw [show dvLQ f (sqG f n1).2 n1 (sqG f n1).1 = sqN f n1 from rfl] at HDv
 have HDC : Hid (∀ W q, RowF W q (n1 - 1) (deC f) → Cn W q (n1 - 1) (dC f n1)) := lhd (fun W q h => by
  rw [← hdC]; exact ⟨h, hdo, hdt⟩)
 have HL := lhd hl
 have HD := lhd hd
 have HDe := lhd hde
 have HX := lhd hX
 unfold RetCn at HGc
 unfold RetDv at HDv
 unfold RetPol at HPr HDe
 obtain ⟨N, hN⟩ : ∃ k, sqN f n1 = k := ⟨_, rfl⟩
 obtain ⟨F, hF⟩ : ∃ k, sqF f n1 = k := ⟨_, rfl⟩
 obtain ⟨LG, hLG⟩ : ∃ k, (sqG f n1).1 = k := ⟨_, rfl⟩
 obtain ⟨FG, hFG⟩ : ∃ k, (sqG f n1).2 = k := ⟨_, rfl⟩
 rw [hN, hLG, hFG] at HDv
 rw [hLG, hFG] at HGc
 rw [hN, hF, hLG, hFG] at HPr
 rw [hN, hF]
 obtain ⟨FQ, hFQ⟩ : ∃ k, dvQ f FG n1 LG = k := ⟨_, rfl⟩
 obtain ⟨FR, hFR⟩ : ∃ k, dvR f FG n1 LG = k := ⟨_, rfl⟩
 obtain ⟨LR, hLR⟩ : ∃ k, dvLR f FG n1 LG = k := ⟨_, rfl⟩
 rw [hFQ, hFR, hLR] at HDv
 rw [hFQ] at HPr
 obtain ⟨DF, hDF⟩ : ∃ k, dC f n1 = k := ⟨_, rfl⟩
 obtain ⟨DE, hDE⟩ : ∃ k, deC f = k := ⟨_, rfl⟩
 rw [hDE] at HDe HDC
 rw [hDF] at HDC HGc
 clear hl hd hde hn1 hnt hf' hfm hcf hdC hdo hdt hdb HSp HGR hX hz hf hfe hf0 hne hB hE heE hN hF hLG hFG hFQ hFR hLR hDF hDE
 by_cases h65 : 65 < n1
 ·have hcd : sqCode n1 = 4 := if_pos h65
  rw [hcd]
  clear hcd
  rw [decide_eq_true h65] at HL
  go_enter Tryz.func10, Tryz.ntmps10
  go_wp2_with fail
  refine (HL.out _ HX.out).mono ?_
  rintro e1 w1 ⟨rfl, hb1⟩
  dsimp only
  have HB1 := lhd hb1
  clear hb1 HL
  go_wp2_with fail
  go_ret2
  exact ⟨none, 0, rfl, .inl rfl, HB1.out⟩
 rw [decide_eq_false h65] at HL
 by_cases h0 : n1 = 0
 ·have hcd : sqCode n1 = 1 := by
   unfold sqCode
   rw [if_neg h65, if_pos h0]
  rw [hcd]
  clear hcd
  have b1 : (n1 : Int) - 1 < 0 := by omega
  go_enter Tryz.func10, Tryz.ntmps10
  go_wp2_with fail
  refine (HL.out _ HX.out).mono ?_
  rintro e1 w1 ⟨rfl, hb1⟩
  dsimp only
  have HB1 := lhd hb1
  have HX1 := lhd (SlAt.mono HX.out (Nat.le_refl _) hb1)
  clear hb1 HL HX
  go_wp2_with fail
  refine (HD.out _ HX1.out).mono ?_
  rintro e2 w2 ⟨rfl, hb2⟩
  dsimp only
  have HB2 := lhd (HB1.out.trans (hb2.mono HB1.out.size))
  clear hb2 HD HX1 HB1
  go_wp2_with fail
  go_ret2
  exact ⟨none, 0, rfl, .inl rfl, HB2.out⟩
 have hcd : sqCode n1 = 0 := by
  unfold sqCode
  rw [if_neg h65, if_neg h0]
 rw [hcd]
 clear hcd
 rw [if_pos rfl]
 have hp : 0 < n1 := by omega
 have HGc2 := lhd (HGc.out h65 hp)
 have HDv2 := lhd (HDv.out h65 hp)
 have HPr2 := lhd (HPr.out h65 hp)
 have b1 : ¬ (n1 : Int) - 1 < 0 := by omega
 clear HGc HDv HPr
 go_enter Tryz.func10, Tryz.ntmps10
 go_wp2_with fail
 refine (HL.out _ HX.out).mono ?_
 rintro e1 w1 ⟨rfl, hb1⟩
 dsimp only
 have HB1 := lhd hb1
 have HX1 := lhd (SlAt.mono HX.out (Nat.le_refl _) hb1)
 clear hb1 HL HX
 go_wp2_with fail
 refine (HD.out _ HX1.out).mono ?_
 rintro e2 w2 ⟨rfl, hb2⟩
 dsimp only
 have HB2 := lhd (HB1.out.trans (hb2.mono HB1.out.size))
 have HX2 := lhd (SlAt.mono HX1.out (Nat.le_refl _) hb2)
 clear hb2 HD HX1 HB1
 go_wp2_with fail
 refine (HDe.out _ HX2.out).mono ?_
 rintro e3 w3 ⟨q3, c3, rfl, hr3, hb3⟩
 dsimp only
 have HB3 := lhd (HB2.out.trans (hb3.mono HB2.out.size))
 have HX3 := lhd (SlAt.mono HX2.out (Nat.le_refl _) hb3)
 have HG3 := lhd (HGc2.out w3 q3 c3 HX3.out (HDC.out _ _ hr3))
 clear hb3 hr3 HDe HX2 HB2 HGc2 HDC
 go_wp2_with fail
 refine HG3.out.mono ?_
 rintro e4 w4 ⟨q4, c4, rfl, hr4, hb4⟩
 dsimp only
 have HB4 := lhd (HB3.out.trans (hb4.mono HB3.out.size))
 have HX4 := lhd (SlAt.mono HX3.out (Nat.le_refl _) hb4)
 have HD4 := lhd (HDv2.out w4 q4 c4 HX4.out hr4)
 clear hb4 hr4 HG3 HX3 HB3 HDv2
 go_wp2_with fail
 refine HD4.out.mono ?_
 rintro e5 w5 ⟨q5, c5, p5, d5, rfl, hr5, _, hb5⟩
 dsimp only
 have HB5 := lhd (HB4.out.trans (hb5.mono HB4.out.size))
 have HP5 := lhd (HPr2.out w5 q5 c5 hr5)
 clear hb5 hr5 HD4 HX4 HB4 HPr2
 go_wp2_with fail
 refine HP5.out.mono ?_
 rintro e6 w6 ⟨q6, c6, rfl, hr6, hb6⟩
 dsimp only
 have HB6 := lhd (HB5.out.trans (hb6.mono HB5.out.size))
 have HR6 := lhd hr6
 clear hb6 hr6 HP5 HB5
 go_wp2_with fail
 go_ret2
 exact ⟨q6, c6, rfl, HR6.out, HB6.out⟩
end Go.Proofs.YtmbamcpndbimaaaGreatDoor
