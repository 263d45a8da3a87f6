/- PolynomialValues: the walk. -/
import Derived.Test.YtmbamcpndbimaaaGreatDoorJ6
import Derived.Test.YtmbamcpndbimaaaGreatDoorJ21
import Derived.Test.YtmbamcpndbimaaaGreatDoorJ36
import Derived.Test.YtmbamcpndbimaaaGreatDoorJ45
import Derived.Laws.StructEq
namespace Go.Proofs.YtmbamcpndbimaaaGreatDoor
open Go.RowKit Go.Shelf
def lgB (a b : ZI) : Bool := decide (4 < a.mag.size) || decide (4 < b.mag.size)
set_option maxRecDepth 100000 in
set_option maxHeartbeats 4000000 in
theorem long1R (V : World) (a b : ZI) (ha : a.mag.size ≤ maxLen) (hb : b.mag.size ≤ maxLen) :
  Calls Tryz.prog 5 #[.slice (some ⟨V.heap.size, 0, none⟩) 1 1] (V.alloc (.cells #[.bool a.neg, .string a.mag, .bool b.neg, .string b.mag] 26)) fun e w' => e = .returned (.bool (lgB a b)) ∧ Below V.heap.size V w' := by
 have hbx := Box4.new V (.bool a.neg) (.string a.mag) (.bool b.neg) (.string b.mag) 26
 have hal := (Below.refl V.heap.size V).alloc (Nat.le_refl _) (.cells #[.bool a.neg, .string a.mag, .bool b.neg, .string b.mag] 26)
 have HB := lhd hal
 have HX := lhd hbx
 obtain ⟨g, hg⟩ : ∃ k, V.heap.size = k := ⟨_, rfl⟩
 rw [hg] at HX HB ⊢
 clear hal hbx hg
 generalize V.alloc (.cells #[.bool a.neg, .string a.mag, .bool b.neg, .string b.mag] 26) = w at *
 obtain ⟨s0, s1, s2, s3, _, _⟩ := HX.out
 obtain ⟨r, hr⟩ : ∃ r, lgB a b = r := ⟨_, rfl⟩
 rw [hr]
 have Hr := lhd hr
 clear hr
 go_enter Tryz.func5, Tryz.ntmps5
 go_wp2_with fail
 go_loopw [3] (fun tv wr => ∃ i : Nat, i ≤ 1 ∧ tv = .int .i64 (i : Nat) ∧ w = wr ∧ Hid (i = 0 ∨ r = false)) (fun tv _ => 1 - (intOf tv).toNat)
 case atStart => exact ⟨0, by omega, by go_num, rfl, lhd (.inl rfl)⟩
 case round =>
  obtain ⟨i, hi, rfl, rfl, HK⟩ := hrel
  by_cases hil : i < 1
  ·obtain rfl : i = 0 := by omega
   by_cases h1 : 4 < a.mag.size
   ·have h2 : (4 : Int) < (a.mag.size : Int) := by omega
    have HR := lhd (show true = r by rw [← Hr.out]; unfold lgB; rw [decide_eq_true h1]; rfl)
    clear h1 hil
    go_wp2
    go_ret
    exact ⟨by rw [← HR.out]; rfl, HB.out⟩
   ·by_cases h3 : 4 < b.mag.size
    ·have h2 : ¬ (4 : Int) < (a.mag.size : Int) := by omega
     have h4 : (4 : Int) < (b.mag.size : Int) := by omega
     have HR := lhd (show true = r by rw [← Hr.out]; unfold lgB; rw [decide_eq_true h3, Bool.or_true])
     clear h1 hil h3
     go_wp2
     go_ret
     exact ⟨by rw [← HR.out]; rfl, HB.out⟩
    ·have h2 : ¬ (4 : Int) < (a.mag.size : Int) := by omega
     have h4 : ¬ (4 : Int) < (b.mag.size : Int) := by omega
     have HR : Hid ((0 : Nat) + 1 = 0 ∨ r = false) := lhd (.inr (by rw [← Hr.out]; unfold lgB; rw [decide_eq_false h1, decide_eq_false h3]; rfl))
     clear h1 hil h3 HK
     go_wp2
     go_roundw
     case rel => exact ⟨1, by omega, by go_num, by first | rfl | trivial, HR⟩
     case measure => simp [intOf]
  ·have i3 : ¬ (i : Int) < 1 := by omega
   have HR := lhd (show false = r by rcases HK.out with h | h; omega; exact h.symm)
   clear hil HK
   go_wp2
   go_ret
   exact ⟨by rw [← HR.out]; rfl, HB.out⟩
theorem bn_four {z : ZI} (h : z.mag.size ≤ 4) : Bn (valZ z) 32 := by
 have h1 := absZ_lt z
 have h2 : 256 ^ z.mag.size ≤ 256 ^ 4 := Nat.pow_le_pow_right (by decide) h
 unfold Bn valZ
 split <;> omega
theorem great1_any (V : World) (p : Option Addr) (n c : Nat) (Z : Nat → ZI) (hX : GRow V p n Z) (hn : n ≤ 9223372036854775807) :
  Calls Tryz.prog 4 #[.slice (some ⟨V.heap.size, 0, none⟩) 1 1] (V.alloc (.cells #[.slice p n c] 22)) fun e w' => e = .returned (.bool (gtP n Z)) ∧ Below V.heap.size V w' := by
 have hb := (Below.refl V.heap.size V).alloc (Nat.le_refl _) (.cells #[.slice p n c] 22)
 refine (great_any 1 _ 1 _ _ _ _ (by omega) _ (plist1 V p n c Z 22 hX hn)).mono ?_
 rintro e w' ⟨rfl, hb2⟩
 exact ⟨rfl, hb.trans (hb2.mono hb.size)⟩
theorem grow_zxV {w : World} {p : Option Addr} {n : Nat} {Z : Nat → ZI} (h : GRow w p n Z) : GRow w p n (zx Z n) := by
 have hx : ∀ k, k < n → zx Z n k = Z k := fun k hk => by unfold zx; rw [if_pos hk]
 rcases h with h | ⟨b, off, rfl, hl, hc⟩
 ·exact .inl h
 ·refine .inr ⟨b, off, rfl, hl, fun k hk j hj => ?_⟩
  rw [hc k hk j hj]
  show _ = some (zg (zx Z n k) j)
  rw [hx k hk]
theorem zx_smallV {Z : Nat → ZI} {n : Nat} (hz : ∀ k, k < n → (Z k).mag.size ≤ 3) (k : Nat) : (zx Z n k).mag.size ≤ 3 := by
 unfold zx
 split
 ·exact hz k (by assumption)
 ·decide
theorem zx_outV {Z : Nat → ZI} {n : Nat} (k : Nat) (h : n ≤ k) : valZ (zx Z n k) = 0 := by
 unfold zx
 rw [if_neg (by omega)]; rfl
theorem gall_up {E E' : Nat} (h : E ≤ E') : ∀ (k n : Nat) (f : Nat → Int) (m : Nat) (g : Nat → Int), GAll E k n f m g → GAll E' k n f m g
 | 0, _, _, _, _, _ => trivial
 | k + 1, n, f, m, g, hG => by
  rw [GAll] at hG ⊢
  by_cases h0 : m = 0
  ·rw [if_pos h0]; trivial
  rw [if_neg h0] at hG ⊢
  by_cases hnm : n < m
  ·rw [if_pos hnm] at hG ⊢
   exact gall_up h k m g n f hG
  ·rw [if_neg hnm] at hG ⊢
   exact ⟨fun i => (hG.1 i).up h, gall_up h k m g _ _ hG.2⟩
def RetA (x y : ZI) (cd : Int) (w : World) (e : Ending) (w' : World) : Prop := e = .returned (.tuple #[.agg #[.bool x.neg, .string x.mag, .bool y.neg, .string y.mag], .int .i64 cd]) ∧ Below w.heap.size w w'
theorem RetAt.a {f : Nat → Int} {m : Nat} {u v : Int} {w w' : World} {e : Ending} (hv : 0 < v) (h : RetAt f m u v w e w') : RetA (canon (rloN (hsN f m u v m) (v ^ m))) (canon (rloD (hsN f m u v m) (v ^ m))) 0 w e w' := by
 obtain ⟨P, Q, rfl, hq, hpq, hb⟩ := h
 obtain ⟨e1, e2⟩ := rlo_unique (n := hsN f m u v m) (d := v ^ m) hq (pow_pos_ne hv m) (by rw [hpq, Int.mul_comm])
 rw [e1, e2]
 exact ⟨rfl, hb⟩
set_option maxRecDepth 100000 in
set_option maxHeartbeats 8000000 in
theorem atL_any (n : Nat) (Z : Nat → ZI) (p : Option Addr) (c : Nat) (ra rb : ZI) (hn : n ≤ 1000) (hz : ∀ k, k < n → (Z k).mag.size ≤ 100000000) (m : Nat) (hm : dgN (fun k => valZ (Z k)) n = m) (hm65 : 65 < m) (w : World) (hX : GRow w p n Z) :
  Calls Tryz.prog 7 #[.slice p n c, .agg #[.bool ra.neg, .string ra.mag, .bool rb.neg, .string rb.mag]] w (RetA ⟨false, ⟨#[]⟩⟩ ⟨false, ⟨#[]⟩⟩ 4 w) := by
 have hmn : m ≤ n := by rw [← hm]; exact dgN_le _ n
 have HLg := lhd (fun q c W => large_any m q c (by omega) true (decide_eq_true hm65) W)
 go_enter Tryz.func7, Tryz.ntmps7
 go_upto_region 1 with (fail)
 obtain ⟨Y, hY, hR0, hC0, hb0⟩ := two_box4 w (.bool ra.neg) (.string ra.mag) (.bool rb.neg) (.string rb.mag) 26 26
 rw [hY]
 have hX0 : GRow Y p n Z := hX.mono (Nat.le_refl _) hb0
 have HC0 := lhd hC0
 have Hb0 := lhd hb0
 have hca := Canonical_any n Z p c (by omega) hz Y hX0
 rw [hm] at hca
 obtain ⟨gC, hgC⟩ : ∃ g, w.heap.size + 1 = g := ⟨_, rfl⟩
 have lC : w.heap.size ≤ gC := by omega
 rw [hgC] at HC0 ⊢
 have HCa := lhd hca
 clear hY hR0 hC0 hb0 hX0 hX hca hz hm hgC
 go_wp2_with fail
 refine HCa.out.mono ?_
 rintro e1 w1 ⟨q, cq, rfl, _, hb1⟩
 dsimp only
 have HC1 := lhd (HC0.out.below hb1 HC0.out.2.2.2.2.2)
 have HZ := lhd (Hb0.out.trans (hb1.mono Hb0.out.size))
 clear hb1 HC0 Hb0 HCa
 go_wp2_with fail
 refine (HLg.out _ _ _).mono ?_
 rintro e2 w2 ⟨rfl, rfl⟩
 dsimp only
 obtain ⟨c0, c1, c2, c3, cf, _⟩ := HC1.out
 have cf0 := cf 0
 have cf1 := cf 1
 have cf2 := cf 2
 have cf3 := cf 3
 go_wp2_with fail
 refine bodyPost_ret (v := .tuple #[.agg #[.bool false, .string ⟨#[]⟩, .bool false, .string ⟨#[]⟩], .int .i64 4]) ?_ rfl ⟨rfl, (((HZ.out.setCell (p := ⟨gC, 0, none⟩) lC _).setCell (p := ⟨gC, 1, none⟩) lC _).setCell (p := ⟨gC, 2, none⟩) lC _).setCell (p := ⟨gC, 3, none⟩) lC _⟩
 simp [results, Tryz.results7, go_sem, c0, c1, c2, c3]
set_option maxRecDepth 100000 in
set_option maxHeartbeats 8000000 in
theorem refAtL_any (n : Nat) (Z : Nat → ZI) (p : Option Addr) (c : Nat) (ra rb : ZI) (hn : n ≤ 1000) (hz : ∀ k, k < n → (Z k).mag.size < 10000000) (m : Nat) (hm : dgN (fun k => valZ (Z k)) n = m) (hm65 : 65 < m) (w : World) (hX : GRow w p n Z) :
  Calls Tryz.prog 8 #[.slice p n c, .agg #[.bool ra.neg, .string ra.mag, .bool rb.neg, .string rb.mag]] w (RetA ⟨false, ⟨#[]⟩⟩ ⟨false, ⟨#[]⟩⟩ 4 w) := by
 have HLg := lhd (fun W h => large3_any n Z p c (by omega) hz m hm W h)
 rw [decide_eq_true hm65] at HLg
 go_enter Tryz.func8, Tryz.ntmps8
 go_upto_region 1 with (fail)
 obtain ⟨Y, hY, hR0, hC0, hb0⟩ := two_box4 w (.bool ra.neg) (.string ra.mag) (.bool rb.neg) (.string rb.mag) 26 26
 rw [hY]
 have HX0 := lhd (SlAt.mono hX (Nat.le_refl _) hb0)
 have HC0 := lhd hC0
 have Hb0 := lhd hb0
 obtain ⟨gC, hgC⟩ : ∃ g, w.heap.size + 1 = g := ⟨_, rfl⟩
 have lC : w.heap.size ≤ gC := by omega
 rw [hgC] at HC0 ⊢
 clear hY hR0 hC0 hb0 hX hz hm hgC
 go_wp2_with fail
 refine (HLg.out _ HX0.out).mono ?_
 rintro e1 w1 ⟨rfl, hb1⟩
 dsimp only
 have HC1 := lhd (HC0.out.below hb1 HC0.out.2.2.2.2.2)
 have HZ := lhd (Hb0.out.trans (hb1.mono Hb0.out.size))
 clear hb1 HC0 Hb0 HX0
 obtain ⟨c0, c1, c2, c3, cf, _⟩ := HC1.out
 have cf0 := cf 0
 have cf1 := cf 1
 have cf2 := cf 2
 have cf3 := cf 3
 go_wp2_with fail
 refine bodyPost_ret (v := .tuple #[.agg #[.bool false, .string ⟨#[]⟩, .bool false, .string ⟨#[]⟩], .int .i64 4]) ?_ rfl ⟨rfl, (((HZ.out.setCell (p := ⟨gC, 0, none⟩) lC _).setCell (p := ⟨gC, 1, none⟩) lC _).setCell (p := ⟨gC, 2, none⟩) lC _).setCell (p := ⟨gC, 3, none⟩) lC _⟩
 simp [results, Tryz.results8, go_sem, c0, c1, c2, c3]
theorem at_both (n : Nat) (Z : Nat → ZI) (p : Option Addr) (c : Nat) (ra rb : ZI) (hn : n ≤ 68) (hz : ∀ k, (Z k).mag.size ≤ 3) (hz0 : ∀ k, n ≤ k → valZ (Z k) = 0) (sa : ra.mag.size ≤ 4) (sb : rb.mag.size ≤ 4) :
  ∃ (x y : ZI) (cd : Int), (∀ W, GRow W p n Z → Calls Tryz.prog 7 #[.slice p n c, .agg #[.bool ra.neg, .string ra.mag, .bool rb.neg, .string rb.mag]] W (RetA x y cd W)) ∧ ∀ W, GRow W p n Z → Calls Tryz.prog 8 #[.slice p n c, .agg #[.bool ra.neg, .string ra.mag, .bool rb.neg, .string rb.mag]] W (RetA x y cd W) := by
 have bz := fun k => bn_24 (hz k)
 by_cases h65 : 65 < dgN (fun k => valZ (Z k)) n
 ·exact ⟨_, _, _, fun W h => atL_any n Z p c ra rb (by omega) (fun k _ => by have := hz k; omega) _ rfl h65 W h, fun W h => refAtL_any n Z p c ra rb (by omega) (fun k _ => by have := hz k; omega) _ rfl h65 W h⟩
 ·have hv : 0 < rloD (valZ ra) (valZ rb) := (rlo_qc _ _).pos
  exact ⟨_, _, _, fun W h => (at_any n Z p c ra rb (B := 24) (e := 32) (by omega) (fun k _ => by have := hz k; omega) _ rfl bz (by decide) _ rfl (by omega) (by omega) (by omega) (bn_four sa) (bn_four sb) (by decide) _ _ rfl rfl W h).mono fun _ _ h => h.a hv,
   fun W h => (refAt3_any n Z p c ra rb (B := 24) (e := 32) (by omega) (fun k _ => by have := hz k; omega) _ rfl hz0 bz (by decide) _ rfl (by omega) (by omega) (by omega) (bn_four sa) (bn_four sb) (by decide) _ _ rfl rfl W h).mono fun _ _ h => h.a hv⟩
set_option maxRecDepth 100000 in
set_option maxHeartbeats 8000000 in
theorem lawValues (p : Option Addr) (n c : Nat) (Z : Nat → ZI) (ra rb : ZI) (w : World) (hX : GRow w p n Z) (hn : n ≤ maxLen) (_hz : ∀ k, k < n → (Z k).mag.size ≤ maxLen) (hra : ra.mag.size ≤ maxLen) (hrb : rb.mag.size ≤ maxLen) :
  Calls Tryz.prog 3 #[.slice p n c, .agg #[.bool ra.neg, .string ra.mag, .bool rb.neg, .string rb.mag]] w (RetB true w) := by
 have HAw := lhd (fun W => awake_any W)
 obtain ⟨w0, hw0⟩ : ∃ W, w.alloc (.cells #[.bool ra.neg, .string ra.mag, .bool rb.neg, .string rb.mag] 26) = W := ⟨_, rfl⟩
 have hbw : Below w.heap.size w w0 := by rw [← hw0]; exact (Below.refl _ _).alloc (Nat.le_refl _) _
 have hbr : Box4 w0 w.heap.size (.bool ra.neg) (.string ra.mag) (.bool rb.neg) (.string rb.mag) := by rw [← hw0]; exact Box4.new _ _ _ _ _ _
 have hX0 : GRow w0 p n Z := SlAt.mono hX (Nat.le_refl _) hbw
 have HX := lhd hX0
 have HZ := lhd hbw
 have HR := lhd hbr
 have HGr := lhd (fun W h1 => great1_any W p n c Z h1 hn)
 have HLg := lhd (fun W => long1R W ra rb hra hrb)
 obtain ⟨gt, hgt⟩ : ∃ b, gtP n Z = b := ⟨_, rfl⟩
 obtain ⟨lg, hlg⟩ : ∃ b, lgB ra rb = b := ⟨_, rfl⟩
 rw [hgt] at HGr
 rw [hlg] at HLg
 obtain ⟨gR, hgR⟩ : ∃ k, w.heap.size = k := ⟨_, rfl⟩
 rw [hgR] at HR
 cases gt
 ·cases lg
  ·obtain ⟨n8, z3⟩ := gtP_false hgt
   have hlg2 : ra.mag.size ≤ 4 ∧ rb.mag.size ≤ 4 := by
    unfold lgB at hlg
    rw [Bool.or_eq_false_iff, decide_eq_false_iff_not, decide_eq_false_iff_not] at hlg
    omega
   have zs := zx_smallV z3
   have bz := fun k => bn_24 (zs k)
   have z0 : ∀ k, n ≤ k → valZ (zx Z n k) = 0 := fun k hk => zx_outV k hk
   obtain ⟨A1, A2, CA, hA1, hA2⟩ := at_both n (zx Z n) p c ra rb n8 zs z0 hlg2.1 hlg2.2
   have HA1 := lhd (fun W (h : GRow W p n Z) => hA1 W (grow_zxV h))
   have HA2 := lhd (fun W (h : GRow W p n Z) => hA2 W (grow_zxV h))
   have hga : ¬ 65 < dgN (fun k => valZ (zx Z n k)) n → 0 < dgN (fun k => valZ (zx Z n k)) n → GAll 8800 (dgN (fun k => valZ (zx Z n k)) n - 1) (dgN (fun k => valZ (zx Z n k)) n) (prC (fun k => valZ (zx Z n k)) (dgN (fun k => valZ (zx Z n k)) n)) (dgN (fun k => valZ (zx Z n k)) n - 1) (prC (dC (fun k => valZ (zx Z n k)) (dgN (fun k => valZ (zx Z n k)) n)) (dgN (fun k => valZ (zx Z n k)) n - 1)) := fun h65 h0 => by
    obtain ⟨f, hf⟩ : ∃ f, (fun k => valZ (zx Z n k)) = f := ⟨_, rfl⟩
    rw [hf] at h65 h0 ⊢
    have hnt := dgN_top f n h0
    have hbz0 : ∀ i, Bn (f i) 24 := fun i => by rw [← hf]; exact bz i
    have hbz : ∀ i, Bn (f i) 34 := fun i => (hbz0 i).up (by decide)
    have hfo2 : ∀ i, dgN f n ≤ i → f i = 0 := fun i hi => by
     rcases Nat.lt_or_ge i n with h | h
     ·exact dgN_over f n i hi h
     ·rw [← hf]; exact z0 i h
    have hdb := dC_bn (f := f) (n := dgN f n) (e := 24) (by omega) hbz0
    have hg := gall_start (f := f) (g := dC f (dgN f n)) (n := dgN f n) (m := dgN f n - 1) (e := 34) (by omega) (by omega) hbz hdb hfo2 (fun i hi => by unfold dC; rw [if_neg (by omega)]) (fun _ => hnt) (fun h => by
     unfold dC
     rw [if_pos (by omega)]
     exact deC_top (fun _ => hnt) h)
    exact gall_up (by decide) _ _ _ _ _ hg
   have hS1 := fun W (h : GRow W p n Z) => pSquareE_any n (zx Z n) p c (e := 24) (E := 8800) (by omega) (fun k _ => by have := zs k; omega) bz (by decide) W (grow_zxV h) _ rfl _ rfl (by decide) (by decide) hga
   have hS2 := fun W (h : GRow W p n Z) => refSquare3_any n (zx Z n) p c (e := 24) (E := 8800) (by omega) (fun k _ => by have := zs k; omega) bz W (grow_zxV h) _ rfl z0 _ rfl (by decide) (by decide) hga
   obtain ⟨LS, hLS⟩ : ∃ k, (if sqCode (dgN (fun k => valZ (zx Z n k)) n) = 0 then sqN (fun k => valZ (zx Z n k)) (dgN (fun k => valZ (zx Z n k)) n) else 0) = k := ⟨_, rfl⟩
   have l1 : LS < 1000000000000 := by
    rw [← hLS]
    have h1 := dgN_le (fun k => valZ (zx Z n k)) n
    have h2 : sqN (fun k => valZ (zx Z n k)) (dgN (fun k => valZ (zx Z n k)) n) ≤ dgN (fun k => valZ (zx Z n k)) n + 1 := dvLQ_le
    split <;> omega
   rw [hLS] at hS1 hS2
   generalize sqF (fun k => valZ (zx Z n k)) (dgN (fun k => valZ (zx Z n k)) n) = FS at *
   generalize sqCode (dgN (fun k => valZ (zx Z n k)) n) = CS at *
   unfold RetPolE at hS1 hS2
   have HS1 := lhd hS1
   have HS2 := lhd hS2
   unfold RetA at HA1 HA2
   clear hX hX0 hbw hbr hgt hlg hn hra hrb _hz n8 z3 zs bz z0 hA1 hA2 hga hS1 hS2 hLS hlg2
   go_enter Tryz.func3, Tryz.ntmps3
   go_upto_region 1 with (fail)
   try rw [hw0]
   try rw [hgR]
   clear hgR hw0
   go_wp2_with fail
   refine (HGr.out _ HX.out).mono ?_
   rintro e y1 ⟨rfl, hbc⟩
   dsimp only
   have HR := lhd (HR.out.below hbc HR.out.2.2.2.2.2)
   have HZ := lhd (HZ.out.trans (hbc.mono HZ.out.size))
   have HX := lhd (SlAt.mono HX.out (Nat.le_refl _) hbc)
   clear hbc
   obtain ⟨r0, r1, r2, r3, rf, _⟩ := HR.out
   have rf0 := rf 0
   have rf1 := rf 1
   have rf2 := rf 2
   have rf3 := rf 3
   go_wp2_with fail
   refine (HLg.out _).mono ?_
   rintro e y2 ⟨rfl, hbc⟩
   dsimp only
   clear r0 r1 r2 r3 rf rf0 rf1 rf2 rf3
   have HR := lhd (HR.out.below hbc HR.out.2.2.2.2.2)
   have HZ := lhd (HZ.out.trans (hbc.mono HZ.out.size))
   have HX := lhd (SlAt.mono HX.out (Nat.le_refl _) hbc)
   clear hbc
   obtain ⟨r0, r1, r2, r3, rf, _⟩ := HR.out
   have rf0 := rf 0
   have rf1 := rf 1
   have rf2 := rf 2
   have rf3 := rf 3
   go_wp2_with fail
   refine (HA1.out _ HX.out).mono ?_
   rintro e y3 ⟨rfl, hbc⟩
   dsimp only
   clear r0 r1 r2 r3 rf rf0 rf1 rf2 rf3
   have HR := lhd (HR.out.below hbc HR.out.2.2.2.2.2)
   have HZ := lhd (HZ.out.trans (hbc.mono HZ.out.size))
   have HX := lhd (SlAt.mono HX.out (Nat.le_refl _) hbc)
   clear hbc
   go_upto_region 4 with (fail)
   have hnew := Box4.new y3 (.bool A1.neg) (.string A1.mag) (.bool A2.neg) (.string A2.mag) 26
   have hbc := (Below.refl y3.heap.size y3).alloc (Nat.le_refl _) (.cells #[.bool A1.neg, .string A1.mag, .bool A2.neg, .string A2.mag] 26)
   obtain ⟨gA, hgA⟩ : ∃ k, y3.heap.size = k := ⟨_, rfl⟩
   have HR := lhd (HR.out.below hbc HR.out.2.2.2.2.2)
   have HZ := lhd (HZ.out.trans (hbc.mono HZ.out.size))
   have HX := lhd (SlAt.mono HX.out (Nat.le_refl _) hbc)
   rw [hgA] at hnew ⊢
   clear hgA hbc
   have HA := lhd hnew
   clear hnew
   generalize y3.alloc (.cells #[.bool A1.neg, .string A1.mag, .bool A2.neg, .string A2.mag] 26) = v3 at *
   obtain ⟨r0, r1, r2, r3, rf, _⟩ := HR.out
   have rf0 := rf 0
   have rf1 := rf 1
   have rf2 := rf 2
   have rf3 := rf 3
   go_wp2_with fail
   refine (HA2.out _ HX.out).mono ?_
   rintro e y4 ⟨rfl, hbc⟩
   dsimp only
   clear r0 r1 r2 r3 rf rf0 rf1 rf2 rf3
   have HR := lhd (HR.out.below hbc HR.out.2.2.2.2.2)
   have HA := lhd (HA.out.below hbc HA.out.2.2.2.2.2)
   have HZ := lhd (HZ.out.trans (hbc.mono HZ.out.size))
   have HX := lhd (SlAt.mono HX.out (Nat.le_refl _) hbc)
   clear hbc
   go_upto_region 5 with (fail)
   have hnew := Box4.new y4 (.bool A1.neg) (.string A1.mag) (.bool A2.neg) (.string A2.mag) 26
   have hbc := (Below.refl y4.heap.size y4).alloc (Nat.le_refl _) (.cells #[.bool A1.neg, .string A1.mag, .bool A2.neg, .string A2.mag] 26)
   obtain ⟨gB, hgB⟩ : ∃ k, y4.heap.size = k := ⟨_, rfl⟩
   have HR := lhd (HR.out.below hbc HR.out.2.2.2.2.2)
   have HA := lhd (HA.out.below hbc HA.out.2.2.2.2.2)
   have HZ := lhd (HZ.out.trans (hbc.mono HZ.out.size))
   have HX := lhd (SlAt.mono HX.out (Nat.le_refl _) hbc)
   rw [hgB] at hnew ⊢
   clear hgB hbc
   have HB := lhd hnew
   clear hnew
   generalize y4.alloc (.cells #[.bool A1.neg, .string A1.mag, .bool A2.neg, .string A2.mag] 26) = v4 at *
   go_wp2_with fail
   refine (HS1.out _ HX.out).mono ?_
   rintro e y5 ⟨q5, k5, rfl, hrc, hbc⟩
   dsimp only
   have HA := lhd (HA.out.below hbc HA.out.2.2.2.2.2)
   have HB := lhd (HB.out.below hbc HB.out.2.2.2.2.2)
   have HZ := lhd (HZ.out.trans (hbc.mono HZ.out.size))
   have HX := lhd (SlAt.mono HX.out (Nat.le_refl _) hbc)
   clear hbc
   have HP := lhd hrc
   clear hrc
   go_wp2_with fail
   refine (HS2.out _ HX.out).mono ?_
   rintro e y6 ⟨q6, k6, rfl, hrc, hbc⟩
   dsimp only
   have HP := lhd (HP.out.below (Nat.le_refl _) hbc)
   have HQ := lhd hrc
   clear hrc HX
   have HA := lhd (HA.out.below hbc HA.out.2.2.2.2.2)
   have HB := lhd (HB.out.below hbc HB.out.2.2.2.2.2)
   have HZ := lhd (HZ.out.trans (hbc.mono HZ.out.size))
   clear hbc
   obtain ⟨a0, a1, a2, a3, af, _⟩ := HA.out
   have af0 := af 0
   have af1 := af 1
   have af2 := af 2
   have af3 := af 3
   obtain ⟨b0, b1, b2, b3, bf, _⟩ := HB.out
   have bf0 := bf 0
   have bf1 := bf 1
   have bf2 := bf 2
   have bf3 := bf 3
   go_wp2_with fail
   refine (sameZs_any _ _ _ _ _ _ _ HP.out HQ.out l1).mono ?_
   rintro e y7 ⟨rfl, hbc⟩
   dsimp only
   clear a0 a1 a2 a3 af af0 af1 af2 af3 b0 b1 b2 b3 bf bf0 bf1 bf2 bf3
   have HA := lhd (HA.out.below hbc HA.out.2.2.2.2.2)
   have HB := lhd (HB.out.below hbc HB.out.2.2.2.2.2)
   have HZ := lhd (HZ.out.trans (hbc.mono HZ.out.size))
   clear hbc HP HQ
   go_wp2_with fail
   refine (HAw.out _).mono ?_
   rintro e y8 ⟨rfl, hbc⟩
   dsimp only
   have HA := lhd (HA.out.below hbc HA.out.2.2.2.2.2)
   have HB := lhd (HB.out.below hbc HB.out.2.2.2.2.2)
   have HZ := lhd (HZ.out.trans (hbc.mono HZ.out.size))
   clear hbc
   go_wp2_with fail
   go_ret
   exact ⟨rfl, HZ.out⟩
  ·clear hX hX0 hbw hbr hgt hlg hn hra hrb _hz
   go_enter Tryz.func3, Tryz.ntmps3
   go_upto_region 1 with (fail)
   try rw [hw0]
   try rw [hgR]
   clear hgR hw0
   go_wp2_with fail
   refine (HGr.out _ HX.out).mono ?_
   rintro e y1 ⟨rfl, hbc⟩
   dsimp only
   have HR := lhd (HR.out.below hbc HR.out.2.2.2.2.2)
   have HZ := lhd (HZ.out.trans (hbc.mono HZ.out.size))
   have HX := lhd (SlAt.mono HX.out (Nat.le_refl _) hbc)
   clear hbc
   obtain ⟨r0, r1, r2, r3, rf, _⟩ := HR.out
   have rf0 := rf 0
   have rf1 := rf 1
   have rf2 := rf 2
   have rf3 := rf 3
   go_wp2_with fail
   refine (HLg.out _).mono ?_
   rintro e y2 ⟨rfl, hbc⟩
   dsimp only
   clear r0 r1 r2 r3 rf rf0 rf1 rf2 rf3
   have HR := lhd (HR.out.below hbc HR.out.2.2.2.2.2)
   have HZ := lhd (HZ.out.trans (hbc.mono HZ.out.size))
   have HX := lhd (SlAt.mono HX.out (Nat.le_refl _) hbc)
   clear hbc
   go_wp2_with fail
   refine (HAw.out _).mono ?_
   rintro e y3 ⟨rfl, hbc⟩
   dsimp only
   have HR := lhd (HR.out.below hbc HR.out.2.2.2.2.2)
   have HZ := lhd (HZ.out.trans (hbc.mono HZ.out.size))
   have HX := lhd (SlAt.mono HX.out (Nat.le_refl _) hbc)
   clear hbc
   go_wp2_with fail
   go_ret
   exact ⟨rfl, HZ.out⟩
 ·clear hX hX0 hbw hbr hgt hlg hn hra hrb _hz
  go_enter Tryz.func3, Tryz.ntmps3
  go_upto_region 1 with (fail)
  try rw [hw0]
  try rw [hgR]
  clear hgR hw0
  go_wp2_with fail
  refine (HGr.out _ HX.out).mono ?_
  rintro e y1 ⟨rfl, hbc⟩
  dsimp only
  have HR := lhd (HR.out.below hbc HR.out.2.2.2.2.2)
  have HZ := lhd (HZ.out.trans (hbc.mono HZ.out.size))
  have HX := lhd (SlAt.mono HX.out (Nat.le_refl _) hbc)
  clear hbc
  go_wp2_with fail
  refine (HAw.out _).mono ?_
  rintro e y2 ⟨rfl, hbc⟩
  dsimp only
  have HR := lhd (HR.out.below hbc HR.out.2.2.2.2.2)
  have HZ := lhd (HZ.out.trans (hbc.mono HZ.out.size))
  have HX := lhd (SlAt.mono HX.out (Nat.le_refl _) hbc)
  clear hbc
  go_wp2_with fail
  go_ret
  exact ⟨rfl, HZ.out⟩
end Go.Proofs.YtmbamcpndbimaaaGreatDoor
