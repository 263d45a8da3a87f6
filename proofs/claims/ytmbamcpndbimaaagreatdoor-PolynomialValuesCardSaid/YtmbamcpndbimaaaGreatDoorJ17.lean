/- polynomial.large, Divide, Gcd, Derivative, Squarefree: the walks. -/
import Derived.Test.YtmbamcpndbimaaaGreatDoorJ16
import Derived.Test.YtmbamcpndbimaaaGreatDoorRows
import Derived.Test.YtmbamcpndbimaaaGreatDoorJ0
import Derived.OwnWalk
import Derived.OwnWalkIn
import Derived.KernelRfl
import Derived.Lib.Hide
import Derived.Test.YtmbamcpndbimaaaGreatDoorShelfA
import Derived.WalkKit
import Derived.Lib.OthersKept
import Derived.WalkSpells
import Derived.Outline
namespace Go.Proofs.YtmbamcpndbimaaaGreatDoor
open Go.RowKit Go.Shelf
theorem large_any (n : Nat) (p : Option Addr) (c : Nat) (hn : n ≤ 1000000) (b : Bool) (hb : decide (65 < n) = b) (w : World) : Calls Tryz.prog 19 #[.slice p n c] w fun e w' => e = .returned (.bool b) ∧ w' = w := by
 by_cases h : 65 < n
 ·have b1 : (n : Int) - 1 > 64 := by omega
  rw [decide_eq_true h] at hb
  subst hb
  go_enter Tryz.func19, Tryz.ntmps19
  go_wp2
  go_ret
  exact ⟨by simp, rfl⟩
 ·have b1 : ¬ (n : Int) - 1 > 64 := by omega
  rw [decide_eq_false h] at hb
  subst hb
  go_enter Tryz.func19, Tryz.ntmps19
  go_wp2
  go_ret
  exact ⟨by simp, rfl⟩
def RetDvE (a b : Nat) (f g : Nat → Int) (x : Int) (w : World) (e : Ending) (w' : World) : Prop := ∃ q c p d, e = .returned (.tuple #[.slice q a c, .slice p b d, .int .i64 x]) ∧ RowF w' q a f ∧ RowF w' p b g ∧ Below w.heap.size w w'
def dvCode (n m : Nat) : Int := if 65 < n ∨ 65 < m then 4 else if m = 0 then 9 else 0
set_option maxRecDepth 100000 in
set_option maxHeartbeats 8000000 in
theorem pDivide_any (n m : Nat) (Z Y : Nat → ZI) (p q : Option Addr) (c d : Nat) {e : Nat} (hn : n ≤ 1000) (hm : m ≤ 1000) (hz : ∀ k, k < n → (Z k).mag.size ≤ 100000000) (hy : ∀ k, k < m → (Y k).mag.size ≤ 100000000) (hf : ∀ k, Bn (valZ (Z k)) e) (hg : ∀ k, Bn (valZ (Y k)) e) (hB : e + 66 * (e + 1) ≤ 100000000)
  (w : World) (hX : GRow w p n Z) (hY : GRow w q m Y) (f g : Nat → Int) (hfe : (fun k => valZ (Z k)) = f) (hge : (fun k => valZ (Y k)) = g) (n1 m1 : Nat) (hne : dgN f n = n1) (hme : dgN g m = m1) :
  Calls Tryz.prog 14 #[.slice p n c, .slice q m d] w (RetDvE (if dvCode n1 m1 = 0 then dvLQ f g n1 m1 else 0) (if dvCode n1 m1 = 0 then dvLR f g n1 m1 else 0) (dvQ f g n1 m1) (dvR f g n1 m1) (dvCode n1 m1) w) := by
 have hc1 := Canonical_any n Z p c (by omega) hz w hX
 have hc2 := fun W (hW : Below w.heap.size w W) => Canonical_any m Y q d (by omega) hy W (SlAt.mono hY (Nat.le_refl _) hW)
 have hf' : ∀ k, Bn (f k) e := fun k => by rw [← hfe]; exact hf k
 have hg' : ∀ k, Bn (g k) e := fun k => by rw [← hge]; exact hg k
 have hn1 := dgN_le f n
 have hm1 := dgN_le g m
 have hnt := fun h => dgN_top f n h
 have hmt := fun h => dgN_top g m h
 rw [hfe] at hc1
 rw [hge] at hc2
 rw [hne] at hn1 hc1 hnt
 rw [hme] at hm1 hc2 hmt
 unfold RetPol at hc1 hc2
 obtain ⟨l1, hl1⟩ : ∃ b, decide (65 < n1) = b := ⟨_, rfl⟩
 obtain ⟨l2, hl2⟩ : ∃ b, decide (65 < m1) = b := ⟨_, rfl⟩
 have HL1 := lhd (fun q c W => large_any n1 q c (by omega) l1 hl1 W)
 have HL2 := lhd (fun q c W => large_any m1 q c (by omega) l2 hl2 W)
 have Hl1 := lhd hl1
 have Hl2 := lhd hl2
 have HDv := lhd (fun (h1 : ¬ 65 < n1) (h0 : 0 < m1) q c q' c' W hq hq' => pdiv_any n1 m1 f g q q' c c' (by omega) (by omega) h0 (Nat.le_trans (Nat.add_le_add_left (Nat.mul_le_mul_right _ (show n1 - m1 + 1 ≤ 66 by omega)) e) hB) hf' hg' W hq hq')
 have HC1 := lhd hc1
 have HC2 := lhd hc2
 have HLQ : Hid (dvCode n1 m1 = 0 → (if dvCode n1 m1 = 0 then dvLQ f g n1 m1 else 0) = dvLQ f g n1 m1 ∧ (if dvCode n1 m1 = 0 then dvLR f g n1 m1 else 0) = dvLR f g n1 m1) := lhd (fun h => ⟨if_pos h, if_pos h⟩)
 have HLN : Hid (dvCode n1 m1 ≠ 0 → (if dvCode n1 m1 = 0 then dvLQ f g n1 m1 else 0) = 0 ∧ (if dvCode n1 m1 = 0 then dvLR f g n1 m1 else 0) = 0) := lhd (fun h => ⟨if_neg h, if_neg h⟩)
 have HCd : Hid (dvCode n1 m1 = if 65 < n1 ∨ 65 < m1 then 4 else if m1 = 0 then 9 else 0) := lhd rfl
 obtain ⟨A, hA⟩ : ∃ k, (if dvCode n1 m1 = 0 then dvLQ f g n1 m1 else 0) = k := ⟨_, rfl⟩
 obtain ⟨B, hBB⟩ : ∃ k, (if dvCode n1 m1 = 0 then dvLR f g n1 m1 else 0) = k := ⟨_, rfl⟩
 obtain ⟨C, hC⟩ : ∃ k, dvCode n1 m1 = k := ⟨_, rfl⟩
 rw [hA, hBB] at HLQ HLN
 rw [hA, hBB, hC]
 rw [hC] at HLQ HLN HCd
 unfold RetDv at HDv
 obtain ⟨LQ, hLQ⟩ : ∃ k, dvLQ f g n1 m1 = k := ⟨_, rfl⟩
 obtain ⟨LR, hLR⟩ : ∃ k, dvLR f g n1 m1 = k := ⟨_, rfl⟩
 obtain ⟨FQ, hFQ⟩ : ∃ k, dvQ f g n1 m1 = k := ⟨_, rfl⟩
 obtain ⟨FR, hFR⟩ : ∃ k, dvR f g n1 m1 = k := ⟨_, rfl⟩
 rw [hLQ, hLR, hFQ, hFR] at HDv
 rw [hLQ, hLR] at HLQ
 rw [hFQ, hFR]
 clear hc1 hc2 hX hY hz hy hf hg hf' hg' hfe hge hne hme hl1 hl2 hnt hmt hB hA hBB hC hLQ hLR hFQ hFR
 go_enter Tryz.func14, Tryz.ntmps14
 go_wp2_with fail
 refine HC1.out.mono ?_
 rintro e1 w1 ⟨q1, c1, rfl, hr1, hb1⟩
 dsimp only
 have HC := lhd (HC2.out w1 hb1)
 have Hr1 := lhd hr1
 have Hb1 := lhd hb1
 clear hr1 hb1 HC1 HC2
 go_wp2_with fail
 refine HC.out.mono ?_
 rintro e2 w2 ⟨q2, c2, rfl, hr2, hb2⟩
 dsimp only
 have Hr1' := lhd (RowF.below Hr1.out (Nat.le_refl _) hb2)
 have Hr2 := lhd hr2
 have Hb2 := lhd (Hb1.out.trans (hb2.mono Hb1.out.size))
 clear hr2 hb2 HC Hr1 Hb1
 go_wp2_with fail
 refine (HL1.out _ _ _).mono ?_
 rintro e3 w3 ⟨rfl, rfl⟩
 dsimp only
 cases l1
 ·go_wp2_with fail
  refine (HL2.out _ _ _).mono ?_
  rintro e4 w4 ⟨rfl, rfl⟩
  dsimp only
  cases l2
  ·have g1 : ¬ 65 < n1 := of_decide_eq_false Hl1.out
   have g2 : ¬ 65 < m1 := of_decide_eq_false Hl2.out
   by_cases hm0 : m1 = 0
   ·have hc : C = 9 := by rw [HCd.out, if_neg (by omega), if_pos hm0]
    subst hc
    obtain ⟨ea, eb⟩ := HLN.out (by decide)
    subst ea eb
    have b1 : ((m1 : Int) == 0) = true := by rw [beq_iff_eq]; omega
    clear HCd HLQ HLN
    go_wp2_with fail
    go_ret3
    exact ⟨none, 0, none, 0, rfl, .inl rfl, .inl rfl, Hb2.out⟩
   ·have hc : C = 0 := by rw [HCd.out, if_neg (by omega), if_neg hm0]
    subst hc
    obtain ⟨ea, eb⟩ := HLQ.out rfl
    subst ea eb
    have b1 : ((m1 : Int) == 0) = false := by rw [beq_eq_false_iff_ne]; omega
    have HD2 := lhd (HDv.out g1 (by omega) _ c1 _ c2 _ Hr1'.out Hr2.out)
    clear HCd HLQ HLN HDv
    go_wp2_with fail
    refine HD2.out.mono ?_
    rintro e5 w5 ⟨q5, c5, p5, d5, rfl, ha5, hb5, hbb5⟩
    dsimp only
    have Ha5 := lhd ha5
    have Hb5 := lhd hb5
    have Hbb5 := lhd (Hb2.out.trans (hbb5.mono Hb2.out.size))
    clear ha5 hb5 hbb5 HD2
    go_wp2_with fail
    go_ret3
    exact ⟨q5, c5, p5, d5, rfl, Ha5.out, Hb5.out, Hbb5.out⟩
  ·have hc : C = 4 := by rw [HCd.out, if_pos (.inr (of_decide_eq_true Hl2.out))]
   subst hc
   obtain ⟨ea, eb⟩ := HLN.out (by decide)
   subst ea eb
   clear HCd HLQ HLN
   go_wp2_with fail
   go_ret3
   exact ⟨none, 0, none, 0, rfl, .inl rfl, .inl rfl, Hb2.out⟩
 ·have hc : C = 4 := by rw [HCd.out, if_pos (.inl (of_decide_eq_true Hl1.out))]
  subst hc
  obtain ⟨ea, eb⟩ := HLN.out (by decide)
  subst ea eb
  clear HCd HLQ HLN
  go_wp2_with fail
  go_ret3
  exact ⟨none, 0, none, 0, rfl, .inl rfl, .inl rfl, Hb2.out⟩
def gcCode (n m : Nat) : Int := if 65 < n ∨ 65 < m then 4 else 0
def gcR (f g : Nat → Int) (n m : Nat) : Nat × (Nat → Int) := gcS m n (prC f n) m (prC g m)
set_option maxRecDepth 100000 in
set_option maxHeartbeats 8000000 in
theorem pGcd_any (n m : Nat) (Z Y : Nat → ZI) (p q : Option Addr) (c d : Nat) {e K : Nat} (hn : n ≤ 1000) (hm : m ≤ 1000) (hz : ∀ k, k < n → (Z k).mag.size ≤ 100000000) (hy : ∀ k, k < m → (Y k).mag.size ≤ 100000000) (hf : ∀ k, Bn (valZ (Z k)) e) (hg : ∀ k, Bn (valZ (Y k)) e)
  (w : World) (hX : GRow w p n Z) (hY : GRow w q m Y) (f g : Nat → Int) (hfe : (fun k => valZ (Z k)) = f) (hge : (fun k => valZ (Y k)) = g) (n1 m1 : Nat) (hne : dgN f n = n1) (hme : dgN g m = m1) (hK : K ≤ 100000000) (hB : ¬ 65 < n1 → ¬ 65 < m1 → gcB K n1 m1 e) :
  Calls Tryz.prog 16 #[.slice p n c, .slice q m d] w (RetPolE (if gcCode n1 m1 = 0 then (gcR f g n1 m1).1 else 0) (gcR f g n1 m1).2 (gcCode n1 m1) w) := by
 have hc1 := Canonical_any n Z p c (by omega) hz w hX
 have hc2 := fun W (hW : Below w.heap.size w W) => Canonical_any m Y q d (by omega) hy W (SlAt.mono hY (Nat.le_refl _) hW)
 have hf' : ∀ k, Bn (f k) e := fun k => by rw [← hfe]; exact hf k
 have hg' : ∀ k, Bn (g k) e := fun k => by rw [← hge]; exact hg k
 have hn1 := dgN_le f n
 have hm1 := dgN_le g m
 have hnt := fun h => dgN_top f n h
 have hmt := fun h => dgN_top g m h
 rw [hfe] at hc1
 rw [hge] at hc2
 rw [hne] at hn1 hc1 hnt
 rw [hme] at hm1 hc2 hmt
 unfold RetPol at hc1 hc2
 obtain ⟨l1, hl1⟩ : ∃ b, decide (65 < n1) = b := ⟨_, rfl⟩
 obtain ⟨l2, hl2⟩ : ∃ b, decide (65 < m1) = b := ⟨_, rfl⟩
 have HL1 := lhd (fun q c W => large_any n1 q c (by omega) l1 hl1 W)
 have HL2 := lhd (fun q c W => large_any m1 q c (by omega) l2 hl2 W)
 have Hl1 := lhd hl1
 have Hl2 := lhd hl2
 have HGc := lhd (fun (h1 : ¬ 65 < n1) (h2 : ¬ 65 < m1) q c q' c' W hq hq' => pgcd_any n1 m1 f g q q' c c' (by omega) (by omega) hK (hB h1 h2) hf' hg' hnt hmt W hq hq')
 have HC1 := lhd hc1
 have HC2 := lhd hc2
 have HGR := lhd (show gcR f g n1 m1 = gcS m1 n1 (prC f n1) m1 (prC g m1) from rfl)
 rw [← HGR.out] at HGc
 have HLQ : Hid (gcCode n1 m1 = 0 → (if gcCode n1 m1 = 0 then (gcR f g n1 m1).1 else 0) = (gcR f g n1 m1).1) := lhd (fun h => if_pos h)
 have HLN : Hid (gcCode n1 m1 ≠ 0 → (if gcCode n1 m1 = 0 then (gcR f g n1 m1).1 else 0) = 0) := lhd (fun h => if_neg h)
 have HCd : Hid (gcCode n1 m1 = if 65 < n1 ∨ 65 < m1 then 4 else 0) := lhd rfl
 obtain ⟨A, hA⟩ : ∃ k, (if gcCode n1 m1 = 0 then (gcR f g n1 m1).1 else 0) = k := ⟨_, rfl⟩
 obtain ⟨C, hC⟩ : ∃ k, gcCode n1 m1 = k := ⟨_, rfl⟩
 obtain ⟨LG, hLG⟩ : ∃ k, (gcR f g n1 m1).1 = k := ⟨_, rfl⟩
 obtain ⟨FG, hFG⟩ : ∃ k, (gcR f g n1 m1).2 = k := ⟨_, rfl⟩
 rw [hA] at HLQ HLN
 rw [hA, hC, hFG]
 rw [hC] at HLQ HLN HCd
 unfold RetPol at HGc
 rw [hLG, hFG] at HGc
 rw [hLG] at HLQ
 clear hc1 hc2 hX hY hz hy hf hg hf' hg' hfe hge hne hme hl1 hl2 hnt hmt hB hA hC hLG hFG HGR
 go_enter Tryz.func16, Tryz.ntmps16
 go_wp2_with fail
 refine HC1.out.mono ?_
 rintro e1 w1 ⟨q1, c1, rfl, hr1, hb1⟩
 dsimp only
 have HC := lhd (HC2.out w1 hb1)
 have Hr1 := lhd hr1
 have Hb1 := lhd hb1
 clear hr1 hb1 HC1 HC2
 go_wp2_with fail
 refine HC.out.mono ?_
 rintro e2 w2 ⟨q2, c2, rfl, hr2, hb2⟩
 dsimp only
 have Hr1' := lhd (RowF.below Hr1.out (Nat.le_refl _) hb2)
 have Hr2 := lhd hr2
 have Hb2 := lhd (Hb1.out.trans (hb2.mono Hb1.out.size))
 clear hr2 hb2 HC Hr1 Hb1
 go_wp2_with fail
 refine (HL1.out _ _ _).mono ?_
 rintro e3 w3 ⟨rfl, rfl⟩
 dsimp only
 cases l1
 ·go_wp2_with fail
  refine (HL2.out _ _ _).mono ?_
  rintro e4 w4 ⟨rfl, rfl⟩
  dsimp only
  cases l2
  ·have g1 : ¬ 65 < n1 := of_decide_eq_false Hl1.out
   have g2 : ¬ 65 < m1 := of_decide_eq_false Hl2.out
   have hc : C = 0 := by rw [HCd.out, if_neg (by omega)]
   subst hc
   have ea := HLQ.out rfl
   subst ea
   have HD2 := lhd (HGc.out g1 g2 _ c1 _ c2 _ Hr1'.out Hr2.out)
   clear HCd HLQ HLN HGc
   go_wp2_with fail
   refine HD2.out.mono ?_
   rintro e5 w5 ⟨q5, c5, rfl, ha5, hbb5⟩
   dsimp only
   have Ha5 := lhd ha5
   have Hbb5 := lhd (Hb2.out.trans (hbb5.mono Hb2.out.size))
   clear ha5 hbb5 HD2
   go_wp2_with fail
   go_ret2
   exact ⟨q5, c5, rfl, Ha5.out, Hbb5.out⟩
  ·have hc : C = 4 := by rw [HCd.out, if_pos (.inr (of_decide_eq_true Hl2.out))]
   subst hc
   have ea := HLN.out (by decide)
   subst ea
   clear HCd HLQ HLN
   go_wp2_with fail
   go_ret2
   exact ⟨none, 0, rfl, .inl rfl, Hb2.out⟩
 ·have hc : C = 4 := by rw [HCd.out, if_pos (.inl (of_decide_eq_true Hl1.out))]
  subst hc
  have ea := HLN.out (by decide)
  subst ea
  clear HCd HLQ HLN
  go_wp2_with fail
  go_ret2
  exact ⟨none, 0, rfl, .inl rfl, Hb2.out⟩
open Go.RowKit Go.Shelf
theorem deC_top {f : Nat → Int} {n : Nat} (h : 0 < n → f (n - 1) ≠ 0) : 0 < n - 1 → deC f (n - 1 - 1) ≠ 0 := fun h0 => by
 have h1 := h (by omega)
 unfold deC
 rw [show n - 1 - 1 + 1 = n - 1 from by omega]
 exact Int.mul_ne_zero h1 (by omega)
theorem gcS_le : ∀ (k n m : Nat) (f g : Nat → Int), m ≤ n → (gcS k n f m g).1 ≤ n
 | 0, n, m, f, g, _ => Nat.le_refl _
 | k + 1, n, m, f, g, h => by
  rw [gcS]
  split
  ·exact Nat.le_refl _
  ·rename_i h0
   rw [if_neg (by omega)]
   exact Nat.le_trans (gcS_le k m _ g _ (Nat.le_of_lt (dvLR_lt (by omega) (by omega)))) h
def dC (f : Nat → Int) (n k : Nat) : Int := if k < n - 1 then deC f k else 0
theorem dC_bn {f : Nat → Int} {e n : Nat} (hn : n ≤ 1000) (hf : ∀ k, Bn (f k) e) (k : Nat) : Bn (dC f n k) (e + 10) := by
 unfold dC
 split
 ·exact deC_bn hf (by omega)
 ·exact Bn.zero _
def sqG (f : Nat → Int) (n : Nat) : Nat × (Nat → Int) := gcR f (dC f n) n (n - 1)
def sqN (f : Nat → Int) (n : Nat) : Nat := dvLQ f (sqG f n).2 n (sqG f n).1
def sqF (f : Nat → Int) (n : Nat) : Nat → Int := prC (dvQ f (sqG f n).2 n (sqG f n).1) (sqN f n)
def sqCode (n : Nat) : Int := if 65 < n then 4 else if n = 0 then 1 else 0
theorem dvLQ_top {f g : Nat → Int} {n m : Nat} (h : 0 < dvLQ f g n m) : dvQ f g n m (dvLQ f g n m - 1) ≠ 0 := by
 unfold dvLQ dvQ at *
 split at h
 ·omega
 ·rename_i hnm
  rw [if_neg hnm]
  exact dgN_top _ _ h
theorem dvLQ_le {f g : Nat → Int} {n m : Nat} : dvLQ f g n m ≤ n + 1 := by
 unfold dvLQ
 split
 ·omega
 ·have := dgN_le (dvS f g n m (n - m + 1)).1 (n - m + 1); omega
theorem sq_parts {f : Nat → Int} {n e K : Nat} (hn : 0 < n) (hn2 : n ≤ 999) (hf : ∀ k, Bn (f k) e) (he : e ≤ 9000000) (hcf : f (n - 1) ≠ 0) (hK : K ≤ 30000000) (hB : gcB K n (n - 1) (e + 10)) (hB2 : n * K ≤ 270000000) :
  0 < (sqG f n).1 ∧ (sqG f n).1 ≤ n ∧ (∃ E, (∀ k, Bn ((sqG f n).2 k) E) ∧ (e + 10) + (n - (sqG f n).1 + 1) * (E + 1) ≤ 100000000 ∧ ∀ k, Bn (dvQ f (sqG f n).2 n (sqG f n).1 k) 100000000) := by
 have hfb : ∀ k, Bn (f k) (e + 10) := fun k => (hf k).up (by omega)
 have hdb := dC_bn (n := n) (by omega) hf
 have hdt : 0 < n - 1 → dC f n (n - 1 - 1) ≠ 0 := fun h => by
  unfold dC
  rw [if_pos (by omega)]
  exact deC_top (fun _ => hcf) h
 obtain ⟨h1, h2, E, h3, h4⟩ := gcS_out (n - 1) n (n - 1) (prC f n) (prC (dC f n) (n - 1)) (e + 10) (Nat.le_refl _) hB (fun i => prC_bn hfb n i) (fun i => prC_bn hdb (n - 1) i) (prC_top fun _ => hcf) (prC_top hdt) (.inl hn)
 change 0 < (sqG f n).1 at h1
 change (E + 1) * 3 ^ (sqG f n).1 ≤ K at h3
 change ∀ i, Bn ((sqG f n).2 i) E at h4
 have h5 : (E + 1) * 3 ≤ K := by
  refine Nat.le_trans (Nat.mul_le_mul_left _ ?_) h3
  have : 3 ^ 1 ≤ 3 ^ (sqG f n).1 := Nat.pow_le_pow_right (by decide) h1
  omega
 have h6 : n * ((E + 1) * 3) ≤ 270000000 := Nat.le_trans (Nat.mul_le_mul_left _ h5) hB2
 have h7 : (sqG f n).1 ≤ n := gcS_le (n - 1) n (n - 1) _ _ (by omega)
 have h8 : (n - (sqG f n).1 + 1) * (E + 1) ≤ n * (E + 1) := Nat.mul_le_mul_right _ (by omega)
 have h9 : n * ((E + 1) * 3) = n * (E + 1) * 3 := by rw [Nat.mul_assoc]
 refine ⟨h1, h7, E, h4, by omega, fun k => ?_⟩
 exact ((dvS_bn hfb h4 _).1 k).up (by omega)
set_option maxRecDepth 100000 in
set_option maxHeartbeats 8000000 in
theorem pSquare_any (n : Nat) (Z : Nat → ZI) (p : Option Addr) (c : Nat) {e K : Nat} (hn : n ≤ 999) (hz : ∀ k, k < n → (Z k).mag.size ≤ 100000000) (hf : ∀ k, Bn (valZ (Z k)) e) (he : e ≤ 9000000) (w : World) (hX : GRow w p n Z) (f : Nat → Int) (hfe : (fun k => valZ (Z k)) = f) (n1 : Nat) (hne : dgN f n = n1)
  (hK : K ≤ 30000000) (hB : ¬ 65 < n1 → gcB K n1 (n1 - 1) (e + 10)) (hB2 : ¬ 65 < n1 → n1 * K ≤ 270000000) :
  Calls Tryz.prog 9 #[.slice p n c] w (RetPolE (if sqCode n1 = 0 then sqN f n1 else 0) (sqF f n1) (sqCode n1) w) := by
 have hc1 := Canonical_any n Z p c (by omega) hz w hX
 have hn1 := dgN_le f n
 have hnt := fun h => dgN_top f n h
 rw [hfe] at hc1
 rw [hne] at hn1 hc1 hnt
 have hf' : ∀ k, Bn (f k) e := fun k => by rw [← hfe]; exact hf k
 have hfb : ∀ k, Bn (f k) (e + 10) := fun k => (hf' k).up (by omega)
 have hdb := dC_bn (n := n1) (by omega) hf'
 have hdt : 0 < n1 → 0 < n1 - 1 → dC f n1 (n1 - 1 - 1) ≠ 0 := fun h0 h => by
  unfold dC
  rw [if_pos (by omega)]
  exact deC_top (fun h => hnt h) h
 have HDe := lhd (fun q c W hq => deriv_any n1 f q c (by omega) (show e ≤ 100000000 by omega) hf' W hq)
 have HGc := lhd (fun (h1 : ¬ 65 < n1) (h0 : 0 < n1) q c q' c' W hq (hq' : RowF W q' (n1 - 1) (deC f)) => pgcd_any n1 (n1 - 1) f (dC f n1) q q' c c' (by omega) (by omega) (show K ≤ 100000000 by omega) (hB h1) hfb hdb hnt (hdt h0) W hq (hq'.congr fun k hk => (if_pos hk).symm))
 have HSp := lhd (fun (h1 : ¬ 65 < n1) (h0 : 0 < n1) => sq_parts h0 (by omega) hf' he (hnt h0) hK (hB h1) (hB2 h1))
 have HGR := lhd (show sqG f n1 = gcS (n1 - 1) n1 (prC f n1) (n1 - 1) (prC (dC f n1) (n1 - 1)) from rfl)
 rw [← HGR.out] at HGc
 have HDv := lhd (fun (h1 : ¬ 65 < n1) (h0 : 0 < n1) q c q' c' W hq (hq' : RowF W q' (sqG f n1).1 (sqG f n1).2) => (by
  obtain ⟨a, b, E, hE, hb, _⟩ := HSp.out h1 h0
  exact pdiv_any n1 (sqG f n1).1 f (sqG f n1).2 q q' c c' (by omega) (by omega) a hb hfb hE W hq hq' : Calls Tryz.prog 28 #[.slice q n1 c, .slice q' (sqG f n1).1 c'] W (RetDv (dvLQ f (sqG f n1).2 n1 (sqG f n1).1) (dvLR f (sqG f n1).2 n1 (sqG f n1).1) (dvQ f (sqG f n1).2 n1 (sqG f n1).1) (dvR f (sqG f n1).2 n1 (sqG f n1).1) W)))
 have HPr := lhd (fun (h1 : ¬ 65 < n1) (h0 : 0 < n1) q c W (hq : RowF W q (sqN f n1) (dvQ f (sqG f n1).2 n1 (sqG f n1).1)) => (by
  obtain ⟨a, b, E, hE, hb, hQ⟩ := HSp.out h1 h0
  have hle : sqN f n1 ≤ n1 + 1 := dvLQ_le
  exact prim_any (sqN f n1) _ q c (by omega) (Nat.le_refl _) hQ (fun h => dvLQ_top h) W hq : Calls Tryz.prog 31 #[.slice q (sqN f n1) c] W (RetPol (sqN f n1) (sqF f n1) W)))
 rw [show dvLQ f (sqG f n1).2 n1 (sqG f n1).1 = sqN f n1 from rfl] at HDv
 obtain ⟨l1, hl1⟩ : ∃ b, decide (65 < n1) = b := ⟨_, rfl⟩
 have HL1 := lhd (fun q c W => large_any n1 q c (by omega) l1 hl1 W)
 have Hl1 := lhd hl1
 unfold RetPol at hc1 HDe HGc HPr
 unfold RetDv at HDv
 have HC1 := lhd hc1
 have HLQ : Hid (sqCode n1 = 0 → (if sqCode n1 = 0 then sqN f n1 else 0) = sqN f n1) := lhd (fun h => if_pos h)
 have HLN : Hid (sqCode n1 ≠ 0 → (if sqCode n1 = 0 then sqN f n1 else 0) = 0) := lhd (fun h => if_neg h)
 have HCd : Hid (sqCode n1 = if 65 < n1 then 4 else if n1 = 0 then 1 else 0) := lhd rfl
 obtain ⟨A, hA⟩ : ∃ k, (if sqCode n1 = 0 then sqN f n1 else 0) = k := ⟨_, rfl⟩
 obtain ⟨C, hC⟩ : ∃ k, sqCode n1 = k := ⟨_, rfl⟩
 obtain ⟨N, hN⟩ : ∃ k, sqN f n1 = k := ⟨_, rfl⟩
 obtain ⟨F, hF⟩ : ∃ k, sqF f n1 = k := ⟨_, rfl⟩
 obtain ⟨LG, hLG⟩ : ∃ k, (sqG f n1).1 = k := ⟨_, rfl⟩
 obtain ⟨FG, hFG⟩ : ∃ k, (sqG f n1).2 = k := ⟨_, rfl⟩
 rw [hA] at HLQ HLN
 rw [hA, hC, hF]
 rw [hC] at HLQ HLN HCd
 rw [hN] at HLQ HDv HPr
 rw [hF, hLG, hFG] at HPr
 rw [hLG, hFG] at HDv HGc
 obtain ⟨FQ, hFQ⟩ : ∃ k, dvQ f FG n1 LG = k := ⟨_, rfl⟩
 obtain ⟨FR, hFR⟩ : ∃ k, dvR f FG n1 LG = k := ⟨_, rfl⟩
 obtain ⟨LR, hLR⟩ : ∃ k, dvLR f FG n1 LG = k := ⟨_, rfl⟩
 rw [hFQ, hFR, hLR] at HDv
 rw [hFQ] at HPr
 obtain ⟨n2, hn2⟩ : ∃ k, n1 - 1 = k := ⟨_, rfl⟩
 rw [hn2] at HDe HGc
 obtain ⟨DF, hDF⟩ : ∃ k, deC f = k := ⟨_, rfl⟩
 rw [hDF] at HDe HGc
 clear hc1 hX hz hf hf' hfb hdb hdt hfe hne hnt hl1 hB hB2 hK hA hC hN hF hLG hFG hFQ hFR hLR hn2 hDF HSp HGR
 go_enter Tryz.func9, Tryz.ntmps9
 go_wp2_with fail
 refine HC1.out.mono ?_
 rintro e1 w1 ⟨q1, c1, rfl, hr1, hb1⟩
 dsimp only
 have Hr1 := lhd hr1
 have Hb1 := lhd hb1
 clear hr1 hb1 HC1
 go_wp2_with fail
 refine (HL1.out _ _ _).mono ?_
 rintro e3 w3 ⟨rfl, rfl⟩
 dsimp only
 cases l1
 ·have g1 : ¬ 65 < n1 := of_decide_eq_false Hl1.out
  by_cases hm0 : n1 = 0
  ·have hc : C = 1 := by rw [HCd.out, if_neg g1, if_pos hm0]
   subst hc
   have ea := HLN.out (by decide)
   subst ea
   have b1 : ((n1 : Int) == 0) = true := by rw [beq_iff_eq]; omega
   clear HCd HLQ HLN
   go_wp2_with fail
   go_ret2
   exact ⟨none, 0, rfl, .inl rfl, Hb1.out⟩
  ·have hc : C = 0 := by rw [HCd.out, if_neg g1, if_neg hm0]
   subst hc
   have ea := HLQ.out rfl
   subst ea
   have b1 : ((n1 : Int) == 0) = false := by rw [beq_eq_false_iff_ne]; omega
   have h0 : 0 < n1 := by omega
   have HD1 := lhd (HDe.out q1 c1 _ Hr1.out)
   have HGg := lhd (HGc.out g1 h0)
   have HDd := lhd (HDv.out g1 h0)
   have HPp := lhd (HPr.out g1 h0)
   clear HCd HLQ HLN HDe HGc HDv HPr
   go_wp2_with fail
   refine HD1.out.mono ?_
   rintro e4 w4 ⟨q4, c4, rfl, hr4, hb4⟩
   dsimp only
   have Hr4' := lhd (RowF.below Hr1.out (Nat.le_refl _) hb4)
   have HG4 := lhd (HGg.out q1 c1 q4 c4 w4 Hr4'.out hr4)
   have Hb4 := lhd (Hb1.out.trans (hb4.mono Hb1.out.size))
   clear hr4 hb4 HD1 HGg Hr1 Hb1
   go_wp2_with fail
   refine HG4.out.mono ?_
   rintro e5 w5 ⟨q5, c5, rfl, hr5, hb5⟩
   dsimp only
   have HD5 := lhd (HDd.out q1 c1 q5 c5 w5 (RowF.below Hr4'.out (Nat.le_refl _) hb5) hr5)
   have Hb5 := lhd (Hb4.out.trans (hb5.mono Hb4.out.size))
   clear hr5 hb5 HG4 HDd Hr4' Hb4
   go_wp2_with fail
   refine HD5.out.mono ?_
   rintro e6 w6 ⟨q6, c6, p6, d6, rfl, hr6, _, hb6⟩
   dsimp only
   have HP6 := lhd (HPp.out q6 c6 w6 hr6)
   have Hb6 := lhd (Hb5.out.trans (hb6.mono Hb5.out.size))
   clear hr6 hb6 HD5 HPp Hb5
   go_wp2_with fail
   refine HP6.out.mono ?_
   rintro e7 w7 ⟨q7, c7, rfl, hr7, hb7⟩
   dsimp only
   have Hr7 := lhd hr7
   have Hb7 := lhd (Hb6.out.trans (hb7.mono Hb6.out.size))
   clear hr7 hb7 HP6 Hb6
   go_wp2_with fail
   go_ret2
   exact ⟨q7, c7, rfl, Hr7.out, Hb7.out⟩
 ·have hc : C = 4 := by rw [HCd.out, if_pos (of_decide_eq_true Hl1.out)]
  subst hc
  have ea := HLN.out (by decide)
  subst ea
  clear HCd HLQ HLN
  go_wp2_with fail
  go_ret2
  exact ⟨none, 0, rfl, .inl rfl, Hb1.out⟩
open Go.RowKit
theorem strInfo : (Tryz.prog.info? 9).map (fun i => (i.zero, i.size, i.bytes)) = some (some (.string ⟨#[]⟩), 1, 16) := by kernel_rfl
def OwnStrs (w : World) (B : Nat) (v : Value) (xs : List ByteArray) : Prop := w.ownsRow B 9 1 v xs.length (xs.map Value.string)
theorem OwnStrs.nil (w : World) (B : Nat) : OwnStrs w B (.slice none 0 0) [] := World.ownsRow_nil _ _ _ _
theorem OwnStrs.below {w w' : World} {B C : Nat} {v : Value} {xs : List ByteArray} (h : OwnStrs w B v xs) (hB : w.heap.size ≤ C) (hb : Below C w w') : OwnStrs w' B v xs := ownsRow_below h hB hb
theorem OwnStrs.alloc {w : World} {B : Nat} {v : Value} {xs : List ByteArray} (h : OwnStrs w B v xs) (o : Obj) : OwnStrs (w.alloc o) B v xs := World.ownsRow.alloc h o
theorem wpList_append_str {ops : Array Oper} {rest : List Oper} {o : Oper} {a : Act} {Q : Exit → Act → World → Prop} {w : World} (hgd : o.guard = none) (s x : Operand)
  (ho : o.op = .call { callee := .builtin .append, args := #[s, x], argTypes := #[117, 117] })
  (base : Nat) (v : Value) (xs : List ByteArray) (hs : a.eval s = v) (hown : OwnStrs w base v xs) (g c : Nat) (y : ByteArray) (hx : a.eval x = .slice (some ⟨g, 0, none⟩) 1 c)
  (hc : w.cell? ⟨g, 0, none⟩ = some (.string y)) (hn : xs.length < 1000000000000) (hbase : base ≤ w.heap.size)
  (h : ∀ v' w', OwnStrs w' base v' (xs ++ [y]) → w.grownBy w' v.ownBlock → wpList Tryz.prog ops Q rest (a.put o.dst v') w') : wpList Tryz.prog ops Q (o :: rest) a w := by
 obtain ⟨i0, hi, hz0, hz1, hz2⟩ := info_parts strInfo
 refine wpList_append_own _ hgd s x _ ho base 9 i0 (.string ⟨#[]⟩) 1 16 Tryz.underlying117 hi hz0 hz1 hz2 rfl (by decide) v xs.length (xs.map Value.string) hs hown ⟨g, 0, none⟩ 1 c [.string y] hx rfl ?_ ?_ ?_ ?_ hbase ?_
 ·intro j u hj
  match j, hj with
  | 0, hj => simp at hj; subst hj; simpa [Addr.add] using hc
 ·intro u hu; simp at hu; subst hu; rfl
 ·unfold maxLen; omega
 ·omega
 ·intro v' w' h2 h3 _
  exact h v' w' (by unfold OwnStrs; simpa using h2) h3
def StrsAt (w : World) (p : Option Addr) (xs : List ByteArray) : Prop := SlAt 1 w p xs.length (fun i _ => .string (xs.getD i ByteArray.empty))
theorem OwnStrs.form {w : World} {B : Nat} {v : Value} {xs : List ByteArray} (h : OwnStrs w B v xs) : ∃ p cap, v = .slice p xs.length cap ∧ xs.length ≤ cap ∧ StrsAt w p xs ∧ (∀ b, p = some b → B ≤ b.block) :=
 slAt_of_owns h (fun i _ => .string (xs.getD i ByteArray.empty)) fun i hi j hj => by
  have : j = 0 := by omega
  subst this
  simp [List.getD_eq_getElem?_getD, hi]
theorem StrsAt.cells {w : World} {p : Option Addr} {xs : List ByteArray} (h : StrsAt w p xs) {k : Nat} (hk : k < xs.length) :
  ∃ b off, p = some ⟨b, off, none⟩ ∧ b < w.heap.size ∧ ∀ i, i < xs.length → w.cell? ⟨b, off + i, none⟩ = some (.string (xs.getD i ByteArray.empty)) := by
 rcases h with h | ⟨b, off, rfl, hlt, hc⟩
 ·omega
 ·exact ⟨b, off, rfl, hlt, fun i hi => by simpa using hc i hi 0 (by omega)⟩
open Go.RowKit
theorem bldByte : (Tryz.prog.info? 5).map (fun i => (i.zero, i.size, i.bytes)) = some (some (.int .u8 0), 1, 1) := by kernel_rfl
theorem bldInfo : (Tryz.prog.info? 63).map (fun i => i.size) = some 2 := by kernel_rfl
theorem bldLies : liesAt Tryz.prog Tryz.prog.depth 63 (2 / Tryz.prog.cellsOf 63) 0 63 1 = true := by kernel_rfl
set_option maxHeartbeats 1000000 in
set_option maxRecDepth 100000 in
theorem copyCheck_any (B b : Nat) (bs : List Value) (w : World) (h : Lib.IsBuilder 63 5 B b bs w) :
  Calls Tryz.prog 70 #[.pointer (some ⟨b, 0, none⟩)] w fun e w' => e = .returned (.tuple #[]) ∧ Lib.BuilderAt 63 5 B b (.pointer (some ⟨b, 0, none⟩)) bs w' ∧ Below B w w' ∧ Lib.OthersKept 5 (some b) w w' := by
 obtain ⟨j, hj, hjs⟩ := Option.map_eq_some_iff.1 bldInfo
 rcases h with h | h
 ·have h0 := h.cell0
  have hf := h.frozen0
  have hsh := h.shape
  have H := lhd h
  clear h
  go_enter Tryz.func70, Tryz.ntmps70
  go_wp2
  rw [Lib.run_to_unsafe w ⟨b, 0, none⟩ Tryz.underlying60 Tryz.underlying115 hj (by rw [hjs]; decide) hsh (Nat.zero_lt_succ 1)]
  simp only [Result.andThen]
  rw [Oper.upon_value]
  go_wp2
  rw [run_callFunc_extern Tryz.func96 (by kernel_rfl) (by kernel_rfl) (by kernel_rfl) (e := Extern.AbiNoEscape.same) (by kernel_rfl)]
  rw [Lib.run_noEscape]
  simp only [Result.andThen]
  rw [Oper.upon_value]
  go_wp2
  rw [Lib.run_from_unsafe w ⟨b, 0, none⟩ Tryz.underlying115 Tryz.underlying60 hj hsh bldLies]
  simp only [Result.andThen]
  rw [Oper.upon_value]
  go_wp2
  go_end0
  exact ⟨rfl, H.out.used _, (Below.refl B w).setCell (p := ⟨b, 0, none⟩) H.out.1 _, (Lib.OthersKept.refl _ _ _).setCell ⟨b, 0, none⟩ rfl _⟩
 ·have h0 := h.cell0
  have H := lhd h
  clear h
  go_enter Tryz.func70, Tryz.ntmps70
  go_wp2
  rw [Lib.run_neq_ptr_same w _ Tryz.underlying60 hj]
  go_wp2
  go_end0
  exact ⟨rfl, H.out, Below.refl _ _, Lib.OthersKept.refl _ _ _⟩
set_option maxHeartbeats 2000000 in
set_option maxRecDepth 100000 in
theorem writeString_k (B b : Nat) (bs : List Value) (s : ByteArray) (w : World) (h : Lib.IsBuilder 63 5 B b bs w) (hlen : bs.length + s.size ≤ 140737488355328) (hBw : B ≤ w.heap.size) :
  Calls Tryz.prog 40 #[.pointer (some ⟨b, 0, none⟩), .string s] w fun e w' => e = .returned (.tuple #[.int .i64 s.size, .nilIface]) ∧ Lib.IsBuilder 63 5 B b (bs ++ Lib.strCells s) w' ∧ Below B w w' ∧ Lib.OthersKept 5 (some b) w w' := by
 obtain ⟨i0, hi, hz0, hz1, hz2⟩ := info_parts bldByte
 go_enter Tryz.func40, Tryz.ntmps40
 go_wp2_with fail
 refine (copyCheck_any B b bs _ h).mono ?_
 rintro e w1 ⟨rfl, h1, hb1, hk1⟩
 have Hk1 := lhd hk1
 have H1 := lhd h1
 have Hb1 := lhd hb1
 obtain ⟨hB, v, hbk, hown, hne⟩ := h1
 have hlt := H1.out.lt
 have c0 : w1.cell? ⟨b, 0, none⟩ = some (.pointer (some ⟨b, 0, none⟩)) := by rw [Lib.cell_of_heap hbk]; rfl
 have c1 : w1.cell? ⟨b, 1, none⟩ = some v := by rw [Lib.cell_of_heap hbk]; rfl
 have hs1 := hb1.size
 have Hbk := lhd hbk
 have Hne := lhd hne
 have Hown := lhd hown
 clear h hb1 hbk hne hown hk1
 go_wp2_with (at_builtin; refine Lib.wpList_append_own_string _ rfl _ _ 61 9 rfl B 5 i0 Tryz.underlying61 Tryz.underlying9 hi hz0 hz1 hz2 _ _ _ rfl Hown.out s rfl ?c3 ?c4 ?c5 ?_)
 case c3 => unfold maxLen; omega
 case c4 => omega
 case c5 => omega
 intro v' w2 hown' hgrow _
 have hb2 : w2.heap[b]? = some (.cells #[.pointer (some ⟨b, 0, none⟩), v] 63 (0, 0)) := by
  rw [hgrow.block b hlt (fun e => Hne.out e.symm)]
  exact Hbk.out
 have d0 : w2.cell? ⟨b, 0, none⟩ = some (.pointer (some ⟨b, 0, none⟩)) := by rw [Lib.cell_of_heap hb2]; rfl
 have d1 : w2.cell? ⟨b, 1, none⟩ = some v := by rw [Lib.cell_of_heap hb2]; rfl
 have f1 : w2.frozen? ⟨b, 1, none⟩ = false := Lib.frozen_of_heap hb2 1
 obtain ⟨ao, n', cap, rfl⟩ : ∃ ao n' cap, v' = .slice ao n' cap := by
  rcases hown'.2 with ⟨hv, _⟩ | ⟨g, cap, cur, hv, _⟩
  ·exact ⟨_, _, _, hv⟩
  ·exact ⟨_, _, _, hv⟩
 have Hb2 := lhd hb2
 have Hown2 := lhd hown'
 have Hgrow := lhd hgrow
 clear hb2 hown' hgrow
 go_wp2
 go_ret2
 refine ⟨rfl, .inr ?_, ?_, ?_⟩
 ·exact Lib.BuilderAt.put (T := 63) (e := 5) hB Hb2.out (bs' := bs ++ Lib.strCells s) (by simpa [Lib.strCells_length] using Hown2.out) (by decide)
 ·exact (Hb1.out.grown Hgrow.out (by omega) (fun k hk => (Hown.out.lt k hk).1)).setCell (p := ⟨b, 1, none⟩) hB _
 ·refine (Hk1.out.grown Hgrow.out fun g hg => ?_).setCell ⟨b, 1, none⟩ rfl _
  rcases Hown.out.2 with ⟨rfl, _⟩ | ⟨g', cap', cur, rfl, _, hgg, _⟩
  ·simp [Value.ownBlock] at hg
  ·simp [Value.ownBlock] at hg
   subst hg
   exact ⟨cur, _, hgg⟩
theorem writeString_any (B b : Nat) (bs : List Value) (s : ByteArray) (w : World) (h : Lib.IsBuilder 63 5 B b bs w) (hlen : bs.length + s.size ≤ 140737488355328) (hBw : B ≤ w.heap.size) :
  Calls Tryz.prog 40 #[.pointer (some ⟨b, 0, none⟩), .string s] w fun e w' => e = .returned (.tuple #[.int .i64 s.size, .nilIface]) ∧ Lib.IsBuilder 63 5 B b (bs ++ Lib.strCells s) w' ∧ Below B w w' :=
 (writeString_k B b bs s w h hlen hBw).mono fun _ _ ⟨h1, h2, h3, _⟩ => ⟨h1, h2, h3⟩
open Go.RowKit
theorem wpList_append_byt {ops : Array Oper} {rest : List Oper} {o : Oper} {a : Act} {Q : Exit → Act → World → Prop} {w : World} (hgd : o.guard = none) (s x : Operand)
  (ho : o.op = .call { callee := .builtin .append, args := #[s, x], argTypes := #[61, 61] })
  (base : Nat) (v : Value) (xs : List Value) (hs : a.eval s = v) (hown : w.ownsRow base 5 1 v xs.length xs) (g c : Nat) (y : UInt8) (hx : a.eval x = .slice (some ⟨g, 0, none⟩) 1 c)
  (hc : w.cell? ⟨g, 0, none⟩ = some (.int .u8 (y.toNat : Int))) (hn : xs.length < 140737488355328) (hbase : base ≤ w.heap.size)
  (h : ∀ v' w', w'.ownsRow base 5 1 v' (xs.length + 1) (xs ++ [.int .u8 (y.toNat : Int)]) → w.grownBy w' v.ownBlock → wpList Tryz.prog ops Q rest (a.put o.dst v') w') : wpList Tryz.prog ops Q (o :: rest) a w := by
 obtain ⟨i0, hi, hz0, hz1, hz2⟩ := info_parts bldByte
 refine wpList_append_own _ hgd s x _ ho base 5 i0 (.int .u8 0) 1 1 Tryz.underlying61 hi hz0 hz1 hz2 rfl (by decide) v xs.length xs hs hown ⟨g, 0, none⟩ 1 c [.int .u8 (y.toNat : Int)] hx rfl ?_ ?_ ?_ ?_ hbase ?_
 ·intro j u hj
  match j, hj with
  | 0, hj => simp at hj; subst hj; simpa [Addr.add] using hc
 ·intro u hu; simp at hu; subst hu; rfl
 ·unfold maxLen; omega
 ·omega
 ·intro v' w' h2 h3 _
  exact h v' w' h2 h3
set_option maxHeartbeats 2000000 in
set_option maxRecDepth 100000 in
theorem writeByte_k (B b : Nat) (bs : List Value) (s : UInt8) (w : World) (h : Lib.IsBuilder 63 5 B b bs w) (hlen : bs.length + 1 ≤ 140737488355328) (hBw : B ≤ w.heap.size) :
  Calls Tryz.prog 98 #[.pointer (some ⟨b, 0, none⟩), .int .u8 (s.toNat : Int)] w fun e w' => e = .returned .nilIface ∧ Lib.IsBuilder 63 5 B b (bs ++ [.int .u8 (s.toNat : Int)]) w' ∧ Below B w w' := by
 go_enter Tryz.func98, Tryz.ntmps98
 go_wp2_with fail
 refine (copyCheck_any B b bs _ h).mono ?_
 rintro e w1 ⟨rfl, h1, hb1, hk1⟩
 have Hk1 := lhd hk1
 have H1 := lhd h1
 have Hb1 := lhd hb1
 obtain ⟨hB, v, hbk, hown, hne⟩ := h1
 have hlt := H1.out.lt
 have c0 : w1.cell? ⟨b, 0, none⟩ = some (.pointer (some ⟨b, 0, none⟩)) := by rw [Lib.cell_of_heap hbk]; rfl
 have c1 : w1.cell? ⟨b, 1, none⟩ = some v := by rw [Lib.cell_of_heap hbk]; rfl
 have hs1 := hb1.size
 have Hbk := lhd hbk
 have Hne := lhd hne
 have Hown := lhd hown
 clear h hb1 hbk hne hown hk1
 have hsz : B ≤ w1.heap.size := by omega
 have Hba := lhd (Hb1.out.alloc hsz (.cells #[.int .u8 (s.toNat : Int)] 5))
 have Hoa := lhd (World.ownsRow.alloc Hown.out (.cells #[.int .u8 (s.toNat : Int)] 5))
 have Hbk' := lhd (show (w1.alloc (.cells #[.int .u8 (s.toNat : Int)] 5)).heap[b]? = some (.cells #[.pointer (some ⟨b, 0, none⟩), v] 63 (0, 0)) from (by rw [World.alloc, Array.getElem?_push_lt hlt, ← Array.getElem?_eq_getElem hlt]; exact Hbk.out))
 go_wp2_with (at_builtin; refine wpList_append_byt rfl _ _ rfl B v bs rfl Hoa.out w1.heap.size 1 s rfl (cell_new0 _ _ _) (by omega) (by simp; omega) ?_)
 intro v' w2 hown' hgrow
 have hb2 : w2.heap[b]? = some (.cells #[.pointer (some ⟨b, 0, none⟩), v] 63 (0, 0)) := by
  rw [hgrow.block b (by simp; omega) (fun e => Hne.out e.symm)]
  exact Hbk'.out
 have d0 : w2.cell? ⟨b, 0, none⟩ = some (.pointer (some ⟨b, 0, none⟩)) := by rw [Lib.cell_of_heap hb2]; rfl
 have d1 : w2.cell? ⟨b, 1, none⟩ = some v := by rw [Lib.cell_of_heap hb2]; rfl
 have f1 : w2.frozen? ⟨b, 1, none⟩ = false := Lib.frozen_of_heap hb2 1
 obtain ⟨ao, n', cap, rfl⟩ : ∃ ao n' cap, v' = .slice ao n' cap := by
  rcases hown'.2 with ⟨hv, _⟩ | ⟨g, cap, cur, hv, _⟩
  ·exact ⟨_, _, _, hv⟩
  ·exact ⟨_, _, _, hv⟩
 have Hb2 := lhd hb2
 have Hown2 := lhd hown'
 have Hgrow := lhd hgrow
 clear hb2 hown' hgrow
 go_wp2
 go_ret
 refine ⟨rfl, .inr ?_, ?_⟩
 ·exact Lib.BuilderAt.put (T := 63) (e := 5) hB Hb2.out (bs' := bs ++ [.int .u8 (s.toNat : Int)]) (by simpa using Hown2.out) (by decide)
 ·exact (Hba.out.grown Hgrow.out (by simp; omega) (fun k hk => (Hoa.out.lt k hk).1)).setCell (p := ⟨b, 1, none⟩) hB _
end Go.Proofs.YtmbamcpndbimaaaGreatDoor
