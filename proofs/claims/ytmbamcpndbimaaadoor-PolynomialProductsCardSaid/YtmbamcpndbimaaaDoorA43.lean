/- polynomial.Gcd at any size. -/
import Derived.Test.YtmbamcpndbimaaaDoorA36
import Derived.Test.YtmbamcpndbimaaaDoorA20
namespace Go.Proofs.YtmbamcpndbimaaaDoor
open Go.RowKit Go.Shelf
set_option maxRecDepth 100000 in
set_option maxHeartbeats 8000000 in
theorem pGcdE_any (n m : Nat) (Z Y : Nat → ZI) (p q : Option Addr) (c d : Nat) {e : Nat} (hn : n ≤ 1000) (hm : m ≤ 1000) (hz : ∀ k, k < n → (Z k).mag.size ≤ 100000000) (hy : ∀ k, k < m → (Y k).mag.size ≤ 100000000) (hf : ∀ k, Bn (valZ (Z k)) e) (hg : ∀ k, Bn (valZ (Y k)) e)
    (w : World) (hX : GRow w p n Z) (hY : GRow w q m Y) (f g : Nat → Int) (hfe : (fun k => valZ (Z k)) = f) (hge : (fun k => valZ (Y k)) = g) (n1 m1 : Nat) (hne : dgN f n = n1) (hme : dgN g m = m1) (hK : e + 1001 * (e + 1) ≤ 100000000) (hB : ¬ 65 < n1 → ¬ 65 < m1 → GAll e m1 n1 (prC f n1) m1 (prC g m1)) :
    Calls Tryd.prog 10 #[.slice p n c, .slice q m d] w (RetPolE (if gcCode n1 m1 = 0 then (gcR f g n1 m1).1 else 0) (gcR f g n1 m1).2 (gcCode n1 m1) w) := by
  have hc1 := Canonical_any n Z p c (by omega) hz w hX
  have hc2 := fun W (hW : Below w.heap.size w W) => Canonical_any m Y q d (by omega) hy W (SlAt.mono hY (Nat.le_refl _) hW)
  have hf' : ∀ k, Bn (f k) e := fun k => by rw [← hfe]; exact hf k
  have hg' : ∀ k, Bn (g k) e := fun k => by rw [← hge]; exact hg k
  have hn1 := dgN_le f n
  have hm1 := dgN_le g m
  have hnt := fun h => dgN_top f n h
  have hmt := fun h => dgN_top g m h
  rw [hfe] at hc1
  rw [hge] at hc2
  rw [hne] at hn1 hc1 hnt
  rw [hme] at hm1 hc2 hmt
  unfold RetPol at hc1 hc2
  obtain ⟨l1, hl1⟩ : ∃ b, decide (65 < n1) = b := ⟨_, rfl⟩
  obtain ⟨l2, hl2⟩ : ∃ b, decide (65 < m1) = b := ⟨_, rfl⟩
  have HL1 := Lib.hid (fun q c W => large_any n1 q c (by omega) l1 hl1 W)
  have HL2 := Lib.hid (fun q c W => large_any m1 q c (by omega) l2 hl2 W)
  have Hl1 := Lib.hid hl1
  have Hl2 := Lib.hid hl2
  have HGc := Lib.hid (fun (h1 : ¬ 65 < n1) (h2 : ¬ 65 < m1) q c q' c' W hq hq' => pgcdE_any n1 m1 f g q q' c c' (by omega) (by omega) hK (hB h1 h2) hf' hg' hnt hmt W hq hq')
  have HC1 := Lib.hid hc1
  have HC2 := Lib.hid hc2
  have HGR := Lib.hid (show gcR f g n1 m1 = gcS m1 n1 (prC f n1) m1 (prC g m1) from rfl)
  rw [← HGR.out] at HGc
  have HLQ : Hid (gcCode n1 m1 = 0 → (if gcCode n1 m1 = 0 then (gcR f g n1 m1).1 else 0) = (gcR f g n1 m1).1) := Lib.hid (fun h => if_pos h)
  have HLN : Hid (gcCode n1 m1 ≠ 0 → (if gcCode n1 m1 = 0 then (gcR f g n1 m1).1 else 0) = 0) := Lib.hid (fun h => if_neg h)
  have HCd : Hid (gcCode n1 m1 = if 65 < n1 ∨ 65 < m1 then 4 else 0) := Lib.hid rfl
  obtain ⟨A, hA⟩ : ∃ k, (if gcCode n1 m1 = 0 then (gcR f g n1 m1).1 else 0) = k := ⟨_, rfl⟩
  obtain ⟨C, hC⟩ : ∃ k, gcCode n1 m1 = k := ⟨_, rfl⟩
  obtain ⟨LG, hLG⟩ : ∃ k, (gcR f g n1 m1).1 = k := ⟨_, rfl⟩
  obtain ⟨FG, hFG⟩ : ∃ k, (gcR f g n1 m1).2 = k := ⟨_, rfl⟩
  rw [hA] at HLQ HLN
  rw [hA, hC, hFG]
  rw [hC] at HLQ HLN HCd
  unfold RetPol at HGc
  rw [hLG, hFG] at HGc
  rw [hLG] at HLQ
  clear hc1 hc2 hX hY hz hy hf hg hf' hg' hfe hge hne hme hl1 hl2 hnt hmt hB hA hC hLG hFG HGR
  go_enter Tryd.func10, Tryd.ntmps10
  go_wp2_with fail
  refine HC1.out.mono ?_
  rintro e1 w1 ⟨q1, c1, rfl, hr1, hb1⟩
  dsimp only
  have HC := Lib.hid (HC2.out w1 hb1)
  have Hr1 := Lib.hid hr1
  have Hb1 := Lib.hid hb1
  clear hr1 hb1 HC1 HC2
  go_wp2_with fail
  refine HC.out.mono ?_
  rintro e2 w2 ⟨q2, c2, rfl, hr2, hb2⟩
  dsimp only
  have Hr1' := Lib.hid (RowF.below Hr1.out (Nat.le_refl _) hb2)
  have Hr2 := Lib.hid hr2
  have Hb2 := Lib.hid (Hb1.out.trans (hb2.mono Hb1.out.size))
  clear hr2 hb2 HC Hr1 Hb1
  go_wp2_with fail
  refine (HL1.out _ _ _).mono ?_
  rintro e3 w3 ⟨rfl, rfl⟩
  dsimp only
  cases l1
  · go_wp2_with fail
    refine (HL2.out _ _ _).mono ?_
    rintro e4 w4 ⟨rfl, rfl⟩
    dsimp only
    cases l2
    · have g1 : ¬ 65 < n1 := of_decide_eq_false Hl1.out
      have g2 : ¬ 65 < m1 := of_decide_eq_false Hl2.out
      have hc : C = 0 := by rw [HCd.out, if_neg (by omega)]
      subst hc
      have ea := HLQ.out rfl
      subst ea
      have HD2 := Lib.hid (HGc.out g1 g2 _ c1 _ c2 _ Hr1'.out Hr2.out)
      clear HCd HLQ HLN HGc
      go_wp2_with fail
      refine HD2.out.mono ?_
      rintro e5 w5 ⟨q5, c5, rfl, ha5, hbb5⟩
      dsimp only
      have Ha5 := Lib.hid ha5
      have Hbb5 := Lib.hid (Hb2.out.trans (hbb5.mono Hb2.out.size))
      clear ha5 hbb5 HD2
      go_wp2_with fail
      go_ret2
      exact ⟨q5, c5, rfl, Ha5.out, Hbb5.out⟩
    · have hc : C = 4 := by rw [HCd.out, if_pos (.inr (of_decide_eq_true Hl2.out))]
      subst hc
      have ea := HLN.out (by decide)
      subst ea
      clear HCd HLQ HLN
      go_wp2_with fail
      go_ret2
      exact ⟨none, 0, rfl, .inl rfl, Hb2.out⟩
  · have hc : C = 4 := by rw [HCd.out, if_pos (.inl (of_decide_eq_true Hl1.out))]
    subst hc
    have ea := HLN.out (by decide)
    subst ea
    clear HCd HLQ HLN
    go_wp2_with fail
    go_ret2
    exact ⟨none, 0, rfl, .inl rfl, Hb2.out⟩
theorem bn_24 {z : ZI} (h : z.mag.size ≤ 3) : Bn (valZ z) 24 := by
  have h1 := absZ_lt z
  have h2 : 256 ^ z.mag.size ≤ 256 ^ 3 := Nat.pow_le_pow_right (by decide) h
  unfold Bn valZ
  split <;> omega
theorem gall_zx {f g : Nat → Int} {n m n1 m1 : Nat} (hn : n ≤ 68) (hm : m ≤ 68) (hf : ∀ k, Bn (f k) 24) (hg : ∀ k, Bn (g k) 24) (hf0 : ∀ k, n ≤ k → f k = 0) (hg0 : ∀ k, m ≤ k → g k = 0) (hne : dgN f n = n1) (hme : dgN g m = m1) : GAll 6600 m1 n1 (prC f n1) m1 (prC g m1) := by
  have h1 := dgN_le f n
  have h2 := dgN_le g m
  have h3 := dgN_over f n
  have h4 := dgN_over g m
  have h5 := dgN_top f n
  have h6 := dgN_top g m
  rw [hne] at h1 h3 h5
  rw [hme] at h2 h4 h6
  exact gall_start (e := 24) (by omega) (by omega) hf hg (fun i hi => by
    by_cases h : i < n
    · exact h3 i hi h
    · exact hf0 i (by omega)) (fun i hi => by
    by_cases h : i < m
    · exact h4 i hi h
    · exact hg0 i (by omega)) h5 h6
end Go.Proofs.YtmbamcpndbimaaaDoor
