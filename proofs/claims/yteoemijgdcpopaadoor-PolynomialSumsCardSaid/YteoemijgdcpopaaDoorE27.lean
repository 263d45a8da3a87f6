/- polynomial.large, Divide, Gcd, Derivative, Squarefree: the walks. -/
import Derived.Test.YteoemijgdcpopaaDoorE26
namespace Go.Proofs.YteoemijgdcpopaaDoor
open Go.RowKit Go.Shelf

theorem large_any (n : Nat) (p : Option Addr) (c : Nat) (hn : n ≤ 1000000) (b : Bool) (hb : decide (65 < n) = b) (w : World) : Calls Tryd.prog 55 #[.slice p n c] w fun e w' => e = .returned (.bool b) ∧ w' = w := by
  by_cases h : 65 < n
  · have b1 : (n : Int) - 1 > 64 := by omega
    rw [decide_eq_true h] at hb
    subst hb
    go_enter Tryd.func55, Tryd.ntmps55
    go_wp2
    go_ret
    exact ⟨by simp, rfl⟩
  · have b1 : ¬ (n : Int) - 1 > 64 := by omega
    rw [decide_eq_false h] at hb
    subst hb
    go_enter Tryd.func55, Tryd.ntmps55
    go_wp2
    go_ret
    exact ⟨by simp, rfl⟩
def RetDvE (a b : Nat) (f g : Nat → Int) (x : Int) (w : World) (e : Ending) (w' : World) : Prop := ∃ q c p d, e = .returned (.tuple #[.slice q a c, .slice p b d, .int .i64 x]) ∧ RowF w' q a f ∧ RowF w' p b g ∧ Below w.heap.size w w'
/-- What Divide answers. -/
def dvCode (n m : Nat) : Int := if 65 < n ∨ 65 < m then 4 else if m = 0 then 9 else 0
set_option maxRecDepth 100000 in
set_option maxHeartbeats 8000000 in
theorem pDivide_any (n m : Nat) (Z Y : Nat → ZI) (p q : Option Addr) (c d : Nat) {e : Nat} (hn : n ≤ 1000) (hm : m ≤ 1000) (hz : ∀ k, k < n → (Z k).mag.size ≤ 100000000) (hy : ∀ k, k < m → (Y k).mag.size ≤ 100000000) (hf : ∀ k, Bn (valZ (Z k)) e) (hg : ∀ k, Bn (valZ (Y k)) e) (hB : e + 66 * (e + 1) ≤ 100000000)
    (w : World) (hX : GRow w p n Z) (hY : GRow w q m Y) (f g : Nat → Int) (hfe : (fun k => valZ (Z k)) = f) (hge : (fun k => valZ (Y k)) = g) (n1 m1 : Nat) (hne : dgN f n = n1) (hme : dgN g m = m1) :
    Calls Tryd.prog 18 #[.slice p n c, .slice q m d] w (RetDvE (if dvCode n1 m1 = 0 then dvLQ f g n1 m1 else 0) (if dvCode n1 m1 = 0 then dvLR f g n1 m1 else 0) (dvQ f g n1 m1) (dvR f g n1 m1) (dvCode n1 m1) w) := by
  have hc1 := Canonical_any n Z p c (by omega) hz w hX
  have hc2 := fun W (hW : Below w.heap.size w W) => Canonical_any m Y q d (by omega) hy W (SlAt.mono hY (Nat.le_refl _) hW)
  have hf' : ∀ k, Bn (f k) e := fun k => by rw [← hfe]; exact hf k
  have hg' : ∀ k, Bn (g k) e := fun k => by rw [← hge]; exact hg k
  have hn1 := dgN_le f n
  have hm1 := dgN_le g m
  have hnt := fun h => dgN_top f n h
  have hmt := fun h => dgN_top g m h
  rw [hfe] at hc1
  rw [hge] at hc2
  rw [hne] at hn1 hc1 hnt
  rw [hme] at hm1 hc2 hmt
  unfold RetPol at hc1 hc2
  obtain ⟨l1, hl1⟩ : ∃ b, decide (65 < n1) = b := ⟨_, rfl⟩
  obtain ⟨l2, hl2⟩ : ∃ b, decide (65 < m1) = b := ⟨_, rfl⟩
  have HL1 := Lib.hid (fun q c W => large_any n1 q c (by omega) l1 hl1 W)
  have HL2 := Lib.hid (fun q c W => large_any m1 q c (by omega) l2 hl2 W)
  have Hl1 := Lib.hid hl1
  have Hl2 := Lib.hid hl2
  have HDv := Lib.hid (fun (h1 : ¬ 65 < n1) (h0 : 0 < m1) q c q' c' W hq hq' => pdiv_any n1 m1 f g q q' c c' (by omega) (by omega) h0 (Nat.le_trans (Nat.add_le_add_left (Nat.mul_le_mul_right _ (show n1 - m1 + 1 ≤ 66 by omega)) e) hB) hf' hg' W hq hq')
  have HC1 := Lib.hid hc1
  have HC2 := Lib.hid hc2
  have HLQ : Hid (dvCode n1 m1 = 0 → (if dvCode n1 m1 = 0 then dvLQ f g n1 m1 else 0) = dvLQ f g n1 m1 ∧ (if dvCode n1 m1 = 0 then dvLR f g n1 m1 else 0) = dvLR f g n1 m1) := Lib.hid (fun h => ⟨if_pos h, if_pos h⟩)
  have HLN : Hid (dvCode n1 m1 ≠ 0 → (if dvCode n1 m1 = 0 then dvLQ f g n1 m1 else 0) = 0 ∧ (if dvCode n1 m1 = 0 then dvLR f g n1 m1 else 0) = 0) := Lib.hid (fun h => ⟨if_neg h, if_neg h⟩)
  have HCd : Hid (dvCode n1 m1 = if 65 < n1 ∨ 65 < m1 then 4 else if m1 = 0 then 9 else 0) := Lib.hid rfl
  obtain ⟨A, hA⟩ : ∃ k, (if dvCode n1 m1 = 0 then dvLQ f g n1 m1 else 0) = k := ⟨_, rfl⟩
  obtain ⟨B, hBB⟩ : ∃ k, (if dvCode n1 m1 = 0 then dvLR f g n1 m1 else 0) = k := ⟨_, rfl⟩
  obtain ⟨C, hC⟩ : ∃ k, dvCode n1 m1 = k := ⟨_, rfl⟩
  rw [hA, hBB] at HLQ HLN
  rw [hA, hBB, hC]
  rw [hC] at HLQ HLN HCd
  unfold RetDv at HDv
  obtain ⟨LQ, hLQ⟩ : ∃ k, dvLQ f g n1 m1 = k := ⟨_, rfl⟩
  obtain ⟨LR, hLR⟩ : ∃ k, dvLR f g n1 m1 = k := ⟨_, rfl⟩
  obtain ⟨FQ, hFQ⟩ : ∃ k, dvQ f g n1 m1 = k := ⟨_, rfl⟩
  obtain ⟨FR, hFR⟩ : ∃ k, dvR f g n1 m1 = k := ⟨_, rfl⟩
  rw [hLQ, hLR, hFQ, hFR] at HDv
  rw [hLQ, hLR] at HLQ
  rw [hFQ, hFR]
  clear hc1 hc2 hX hY hz hy hf hg hf' hg' hfe hge hne hme hl1 hl2 hnt hmt hB hA hBB hC hLQ hLR hFQ hFR
  go_enter Tryd.func18, Tryd.ntmps18
  go_wp2_with fail
  refine HC1.out.mono ?_
  rintro e1 w1 ⟨q1, c1, rfl, hr1, hb1⟩
  dsimp only
  have HC := Lib.hid (HC2.out w1 hb1)
  have Hr1 := Lib.hid hr1
  have Hb1 := Lib.hid hb1
  clear hr1 hb1 HC1 HC2
  go_wp2_with fail
  refine HC.out.mono ?_
  rintro e2 w2 ⟨q2, c2, rfl, hr2, hb2⟩
  dsimp only
  have Hr1' := Lib.hid (RowF.below Hr1.out (Nat.le_refl _) hb2)
  have Hr2 := Lib.hid hr2
  have Hb2 := Lib.hid (Hb1.out.trans (hb2.mono Hb1.out.size))
  clear hr2 hb2 HC Hr1 Hb1
  go_wp2_with fail
  refine (HL1.out _ _ _).mono ?_
  rintro e3 w3 ⟨rfl, rfl⟩
  dsimp only
  cases l1
  · go_wp2_with fail
    refine (HL2.out _ _ _).mono ?_
    rintro e4 w4 ⟨rfl, rfl⟩
    dsimp only
    cases l2
    · have g1 : ¬ 65 < n1 := of_decide_eq_false Hl1.out
      have g2 : ¬ 65 < m1 := of_decide_eq_false Hl2.out
      by_cases hm0 : m1 = 0
      · have hc : C = 9 := by rw [HCd.out, if_neg (by omega), if_pos hm0]
        subst hc
        obtain ⟨ea, eb⟩ := HLN.out (by decide)
        subst ea eb
        have b1 : ((m1 : Int) == 0) = true := by rw [beq_iff_eq]; omega
        clear HCd HLQ HLN
        go_wp2_with fail
        go_ret3
        exact ⟨none, 0, none, 0, rfl, .inl rfl, .inl rfl, Hb2.out⟩
      · have hc : C = 0 := by rw [HCd.out, if_neg (by omega), if_neg hm0]
        subst hc
        obtain ⟨ea, eb⟩ := HLQ.out rfl
        subst ea eb
        have b1 : ((m1 : Int) == 0) = false := by rw [beq_eq_false_iff_ne]; omega
        have HD2 := Lib.hid (HDv.out g1 (by omega) _ c1 _ c2 _ Hr1'.out Hr2.out)
        clear HCd HLQ HLN HDv
        go_wp2_with fail
        refine HD2.out.mono ?_
        rintro e5 w5 ⟨q5, c5, p5, d5, rfl, ha5, hb5, hbb5⟩
        dsimp only
        have Ha5 := Lib.hid ha5
        have Hb5 := Lib.hid hb5
        have Hbb5 := Lib.hid (Hb2.out.trans (hbb5.mono Hb2.out.size))
        clear ha5 hb5 hbb5 HD2
        go_wp2_with fail
        go_ret3
        exact ⟨q5, c5, p5, d5, rfl, Ha5.out, Hb5.out, Hbb5.out⟩
    · have hc : C = 4 := by rw [HCd.out, if_pos (.inr (of_decide_eq_true Hl2.out))]
      subst hc
      obtain ⟨ea, eb⟩ := HLN.out (by decide)
      subst ea eb
      clear HCd HLQ HLN
      go_wp2_with fail
      go_ret3
      exact ⟨none, 0, none, 0, rfl, .inl rfl, .inl rfl, Hb2.out⟩
  · have hc : C = 4 := by rw [HCd.out, if_pos (.inl (of_decide_eq_true Hl1.out))]
    subst hc
    obtain ⟨ea, eb⟩ := HLN.out (by decide)
    subst ea eb
    clear HCd HLQ HLN
    go_wp2_with fail
    go_ret3
    exact ⟨none, 0, none, 0, rfl, .inl rfl, .inl rfl, Hb2.out⟩
/-- What Gcd answers: an error, or the greatest common divisor. -/
def gcCode (n m : Nat) : Int := if 65 < n ∨ 65 < m then 4 else 0
def gcR (f g : Nat → Int) (n m : Nat) : Nat × (Nat → Int) := gcS m n (prC f n) m (prC g m)
set_option maxRecDepth 100000 in
set_option maxHeartbeats 8000000 in
theorem pGcd_any (n m : Nat) (Z Y : Nat → ZI) (p q : Option Addr) (c d : Nat) {e K : Nat} (hn : n ≤ 1000) (hm : m ≤ 1000) (hz : ∀ k, k < n → (Z k).mag.size ≤ 100000000) (hy : ∀ k, k < m → (Y k).mag.size ≤ 100000000) (hf : ∀ k, Bn (valZ (Z k)) e) (hg : ∀ k, Bn (valZ (Y k)) e)
    (w : World) (hX : GRow w p n Z) (hY : GRow w q m Y) (f g : Nat → Int) (hfe : (fun k => valZ (Z k)) = f) (hge : (fun k => valZ (Y k)) = g) (n1 m1 : Nat) (hne : dgN f n = n1) (hme : dgN g m = m1) (hK : K ≤ 100000000) (hB : ¬ 65 < n1 → ¬ 65 < m1 → gcB K n1 m1 e) :
    Calls Tryd.prog 20 #[.slice p n c, .slice q m d] w (RetPolE (if gcCode n1 m1 = 0 then (gcR f g n1 m1).1 else 0) (gcR f g n1 m1).2 (gcCode n1 m1) w) := by
  have hc1 := Canonical_any n Z p c (by omega) hz w hX
  have hc2 := fun W (hW : Below w.heap.size w W) => Canonical_any m Y q d (by omega) hy W (SlAt.mono hY (Nat.le_refl _) hW)
  have hf' : ∀ k, Bn (f k) e := fun k => by rw [← hfe]; exact hf k
  have hg' : ∀ k, Bn (g k) e := fun k => by rw [← hge]; exact hg k
  have hn1 := dgN_le f n
  have hm1 := dgN_le g m
  have hnt := fun h => dgN_top f n h
  have hmt := fun h => dgN_top g m h
  rw [hfe] at hc1
  rw [hge] at hc2
  rw [hne] at hn1 hc1 hnt
  rw [hme] at hm1 hc2 hmt
  unfold RetPol at hc1 hc2
  obtain ⟨l1, hl1⟩ : ∃ b, decide (65 < n1) = b := ⟨_, rfl⟩
  obtain ⟨l2, hl2⟩ : ∃ b, decide (65 < m1) = b := ⟨_, rfl⟩
  have HL1 := Lib.hid (fun q c W => large_any n1 q c (by omega) l1 hl1 W)
  have HL2 := Lib.hid (fun q c W => large_any m1 q c (by omega) l2 hl2 W)
  have Hl1 := Lib.hid hl1
  have Hl2 := Lib.hid hl2
  have HGc := Lib.hid (fun (h1 : ¬ 65 < n1) (h2 : ¬ 65 < m1) q c q' c' W hq hq' => pgcd_any n1 m1 f g q q' c c' (by omega) (by omega) hK (hB h1 h2) hf' hg' hnt hmt W hq hq')
  have HC1 := Lib.hid hc1
  have HC2 := Lib.hid hc2
  have HGR := Lib.hid (show gcR f g n1 m1 = gcS m1 n1 (prC f n1) m1 (prC g m1) from rfl)
  rw [← HGR.out] at HGc
  have HLQ : Hid (gcCode n1 m1 = 0 → (if gcCode n1 m1 = 0 then (gcR f g n1 m1).1 else 0) = (gcR f g n1 m1).1) := Lib.hid (fun h => if_pos h)
  have HLN : Hid (gcCode n1 m1 ≠ 0 → (if gcCode n1 m1 = 0 then (gcR f g n1 m1).1 else 0) = 0) := Lib.hid (fun h => if_neg h)
  have HCd : Hid (gcCode n1 m1 = if 65 < n1 ∨ 65 < m1 then 4 else 0) := Lib.hid rfl
  obtain ⟨A, hA⟩ : ∃ k, (if gcCode n1 m1 = 0 then (gcR f g n1 m1).1 else 0) = k := ⟨_, rfl⟩
  obtain ⟨C, hC⟩ : ∃ k, gcCode n1 m1 = k := ⟨_, rfl⟩
  obtain ⟨LG, hLG⟩ : ∃ k, (gcR f g n1 m1).1 = k := ⟨_, rfl⟩
  obtain ⟨FG, hFG⟩ : ∃ k, (gcR f g n1 m1).2 = k := ⟨_, rfl⟩
  rw [hA] at HLQ HLN
  rw [hA, hC, hFG]
  rw [hC] at HLQ HLN HCd
  unfold RetPol at HGc
  rw [hLG, hFG] at HGc
  rw [hLG] at HLQ
  clear hc1 hc2 hX hY hz hy hf hg hf' hg' hfe hge hne hme hl1 hl2 hnt hmt hB hA hC hLG hFG HGR
  go_enter Tryd.func20, Tryd.ntmps20
  go_wp2_with fail
  refine HC1.out.mono ?_
  rintro e1 w1 ⟨q1, c1, rfl, hr1, hb1⟩
  dsimp only
  have HC := Lib.hid (HC2.out w1 hb1)
  have Hr1 := Lib.hid hr1
  have Hb1 := Lib.hid hb1
  clear hr1 hb1 HC1 HC2
  go_wp2_with fail
  refine HC.out.mono ?_
  rintro e2 w2 ⟨q2, c2, rfl, hr2, hb2⟩
  dsimp only
  have Hr1' := Lib.hid (RowF.below Hr1.out (Nat.le_refl _) hb2)
  have Hr2 := Lib.hid hr2
  have Hb2 := Lib.hid (Hb1.out.trans (hb2.mono Hb1.out.size))
  clear hr2 hb2 HC Hr1 Hb1
  go_wp2_with fail
  refine (HL1.out _ _ _).mono ?_
  rintro e3 w3 ⟨rfl, rfl⟩
  dsimp only
  cases l1
  · go_wp2_with fail
    refine (HL2.out _ _ _).mono ?_
    rintro e4 w4 ⟨rfl, rfl⟩
    dsimp only
    cases l2
    · have g1 : ¬ 65 < n1 := of_decide_eq_false Hl1.out
      have g2 : ¬ 65 < m1 := of_decide_eq_false Hl2.out
      have hc : C = 0 := by rw [HCd.out, if_neg (by omega)]
      subst hc
      have ea := HLQ.out rfl
      subst ea
      have HD2 := Lib.hid (HGc.out g1 g2 _ c1 _ c2 _ Hr1'.out Hr2.out)
      clear HCd HLQ HLN HGc
      go_wp2_with fail
      refine HD2.out.mono ?_
      rintro e5 w5 ⟨q5, c5, rfl, ha5, hbb5⟩
      dsimp only
      have Ha5 := Lib.hid ha5
      have Hbb5 := Lib.hid (Hb2.out.trans (hbb5.mono Hb2.out.size))
      clear ha5 hbb5 HD2
      go_wp2_with fail
      go_ret2
      exact ⟨q5, c5, rfl, Ha5.out, Hbb5.out⟩
    · have hc : C = 4 := by rw [HCd.out, if_pos (.inr (of_decide_eq_true Hl2.out))]
      subst hc
      have ea := HLN.out (by decide)
      subst ea
      clear HCd HLQ HLN
      go_wp2_with fail
      go_ret2
      exact ⟨none, 0, rfl, .inl rfl, Hb2.out⟩
  · have hc : C = 4 := by rw [HCd.out, if_pos (.inl (of_decide_eq_true Hl1.out))]
    subst hc
    have ea := HLN.out (by decide)
    subst ea
    clear HCd HLQ HLN
    go_wp2_with fail
    go_ret2
    exact ⟨none, 0, rfl, .inl rfl, Hb2.out⟩
end Go.Proofs.YteoemijgdcpopaaDoor
