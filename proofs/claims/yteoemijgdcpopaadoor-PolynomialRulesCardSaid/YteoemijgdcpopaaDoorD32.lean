/- polynomial.Derivative, Squarefree: the walks. Pseudo-division and greatest common divisors of polynomials by their values: plain laws. -/
import Derived.Test.YteoemijgdcpopaaDoorD31
import Derived.Test.YteoemijgdcpopaaDoorD30
namespace Go.Proofs.YteoemijgdcpopaaDoor
open Go.RowKit Go.Shelf

theorem deC_top {f : Nat → Int} {n : Nat} (h : 0 < n → f (n - 1) ≠ 0) : 0 < n - 1 → deC f (n - 1 - 1) ≠ 0 := fun h0 => by
  have h1 := h (by omega)
  unfold deC
  rw [show n - 1 - 1 + 1 = n - 1 from by omega]
  exact Int.mul_ne_zero h1 (by omega)
set_option maxRecDepth 100000 in
set_option maxHeartbeats 8000000 in
theorem pDeriv_any (n : Nat) (Z : Nat → ZI) (p : Option Addr) (c : Nat) {e : Nat} (hn : n ≤ 1000) (hz : ∀ k, k < n → (Z k).mag.size ≤ 100000000) (hf : ∀ k, Bn (valZ (Z k)) e) (he : e ≤ 10000000) (w : World) (hX : GRow w p n Z) (f : Nat → Int) (hfe : (fun k => valZ (Z k)) = f) (n1 : Nat) (hne : dgN f n = n1) :
    Calls Tryd.prog 29 #[.slice p n c] w (RetPol (n1 - 1) (deC f) w) := by
  have hc1 := Canonical_any n Z p c (by omega) hz w hX
  have hn1 := dgN_le f n
  have hnt := fun h => dgN_top f n h
  rw [hfe] at hc1
  rw [hne] at hn1 hc1 hnt
  have hf' : ∀ k, Bn (f k) e := fun k => by rw [← hfe]; exact hf k
  have HDe := Lib.hid (fun q c W hq => deriv_any n1 f q c (by omega) (show e ≤ 100000000 by omega) hf' W hq)
  have HCa := Lib.hid (fun q c W hq => Canonical_any (n1 - 1) (fun k => canon (deC f k)) q c (by omega) (fun k hk => (deC_bn hf' (show k < 1000 by omega)).size 100000000 (by omega)) W (RowF.g hq))
  simp only [valZ_canon] at HCa
  have hdd : dgN (deC f) (n1 - 1) = n1 - 1 := by
    cases hk : n1 - 1 with
    | zero => rfl
    | succ k =>
      have h1 := deC_top (f := f) (n := n1) (fun h => hnt h) (by omega)
      rw [hk, Nat.add_sub_cancel] at h1
      rw [dgN, if_neg h1]
  rw [show (fun k => deC f k) = deC f from rfl, hdd] at HCa
  unfold RetPol at HDe HCa hc1
  have HC1 := Lib.hid hc1
  obtain ⟨n2, hn2⟩ : ∃ k, n1 - 1 = k := ⟨_, rfl⟩
  obtain ⟨D, hD⟩ : ∃ k, deC f = k := ⟨_, rfl⟩
  rw [hn2, hD] at HDe HCa
  rw [hn2, hD]
  clear hc1 hX hz hf hf' hfe hne hnt hdd hn2 hD
  go_enter Tryd.func29, Tryd.ntmps29
  go_wp2_with fail
  refine HC1.out.mono ?_
  rintro e1 w1 ⟨q1, c1, rfl, hr1, hb1⟩
  dsimp only
  have HD1 := Lib.hid (HDe.out q1 c1 w1 hr1)
  have Hb1 := Lib.hid hb1
  clear hr1 hb1 HC1 HDe
  go_wp2_with fail
  refine HD1.out.mono ?_
  rintro e2 w2 ⟨q2, c2, rfl, hr2, hb2⟩
  dsimp only
  have HC2 := Lib.hid (HCa.out q2 c2 w2 hr2)
  have Hb2 := Lib.hid (Hb1.out.trans (hb2.mono Hb1.out.size))
  clear hr2 hb2 HD1 HCa Hb1
  go_wp2_with fail
  refine HC2.out.mono ?_
  rintro e3 w3 ⟨q3, c3, rfl, hr3, hb3⟩
  dsimp only
  have Hr3 := Lib.hid hr3
  have Hb3 := Lib.hid (Hb2.out.trans (hb3.mono Hb2.out.size))
  clear hr3 hb3 HC2 Hb2
  go_wp2_with fail
  go_ret
  exact ⟨q3, c3, rfl, Hr3.out, Hb3.out⟩
theorem gcS_le : ∀ (k n m : Nat) (f g : Nat → Int), m ≤ n → (gcS k n f m g).1 ≤ n
  | 0, n, m, f, g, _ => Nat.le_refl _
  | k + 1, n, m, f, g, h => by
    rw [gcS]
    split
    · exact Nat.le_refl _
    · rename_i h0
      rw [if_neg (by omega)]
      exact Nat.le_trans (gcS_le k m _ g _ (Nat.le_of_lt (dvLR_lt (by omega) (by omega)))) h
/-- The derivative of n coefficients, with zeros behind. -/
def dC (f : Nat → Int) (n k : Nat) : Int := if k < n - 1 then deC f k else 0
theorem dC_bn {f : Nat → Int} {e n : Nat} (hn : n ≤ 1000) (hf : ∀ k, Bn (f k) e) (k : Nat) : Bn (dC f n k) (e + 10) := by
  unfold dC
  split
  · exact deC_bn hf (by omega)
  · exact Bn.zero _
/-- The square-free polynomial: length and coefficients. -/
def sqG (f : Nat → Int) (n : Nat) : Nat × (Nat → Int) := gcR f (dC f n) n (n - 1)
def sqN (f : Nat → Int) (n : Nat) : Nat := dvLQ f (sqG f n).2 n (sqG f n).1
def sqF (f : Nat → Int) (n : Nat) : Nat → Int := prC (dvQ f (sqG f n).2 n (sqG f n).1) (sqN f n)
def sqCode (n : Nat) : Int := if 65 < n then 4 else if n = 0 then 1 else 0
theorem dvLQ_top {f g : Nat → Int} {n m : Nat} (h : 0 < dvLQ f g n m) : dvQ f g n m (dvLQ f g n m - 1) ≠ 0 := by
  unfold dvLQ dvQ at *
  split at h
  · omega
  · rename_i hnm
    rw [if_neg hnm]
    exact dgN_top _ _ h
theorem dvLQ_le {f g : Nat → Int} {n m : Nat} : dvLQ f g n m ≤ n + 1 := by
  unfold dvLQ
  split
  · omega
  · have := dgN_le (dvS f g n m (n - m + 1)).1 (n - m + 1); omega
/-- What Squarefree needs of its parts. -/
theorem sq_parts {f : Nat → Int} {n e K : Nat} (hn : 0 < n) (hn2 : n ≤ 999) (hf : ∀ k, Bn (f k) e) (he : e ≤ 9000000) (hcf : f (n - 1) ≠ 0) (hK : K ≤ 30000000) (hB : gcB K n (n - 1) (e + 10)) (hB2 : n * K ≤ 270000000) :
    0 < (sqG f n).1 ∧ (sqG f n).1 ≤ n ∧ (∃ E, (∀ k, Bn ((sqG f n).2 k) E) ∧ (e + 10) + (n - (sqG f n).1 + 1) * (E + 1) ≤ 100000000 ∧ ∀ k, Bn (dvQ f (sqG f n).2 n (sqG f n).1 k) 100000000) := by
  have hfb : ∀ k, Bn (f k) (e + 10) := fun k => (hf k).up (by omega)
  have hdb := dC_bn (n := n) (by omega) hf
  have hdt : 0 < n - 1 → dC f n (n - 1 - 1) ≠ 0 := fun h => by
    unfold dC
    rw [if_pos (by omega)]
    exact deC_top (fun _ => hcf) h
  obtain ⟨h1, h2, E, h3, h4⟩ := gcS_out (n - 1) n (n - 1) (prC f n) (prC (dC f n) (n - 1)) (e + 10) (Nat.le_refl _) hB (fun i => prC_bn hfb n i) (fun i => prC_bn hdb (n - 1) i) (prC_top fun _ => hcf) (prC_top hdt) (.inl hn)
  change 0 < (sqG f n).1 at h1
  change (E + 1) * 3 ^ (sqG f n).1 ≤ K at h3
  change ∀ i, Bn ((sqG f n).2 i) E at h4
  have h5 : (E + 1) * 3 ≤ K := by
    refine Nat.le_trans (Nat.mul_le_mul_left _ ?_) h3
    have : 3 ^ 1 ≤ 3 ^ (sqG f n).1 := Nat.pow_le_pow_right (by decide) h1
    omega
  have h6 : n * ((E + 1) * 3) ≤ 270000000 := Nat.le_trans (Nat.mul_le_mul_left _ h5) hB2
  have h7 : (sqG f n).1 ≤ n := gcS_le (n - 1) n (n - 1) _ _ (by omega)
  have h8 : (n - (sqG f n).1 + 1) * (E + 1) ≤ n * (E + 1) := Nat.mul_le_mul_right _ (by omega)
  have h9 : n * ((E + 1) * 3) = n * (E + 1) * 3 := by rw [Nat.mul_assoc]
  refine ⟨h1, h7, E, h4, by omega, fun k => ?_⟩
  exact ((dvS_bn hfb h4 _).1 k).up (by omega)
set_option maxRecDepth 100000 in
set_option maxHeartbeats 8000000 in
theorem pSquare_any (n : Nat) (Z : Nat → ZI) (p : Option Addr) (c : Nat) {e K : Nat} (hn : n ≤ 999) (hz : ∀ k, k < n → (Z k).mag.size ≤ 100000000) (hf : ∀ k, Bn (valZ (Z k)) e) (he : e ≤ 9000000) (w : World) (hX : GRow w p n Z) (f : Nat → Int) (hfe : (fun k => valZ (Z k)) = f) (n1 : Nat) (hne : dgN f n = n1)
    (hK : K ≤ 30000000) (hB : ¬ 65 < n1 → gcB K n1 (n1 - 1) (e + 10)) (hB2 : ¬ 65 < n1 → n1 * K ≤ 270000000) :
    Calls Tryd.prog 36 #[.slice p n c] w (RetPolE (if sqCode n1 = 0 then sqN f n1 else 0) (sqF f n1) (sqCode n1) w) := by
  have hc1 := Canonical_any n Z p c (by omega) hz w hX
  have hn1 := dgN_le f n
  have hnt := fun h => dgN_top f n h
  rw [hfe] at hc1
  rw [hne] at hn1 hc1 hnt
  have hf' : ∀ k, Bn (f k) e := fun k => by rw [← hfe]; exact hf k
  have hfb : ∀ k, Bn (f k) (e + 10) := fun k => (hf' k).up (by omega)
  have hdb := dC_bn (n := n1) (by omega) hf'
  have hdt : 0 < n1 → 0 < n1 - 1 → dC f n1 (n1 - 1 - 1) ≠ 0 := fun h0 h => by
    unfold dC
    rw [if_pos (by omega)]
    exact deC_top (fun h => hnt h) h
  have HDe := Lib.hid (fun q c W hq => deriv_any n1 f q c (by omega) (show e ≤ 100000000 by omega) hf' W hq)
  have HGc := Lib.hid (fun (h1 : ¬ 65 < n1) (h0 : 0 < n1) q c q' c' W hq (hq' : RowF W q' (n1 - 1) (deC f)) => pgcd_any n1 (n1 - 1) f (dC f n1) q q' c c' (by omega) (by omega) (show K ≤ 100000000 by omega) (hB h1) hfb hdb hnt (hdt h0) W hq (hq'.congr fun k hk => (if_pos hk).symm))
  have HSp := Lib.hid (fun (h1 : ¬ 65 < n1) (h0 : 0 < n1) => sq_parts h0 (by omega) hf' he (hnt h0) hK (hB h1) (hB2 h1))
  have HGR := Lib.hid (show sqG f n1 = gcS (n1 - 1) n1 (prC f n1) (n1 - 1) (prC (dC f n1) (n1 - 1)) from rfl)
  rw [← HGR.out] at HGc
  have HDv := Lib.hid (fun (h1 : ¬ 65 < n1) (h0 : 0 < n1) q c q' c' W hq (hq' : RowF W q' (sqG f n1).1 (sqG f n1).2) => (by
    obtain ⟨a, b, E, hE, hb, _⟩ := HSp.out h1 h0
    exact pdiv_any n1 (sqG f n1).1 f (sqG f n1).2 q q' c c' (by omega) (by omega) a hb hfb hE W hq hq' : Calls Tryd.prog 56 #[.slice q n1 c, .slice q' (sqG f n1).1 c'] W (RetDv (dvLQ f (sqG f n1).2 n1 (sqG f n1).1) (dvLR f (sqG f n1).2 n1 (sqG f n1).1) (dvQ f (sqG f n1).2 n1 (sqG f n1).1) (dvR f (sqG f n1).2 n1 (sqG f n1).1) W)))
  have HPr := Lib.hid (fun (h1 : ¬ 65 < n1) (h0 : 0 < n1) q c W (hq : RowF W q (sqN f n1) (dvQ f (sqG f n1).2 n1 (sqG f n1).1)) => (by
    obtain ⟨a, b, E, hE, hb, hQ⟩ := HSp.out h1 h0
    have hle : sqN f n1 ≤ n1 + 1 := dvLQ_le
    exact prim_any (sqN f n1) _ q c (by omega) (Nat.le_refl _) hQ (fun h => dvLQ_top h) W hq : Calls Tryd.prog 74 #[.slice q (sqN f n1) c] W (RetPol (sqN f n1) (sqF f n1) W)))
  rw [show dvLQ f (sqG f n1).2 n1 (sqG f n1).1 = sqN f n1 from rfl] at HDv
  obtain ⟨l1, hl1⟩ : ∃ b, decide (65 < n1) = b := ⟨_, rfl⟩
  have HL1 := Lib.hid (fun q c W => large_any n1 q c (by omega) l1 hl1 W)
  have Hl1 := Lib.hid hl1
  unfold RetPol at hc1 HDe HGc HPr
  unfold RetDv at HDv
  have HC1 := Lib.hid hc1
  have HLQ : Hid (sqCode n1 = 0 → (if sqCode n1 = 0 then sqN f n1 else 0) = sqN f n1) := Lib.hid (fun h => if_pos h)
  have HLN : Hid (sqCode n1 ≠ 0 → (if sqCode n1 = 0 then sqN f n1 else 0) = 0) := Lib.hid (fun h => if_neg h)
  have HCd : Hid (sqCode n1 = if 65 < n1 then 4 else if n1 = 0 then 1 else 0) := Lib.hid rfl
  obtain ⟨A, hA⟩ : ∃ k, (if sqCode n1 = 0 then sqN f n1 else 0) = k := ⟨_, rfl⟩
  obtain ⟨C, hC⟩ : ∃ k, sqCode n1 = k := ⟨_, rfl⟩
  obtain ⟨N, hN⟩ : ∃ k, sqN f n1 = k := ⟨_, rfl⟩
  obtain ⟨F, hF⟩ : ∃ k, sqF f n1 = k := ⟨_, rfl⟩
  obtain ⟨LG, hLG⟩ : ∃ k, (sqG f n1).1 = k := ⟨_, rfl⟩
  obtain ⟨FG, hFG⟩ : ∃ k, (sqG f n1).2 = k := ⟨_, rfl⟩
  rw [hA] at HLQ HLN
  rw [hA, hC, hF]
  rw [hC] at HLQ HLN HCd
  rw [hN] at HLQ HDv HPr
  rw [hF, hLG, hFG] at HPr
  rw [hLG, hFG] at HDv HGc
  obtain ⟨FQ, hFQ⟩ : ∃ k, dvQ f FG n1 LG = k := ⟨_, rfl⟩
  obtain ⟨FR, hFR⟩ : ∃ k, dvR f FG n1 LG = k := ⟨_, rfl⟩
  obtain ⟨LR, hLR⟩ : ∃ k, dvLR f FG n1 LG = k := ⟨_, rfl⟩
  rw [hFQ, hFR, hLR] at HDv
  rw [hFQ] at HPr
  obtain ⟨n2, hn2⟩ : ∃ k, n1 - 1 = k := ⟨_, rfl⟩
  rw [hn2] at HDe HGc
  obtain ⟨DF, hDF⟩ : ∃ k, deC f = k := ⟨_, rfl⟩
  rw [hDF] at HDe HGc
  clear hc1 hX hz hf hf' hfb hdb hdt hfe hne hnt hl1 hB hB2 hK hA hC hN hF hLG hFG hFQ hFR hLR hn2 hDF HSp HGR
  go_enter Tryd.func36, Tryd.ntmps36
  go_wp2_with fail
  refine HC1.out.mono ?_
  rintro e1 w1 ⟨q1, c1, rfl, hr1, hb1⟩
  dsimp only
  have Hr1 := Lib.hid hr1
  have Hb1 := Lib.hid hb1
  clear hr1 hb1 HC1
  go_wp2_with fail
  refine (HL1.out _ _ _).mono ?_
  rintro e3 w3 ⟨rfl, rfl⟩
  dsimp only
  cases l1
  · have g1 : ¬ 65 < n1 := of_decide_eq_false Hl1.out
    by_cases hm0 : n1 = 0
    · have hc : C = 1 := by rw [HCd.out, if_neg g1, if_pos hm0]
      subst hc
      have ea := HLN.out (by decide)
      subst ea
      have b1 : ((n1 : Int) == 0) = true := by rw [beq_iff_eq]; omega
      clear HCd HLQ HLN
      go_wp2_with fail
      go_ret2
      exact ⟨none, 0, rfl, .inl rfl, Hb1.out⟩
    · have hc : C = 0 := by rw [HCd.out, if_neg g1, if_neg hm0]
      subst hc
      have ea := HLQ.out rfl
      subst ea
      have b1 : ((n1 : Int) == 0) = false := by rw [beq_eq_false_iff_ne]; omega
      have h0 : 0 < n1 := by omega
      have HD1 := Lib.hid (HDe.out q1 c1 _ Hr1.out)
      have HGg := Lib.hid (HGc.out g1 h0)
      have HDd := Lib.hid (HDv.out g1 h0)
      have HPp := Lib.hid (HPr.out g1 h0)
      clear HCd HLQ HLN HDe HGc HDv HPr
      go_wp2_with fail
      refine HD1.out.mono ?_
      rintro e4 w4 ⟨q4, c4, rfl, hr4, hb4⟩
      dsimp only
      have Hr4' := Lib.hid (RowF.below Hr1.out (Nat.le_refl _) hb4)
      have HG4 := Lib.hid (HGg.out q1 c1 q4 c4 w4 Hr4'.out hr4)
      have Hb4 := Lib.hid (Hb1.out.trans (hb4.mono Hb1.out.size))
      clear hr4 hb4 HD1 HGg Hr1 Hb1
      go_wp2_with fail
      refine HG4.out.mono ?_
      rintro e5 w5 ⟨q5, c5, rfl, hr5, hb5⟩
      dsimp only
      have HD5 := Lib.hid (HDd.out q1 c1 q5 c5 w5 (RowF.below Hr4'.out (Nat.le_refl _) hb5) hr5)
      have Hb5 := Lib.hid (Hb4.out.trans (hb5.mono Hb4.out.size))
      clear hr5 hb5 HG4 HDd Hr4' Hb4
      go_wp2_with fail
      refine HD5.out.mono ?_
      rintro e6 w6 ⟨q6, c6, p6, d6, rfl, hr6, _, hb6⟩
      dsimp only
      have HP6 := Lib.hid (HPp.out q6 c6 w6 hr6)
      have Hb6 := Lib.hid (Hb5.out.trans (hb6.mono Hb5.out.size))
      clear hr6 hb6 HD5 HPp Hb5
      go_wp2_with fail
      refine HP6.out.mono ?_
      rintro e7 w7 ⟨q7, c7, rfl, hr7, hb7⟩
      dsimp only
      have Hr7 := Lib.hid hr7
      have Hb7 := Lib.hid (Hb6.out.trans (hb7.mono Hb6.out.size))
      clear hr7 hb7 HP6 Hb6
      go_wp2_with fail
      go_ret2
      exact ⟨q7, c7, rfl, Hr7.out, Hb7.out⟩
  · have hc : C = 4 := by rw [HCd.out, if_pos (of_decide_eq_true Hl1.out)]
    subst hc
    have ea := HLN.out (by decide)
    subst ea
    clear HCd HLQ HLN
    go_wp2_with fail
    go_ret2
    exact ⟨none, 0, rfl, .inl rfl, Hb1.out⟩
end Go.Proofs.YteoemijgdcpopaaDoor
namespace Go.Proofs.YteoemijgdcpopaaDoor
theorem ypol_mono (a : Int) (i K : Nat) (h : i < K) (x : Int) : ypol (fun t => if t = i then a else 0) K x = a * x ^ i := by
  unfold ypol
  rw [dotN_congr (g := fun t => if t = i then a * x ^ i else 0) fun t _ => by
    show (if t = i then a else 0) * x ^ t = _
    by_cases h1 : t = i
    · rw [if_pos h1, if_pos h1, h1]
    · rw [if_neg h1, if_neg h1, Int.zero_mul]]
  exact dotN_one _ _ K h
theorem ypol_nought (K : Nat) (x : Int) : ypol (fun _ => 0) K x = 0 := by
  unfold ypol
  rw [dotN_congr (g := fun _ => 0) fun t _ => Int.zero_mul _, dotN_zero]
/-- Quotient and rest of the first rounds. -/
theorem dvS_ev {f g : Nat → Int} {n m : Nat} (hm : 0 < m) (hnm : m ≤ n) (x : Int) : ∀ j, j ≤ n - m + 1 →
    g (m - 1) ^ j * ypol f n x = ypol (dvS f g n m j).1 (n - m + 1) x * ypol g m x + ypol (dvS f g n m j).2 n x
  | 0, _ => by
    show _ = ypol (fun _ => 0) _ x * _ + ypol f n x
    rw [ypol_nought]
    simp
  | j + 1, hj => by
    have ih := dvS_ev (f := f) (g := g) hm hnm x j (by omega)
    obtain ⟨t, ht⟩ : ∃ t, (dvS f g n m j).2 (n - m - j + m - 1) = t := ⟨_, rfl⟩
    obtain ⟨i, hi⟩ : ∃ i, n - m - j = i := ⟨_, rfl⟩
    obtain ⟨c, hc⟩ : ∃ c, g (m - 1) = c := ⟨_, rfl⟩
    have e1 : ypol (dvS f g n m (j + 1)).1 (n - m + 1) x = c * ypol (dvS f g n m j).1 (n - m + 1) x + t * x ^ i := by
      rw [← ypol_smul, ← ypol_mono t i (n - m + 1) (by omega) x, ← ypol_add]
      refine ypol_congr x fun k _ => ?_
      dsimp only [dvS]
      rw [ht, hi, hc, Int.mul_comm]
    have e2 : ypol (dvS f g n m (j + 1)).2 n x = c * ypol (dvS f g n m j).2 n x + -t * x ^ i * ypol g m x := by
      rw [← ypol_smul, ← ypol_shift (-t) g i x m n (by omega), ← ypol_add]
      refine ypol_congr x fun k _ => ?_
      dsimp only [dvS]
      rw [ht, hi, hc, Int.mul_comm]
      by_cases h : i ≤ k ∧ k < i + m
      · rw [if_pos h, if_pos h, Int.neg_mul]; omega
      · rw [if_neg h, if_neg h]; omega
    rw [hc] at ih
    rw [e1, e2, hc, Int.pow_succ, show c ^ j * c * ypol f n x = c * (c ^ j * ypol f n x) from by rw [Int.mul_comm (c ^ j) c, Int.mul_assoc], ih]
    clear e1 e2 ih
    generalize ypol (dvS f g n m j).1 (n - m + 1) x = Q
    generalize ypol (dvS f g n m j).2 n x = R
    generalize ypol g m x = G
    generalize x ^ i = y
    clear ht hc hi
    grind
/-- The equation of the pseudo-division. -/
theorem dv_ev {f g : Nat → Int} {n m : Nat} (hm : 0 < m) (x : Int) :
    g (m - 1) ^ (n + 1 - m) * ypol f n x = ypol (dvQ f g n m) (dvLQ f g n m) x * ypol g m x + ypol (dvR f g n m) (dvLR f g n m) x := by
  unfold dvQ dvLQ dvR dvLR
  by_cases h : n < m
  · rw [if_pos h, if_pos h, if_pos h, show n + 1 - m = 0 from by omega, ypol_nil]
    simp
  · rw [if_neg h, if_neg h, if_neg h, ypol_dg, ypol_dg, show n + 1 - m = n - m + 1 from by omega]
    exact dvS_ev hm (by omega) x _ (Nat.le_refl _)
theorem IsP.mk' (f : Nat → Int) (n : Nat) (h : 0 < n → f (n - 1) ≠ 0) : IsP n (ctN f n) (fun x => ypol f n x) := by
  refine ⟨fun h0 => ?_, fun k hk => if_neg (by omega), fun x => ypol_cut f n x⟩
  unfold ctN
  rw [if_pos (by omega)]
  exact h h0
/-- A polynomial function. -/
def PF (e : Int → Int) : Prop := ∃ N F, IsP N F e
theorem IsP.pf {N : Nat} {F : Nat → Int} {e : Int → Int} (h : IsP N F e) : PF e := ⟨N, F, h⟩
theorem PF.of (f : Nat → Int) (n : Nat) : PF (fun x => ypol f n x) := (IsP.of f n).pf
theorem PF.congr {e e' : Int → Int} (h : PF e) (he : ∀ x, e x = e' x) : PF e' := by
  obtain ⟨N, F, h⟩ := h; exact ⟨N, F, h.congr he⟩
theorem PF.add {e e' : Int → Int} (h : PF e) (k : PF e') : PF (fun x => e x + e' x) := by
  obtain ⟨N, F, h⟩ := h
  obtain ⟨M, G, k⟩ := k
  refine (PF.of (fun j => F j + G j) (N + M)).congr fun x => ?_
  rw [ypol_add, h.far (by omega), k.far (by omega)]
theorem PF.mul {e e' : Int → Int} (h : PF e) (k : PF e') : PF (fun x => e x * e' x) := by
  obtain ⟨N, F, h⟩ := h
  obtain ⟨M, G, k⟩ := k
  by_cases h0 : N = 0 ∨ M = 0
  · exact (h.mul0 k h0).pf
  · exact (h.mul k (by omega) (by omega)).pf
theorem PF.const (c : Int) : PF (fun _ => c) := (PF.of (fun _ => c) 1).congr fun x => by simp [ypol, dotN]
theorem PF.x : PF (fun x => x) := (PF.of (fun j => if j = 1 then 1 else 0) 2).congr fun x => by simp [ypol, dotN, Int.pow_succ]
theorem PF.smul (c : Int) {e : Int → Int} (h : PF e) : PF (fun x => c * e x) := (PF.const c).mul h
theorem PF.sub {e e' : Int → Int} (h : PF e) (k : PF e') : PF (fun x => e x - e' x) := (h.add (k.smul (-1))).congr fun x => by omega
theorem IsP.smul {N : Nat} {F : Nat → Int} {e : Int → Int} (h : IsP N F e) {c : Int} (hc : c ≠ 0) : IsP N (fun j => c * F j) (fun x => c * e x) :=
  ⟨fun h0 h1 => by
    rcases Int.mul_eq_zero.1 h1 with h2 | h2
    · exact hc h2
    · exact h.top h0 h2, fun k hk => by show c * F k = 0; rw [h.out k hk, Int.mul_zero], fun x => by rw [ypol_smul, h.ev]⟩
theorem IsP.zero_iff {N : Nat} {F : Nat → Int} {e : Int → Int} (h : IsP N F e) : N = 0 ↔ ∀ x, e x = 0 := by
  constructor
  · intro h0 x; exact h.nil h0 x
  · intro h0; exact (h.unique (IsP.zero.congr fun x => (h0 x).symm)).1
theorem IsP.len_mul {N M K : Nat} {F G H : Nat → Int} {e e' s : Int → Int} (h : IsP N F e) (k : IsP M G e') (l : IsP K H s) (hs : ∀ x, s x = e x * e' x) : (N = 0 ∨ M = 0 → K = 0) ∧ (0 < N → 0 < M → K = N + M - 1) := h.deg k (l.congr hs)
/-- No divisors of zero. -/
theorem PF.cancel {e d d' : Int → Int} (h : PF e) (hd : PF d) (hd' : PF d') (h0 : ¬ ∀ x, e x = 0) (he : ∀ x, e x * d x = e x * d' x) (x : Int) : d x = d' x := by
  obtain ⟨N, F, h⟩ := h
  obtain ⟨M, G, k⟩ := hd.sub hd'
  have hN : 0 < N := by
    rcases Nat.eq_zero_or_pos N with h1 | h1
    · exact absurd (h.zero_iff.1 h1) h0
    · exact h1
  have := (h.len_mul k IsP.zero fun x => by rw [Int.mul_sub, he]; omega).2 hN
  have hM : M = 0 := by
    rcases Nat.eq_zero_or_pos M with h1 | h1
    · exact h1
    · have := this h1; omega
  have := k.zero_iff.1 hM x
  omega
/-- A rest that is less than the divisor, and divisible by it. -/
theorem IsP.rest0 {N M : Nat} {F G : Nat → Int} {r g s : Int → Int} (h : IsP N F r) (k : IsP M G g) (hs : PF s) {l : Int} (hl : l ≠ 0) (he : ∀ x, l * r x = s x * g x) (hlt : N < M) : N = 0 := by
  obtain ⟨K, H, hs⟩ := hs
  have h1 := hs.len_mul k (h.smul hl) he
  rcases Nat.eq_zero_or_pos K with h0 | h0
  · exact h1.1 (.inl h0)
  · have := h1.2 h0 (by omega); omega
/-- What a greatest common divisor over the rationals is. -/
structure CD (a b g : Int → Int) : Prop where
  left : ∃ k s, k ≠ 0 ∧ PF s ∧ ∀ x, k * a x = s x * g x
  right : ∃ k s, k ≠ 0 ∧ PF s ∧ ∀ x, k * b x = s x * g x
  bez : ∃ k u v, k ≠ 0 ∧ PF u ∧ PF v ∧ ∀ x, k * g x = u x * a x + v x * b x
theorem CD.swap {a b g : Int → Int} (h : CD a b g) : CD b a g := by
  obtain ⟨h1, h2, k, u, v, hk, hu, hv, he⟩ := h
  exact ⟨h2, h1, k, v, u, hk, hv, hu, fun x => by rw [he]; omega⟩
theorem CD.zero {a b : Int → Int} (hb : ∀ x, b x = 0) : CD a b a :=
  ⟨⟨1, fun _ => 1, by decide, PF.const 1, fun x => rfl⟩, ⟨1, fun _ => 0, by decide, PF.const 0, fun x => by rw [hb]; simp⟩, 1, fun _ => 1, fun _ => 0, by decide, PF.const 1, PF.const 0, fun x => by rw [hb]; simp⟩
theorem mul_ne {a b : Int} (ha : a ≠ 0) (hb : b ≠ 0) : a * b ≠ 0 := fun h => by
  rcases Int.mul_eq_zero.1 h with h | h
  · exact ha h
  · exact hb h
/-- A step of Euclid's algorithm: c a = q b + l r. -/
theorem CD.step {a b r g q : Int → Int} {c l : Int} (h : CD b r g) (hq : PF q) (hc : c ≠ 0) (hl : l ≠ 0) (he : ∀ x, c * a x = q x * b x + l * r x) : CD a b g := by
  obtain ⟨⟨k1, s1, hk1, hs1, e1⟩, ⟨k2, s2, hk2, hs2, e2⟩, k, u, v, hk, hu, hv, e3⟩ := h
  refine ⟨⟨k1 * k2 * c, fun x => k2 * (q x * s1 x) + k1 * (l * s2 x), mul_ne (mul_ne hk1 hk2) hc, ((hq.mul hs1).smul k2).add ((hs2.smul l).smul k1), fun x => ?_⟩, ⟨k1, s1, hk1, hs1, e1⟩, l * k, fun x => c * v x, fun x => l * u x - q x * v x, mul_ne hl hk, hv.smul c, (hu.smul l).sub (hq.mul hv), fun x => ?_⟩
  · have h1 := he x; have h2 := e1 x; have h3 := e2 x
    rw [show k1 * k2 * c * a x = k1 * k2 * (c * a x) from by rw [Int.mul_assoc], h1]
    grind
  · have h1 := he x; have h3 := e3 x
    rw [show l * k * g x = l * (k * g x) from by rw [Int.mul_assoc], h3]
    grind
/-- Factors in front change nothing. -/
theorem CD.scale {a b g a' b' : Int → Int} {c d c' d' : Int} (h : CD a b g) (hc : c ≠ 0) (hd : d ≠ 0) (hc' : c' ≠ 0) (hd' : d' ≠ 0) (he : ∀ x, c * a' x = c' * a x) (hf : ∀ x, d * b' x = d' * b x) : CD a' b' g := by
  obtain ⟨⟨k1, s1, hk1, hs1, e1⟩, ⟨k2, s2, hk2, hs2, e2⟩, k, u, v, hk, hu, hv, e3⟩ := h
  refine ⟨⟨k1 * c, fun x => c' * s1 x, mul_ne hk1 hc, hs1.smul c', fun x => ?_⟩, ⟨k2 * d, fun x => d' * s2 x, mul_ne hk2 hd, hs2.smul d', fun x => ?_⟩, c' * d' * k, fun x => d' * c * u x, fun x => c' * d * v x, mul_ne (mul_ne hc' hd') hk, hu.smul _, hv.smul _, fun x => ?_⟩
  · have h1 := he x; have h2 := e1 x
    grind
  · have h1 := hf x; have h2 := e2 x
    grind
  · have h1 := he x; have h2 := hf x; have h3 := e3 x
    grind
/-- Two greatest common divisors divide each other. -/
theorem CD.dvd {a b g h : Int → Int} (hg : CD a b g) (hh : CD a b h) : ∃ k s, k ≠ 0 ∧ PF s ∧ ∀ x, k * g x = s x * h x := by
  obtain ⟨_, _, k, u, v, hk, hu, hv, e3⟩ := hg
  obtain ⟨⟨k1, s1, hk1, hs1, e1⟩, ⟨k2, s2, hk2, hs2, e2⟩, _⟩ := hh
  refine ⟨k1 * k2 * k, fun x => k2 * (u x * s1 x) + k1 * (v x * s2 x), mul_ne (mul_ne hk1 hk2) hk, ((hu.mul hs1).smul _).add ((hv.mul hs2).smul _), fun x => ?_⟩
  have h1 := e1 x; have h2 := e2 x; have h3 := e3 x
  rw [show k1 * k2 * k * g x = k1 * k2 * (k * g x) from by rw [Int.mul_assoc], h3]
  grind
end Go.Proofs.YteoemijgdcpopaaDoor
