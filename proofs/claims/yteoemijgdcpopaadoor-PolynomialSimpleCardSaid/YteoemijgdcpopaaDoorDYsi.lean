/- polynomial.Squarefree in values. -/
import Derived.Test.YteoemijgdcpopaaDoorD44
namespace Go.Proofs.YteoemijgdcpopaaDoor
open Go.RowKit Go.Shelf
theorem dvS_congr {f g g' : Nat → Int} {n m : Nat} (hm : 0 < m) (h : ∀ k, k < m → g k = g' k) : ∀ j, dvS f g n m j = dvS f g' n m j
  | 0 => rfl
  | j + 1 => by
    rw [dvS, dvS, dvS_congr hm h j, h (m - 1) (by omega)]
    congr 1
    funext i
    by_cases hi : n - m - j ≤ i ∧ i < n - m - j + m
    · rw [if_pos hi, if_pos hi, h _ (by omega)]
    · rw [if_neg hi, if_neg hi]
def RetSqI (e : Int → Int) (C L : Nat) (w : World) (en : Ending) (w' : World) : Prop :=
  ∃ q c M H s, en = .returned (.tuple #[.slice q M c, .int .i64 0]) ∧ PR w' q M H s C L ∧ SqP e s M H ∧ Below w.heap.size w w'
theorem sqfI (w : World) (p : Option Addr) (n c : Nat) (Z : Nat → ZI) (e : Int → Int) (N : Nat) (F : Nat → Int) (B L T K C : Nat) (h : PI w p n Z e B L) (hF : IsP N F e) (h0 : 0 < N) (hT : N ≤ T) (hL : L ≤ 65) (hB : B ≤ 1000000) (hK : (B + 11) * 3 ^ T ≤ K) (hK2 : K ≤ 30000000) (hTK : T * K ≤ 270000000) (hC1 : B + T ≤ C) (hC2 : B + T * (K / 9) ≤ C) :
    Calls Tryd.prog 36 #[.slice p n c] w (RetSqI e C L w) := by
  have hl := h.len
  obtain ⟨hn1, hf1⟩ := h.dg hF
  have hb1 := h.bn
  have hgB : gcB K N (N - 1) (B + 10) := by
    unfold gcB
    rw [if_pos (by omega)]
    exact Nat.le_trans (Nat.mul_le_mul_left _ (Nat.pow_le_pow_right (by decide) hT)) hK
  have hNK : N * K ≤ 270000000 := Nat.le_trans (Nat.mul_le_mul_right _ hT) hTK
  have hN := dgN_le (fun k => valZ (Z k)) n
  rw [hn1] at hN
  have hd := pSquare_any n Z p c (e := B) (K := K) (by omega) h.sz hb1 (by omega) w h.row _ rfl N hn1 hK2 (fun _ => hgB) (fun _ => hNK)
  have hcode : sqCode N = 0 := by unfold sqCode; rw [if_neg (by omega), if_neg (by omega)]
  rw [hcode, if_pos rfl] at hd
  obtain ⟨f, hf⟩ : ∃ f : Nat → Int, (fun k => valZ (Z k)) = f := ⟨_, rfl⟩
  have hbf : ∀ k, Bn (f k) B := fun k => by rw [← hf]; exact hb1 k
  rw [hf] at hd hf1
  have hfe : ∀ x, ypol f N x = e x := fun x => by rw [← hF.ev x, ← hf1, ypol_cut]
  have ht : 0 < N → f (N - 1) ≠ 0 := fun h1 => by
    have := hF.top h1
    rw [← hf1] at this
    unfold ctN at this
    rwa [if_pos (by omega)] at this
  have iF : IsP N (ctN f N) e := by rw [hf1]; exact hF
  -- the derivative
  have hdt : 0 < N - 1 → dC f N (N - 1 - 1) ≠ 0 := fun h1 => by
    unfold dC
    rw [if_pos (by omega)]
    exact deC_top ht h1
  have hdb := dC_bn (n := N) (by omega) hbf
  obtain ⟨hgp, hcd⟩ := gcR_cd (f := f) (g := dC f N) (n := N) (m := N - 1) ht hdt (.inl h0)
  obtain ⟨_, _, E, hE1, hE2⟩ := gcS_out (N - 1) N (N - 1) (prC f N) (prC (dC f N) (N - 1)) (B + 10) (Nat.le_refl _) hgB (fun i => prC_bn (fun k => (hbf k).up (by omega)) N i) (fun i => prC_bn hdb (N - 1) i) (prC_top ht) (prC_top hdt) (.inl h0)
  change (E + 1) * 3 ^ (gcR f (dC f N) N (N - 1)).1 ≤ K at hE1
  change ∀ i, Bn ((gcR f (dC f N) N (N - 1)).2 i) E at hE2
  have hder : Der e (fun x => ypol (deC f) (N - 1) x) := (der_ypol N f).congr hfe fun _ => rfl
  have hdc : ∀ x, ypol (dC f N) (N - 1) x = ypol (deC f) (N - 1) x := fun x => ypol_congr x fun k hk => by unfold dC; rw [if_pos hk]
  have hsqN : sqN f N = dvLQ f (gcR f (dC f N) N (N - 1)).2 N (gcR f (dC f N) N (N - 1)).1 := rfl
  have hsqF : sqF f N = prC (dvQ f (gcR f (dC f N) N (N - 1)).2 N (gcR f (dC f N) N (N - 1)).1) (sqN f N) := rfl
  obtain ⟨M, hM⟩ : ∃ M, (gcR f (dC f N) N (N - 1)).1 = M := ⟨_, rfl⟩
  obtain ⟨G, hG⟩ : ∃ G, (gcR f (dC f N) N (N - 1)).2 = G := ⟨_, rfl⟩
  rw [hM, hG] at hgp hcd hsqN hsqF
  rw [hM] at hE1
  rw [hG] at hE2
  have hM0 := hgp.pos
  have iG : IsP M (ctN G M) (fun x => ypol G M x) := IsP.mk' G M fun _ => by have := hgp.lead; omega
  have hcd2 : CD e (fun x => ypol (deC f) (N - 1) x) (fun x => ypol G M x) := hcd.congr hfe hdc fun _ => rfl
  have iQ : IsP (dvLQ f G N M) (ctN (dvQ f G N M) (dvLQ f G N M)) (fun x => ypol (dvQ f G N M) (dvLQ f G N M) x) := IsP.mk' _ _ dvLQ_top
  have iR : IsP (dvLR f G N M) (ctN (dvR f G N M) (dvLR f G N M)) (fun x => ypol (dvR f G N M) (dvLR f G N M) x) := IsP.mk' _ _ (fun h1 => by
    by_cases hnm : N < M
    · unfold dvLR dvR at *
      rw [if_pos hnm] at h1
      rw [if_pos hnm, if_pos hnm]
      exact ht h1
    · exact dvR_top hnm h1)
  have hlt : dvLR f G N M < M := by
    by_cases hnm : N < M
    · unfold dvLR; rw [if_pos hnm]; exact hnm
    · exact dvLR_lt hM0 hnm
  have heq : ∀ x, G (M - 1) ^ (N + 1 - M) * e x = ypol (dvQ f G N M) (dvLQ f G N M) x * ypol G M x + ypol (dvR f G N M) (dvLR f G N M) x := fun x => by
    rw [← hfe x]; exact dv_ev hM0 x
  have hR0 : dvLR f G N M = 0 := dv_none hcd2.left iG iR iQ.pf heq hlt
  have hg0 : G (M - 1) ≠ 0 := by have := hgp.lead; omega
  have heq2 : ∀ x, G (M - 1) ^ (N + 1 - M) * e x = ypol (dvQ f G N M) (dvLQ f G N M) x * ypol G M x := fun x => by
    rw [heq x, hR0, ypol_nil]; omega
  have hQ0 : 0 < dvLQ f G N M := by
    rcases Nat.eq_zero_or_pos (dvLQ f G N M) with h1 | h1
    · exfalso
      have := hF.zero_iff.2 fun x => by
        have h2 := heq2 x
        rw [h1, ypol_nil, Int.zero_mul] at h2
        rcases Int.mul_eq_zero.1 h2 with h3 | h3
        · exact absurd h3 (Int.pow_ne_zero hg0)
        · exact h3
      omega
    · exact h1
  obtain ⟨l, hl0, hle⟩ := ypol_prC (f := dvQ f G N M) (n := dvLQ f G N M) dvLQ_top
  have hpr : Prim (dvLQ f G N M) (prC (dvQ f G N M) (dvLQ f G N M)) := prC_prim hQ0 (dvLQ_top hQ0)
  -- sizes
  have hsz : ∀ k, Bn (dvQ f G N M k) C := by
    have hcg : ∀ k, dvQ f G N M k = dvQ f (ctN G M) N M k := fun k => by
      unfold dvQ
      rw [dvS_congr (g' := ctN G M) hM0 fun k hk => (if_pos hk).symm]
    intro k
    rw [hcg k]
    by_cases hM1 : M = 1
    · have hg1 : ∀ k, Bn (ctN G M k) 0 := fun k => by
        have h1 := hgp.one
        rw [hM1, gcN, gcN, Nat.gcd_zero_left] at h1
        unfold ctN Bn
        split
        · rw [show k = 0 from by omega, h1]; decide
        · simp
      exact ((dvS_bn hbf hg1 (N - M + 1)).1 k).up (by rw [hM1]; omega)
    · have h9 : 3 ^ 2 ≤ 3 ^ M := Nat.pow_le_pow_right (by decide) (by omega)
      have h10 : (E + 1) * 9 ≤ (E + 1) * 3 ^ M := Nat.mul_le_mul_left _ h9
      have h11 : E + 1 ≤ K / 9 := by omega
      have h12 : (N - M + 1) * (E + 1) ≤ T * (K / 9) := Nat.mul_le_mul (by omega) h11
      exact ((dvS_bn hbf (fun k => ctN_bn hE2 M k) (N - M + 1)).1 k).up (by omega)
  refine hd.mono fun en w' hr => ?_
  rw [hsqN, hsqF, hsqN] at hr
  obtain ⟨q, cq, rfl, hq, hbl⟩ := hr
  have hlen := dvLQ_le2 (f := f) (g := G) (n := N) (m := M)
  refine ⟨q, cq, _, ctN (prC (dvQ f G N M) (dvLQ f G N M)) (dvLQ f G N M), _, rfl, ⟨hq.congr fun k hk => (if_pos hk).symm, IsP.mk' _ _ fun _ => ?_, by omega, fun k => ctN_bn (fun i => prC_bn hsz _ i) _ k⟩, ⟨IsP.mk' _ _ fun _ => ?_, hpr.ct, _, _, M, ctN G M, G (M - 1) ^ (N + 1 - M), l, hder, PF.of _ _, iG, hgp.ct, hcd2, Int.pow_ne_zero hg0, hl0, fun x => ?_⟩, hbl⟩
  · have := hpr.lead; omega
  · have := hpr.lead; omega
  · rw [heq2 x, hle x, Int.mul_assoc]
theorem sq0I (w : World) (p : Option Addr) (n c : Nat) (Z : Nat → ZI) (e : Int → Int) (F : Nat → Int) (B L : Nat) (h : PI w p n Z e B L) (hF : IsP 0 F e) (hL : L ≤ 65) (hB : B ≤ 1000000) :
    Calls Tryd.prog 36 #[.slice p n c] w fun en w' => ∃ q cq, en = .returned (.tuple #[.slice q 0 cq, .int .i64 1]) ∧ Below w.heap.size w w' := by
  have hl := h.len
  obtain ⟨hn1, hf1⟩ := h.dg hF
  have hd := pSquare_any n Z p c (e := B) (K := 10000000) (by omega) h.sz h.bn (by omega) w h.row _ rfl 0 hn1 (by decide) (fun _ => by unfold gcB; rw [if_neg (by omega)]; omega) (fun _ => by decide)
  rw [show sqCode 0 = 1 from rfl, if_neg (by decide)] at hd
  refine hd.mono fun en w' hr => ?_
  obtain ⟨q, cq, rfl, _, hbl⟩ := hr
  exact ⟨q, cq, rfl, hbl⟩
end Go.Proofs.YteoemijgdcpopaaDoor
