/- Contracts of polynomial.Divide, Gcd and Derivative in values. -/
import Derived.Test.YteoemijgdcpopaaDoorC31
import Derived.Test.YteoemijgdcpopaaDoorC35
namespace Go.Proofs.YteoemijgdcpopaaDoor
open Go.RowKit Go.Shelf
theorem dvLQ_le2 {f g : Nat → Int} {n m : Nat} : dvLQ f g n m ≤ n + 1 - m := by
  unfold dvLQ
  split
  · omega
  · have := dgN_le (dvS f g n m (n - m + 1)).1 (n - m + 1); omega
def RetDvI (ea eb : Int → Int) (g : Int) (k M B L L' : Nat) (w : World) (en : Ending) (w' : World) : Prop :=
  ∃ qq cq pp cp NQ FQ NR FR eq er, en = .returned (.tuple #[.slice qq NQ cq, .slice pp NR cp, .int .i64 0]) ∧ PR w' qq NQ FQ eq B L ∧ PR w' pp NR FR er B L' ∧ (∀ x, g ^ k * ea x = eq x * eb x + er x) ∧ NR < M ∧ Below w.heap.size w w'
theorem PI.dg {w : World} {p : Option Addr} {n : Nat} {Z : Nat → ZI} {e : Int → Int} {B L N : Nat} {F : Nat → Int} (h : PI w p n Z e B L) (hF : IsP N F e) : dgN (fun k => valZ (Z k)) n = N ∧ ctN (fun k => valZ (Z k)) N = F := by
  obtain ⟨h1, h2⟩ := h.deg.unique hF
  rw [h1] at h2
  exact ⟨h1, h2⟩
theorem divI (w : World) (p q : Option Addr) (n m c d : Nat) (Z Y : Nat → ZI) (ea eb : Int → Int) (N M : Nat) (F G : Nat → Int) (B L L' : Nat) (h : PI w p n Z ea B L) (k : PI w q m Y eb B L') (hF : IsP N F ea) (hG : IsP M G eb) (h0 : 0 < M) (hL : L ≤ 65) (hL' : L' ≤ 65) (hB : B ≤ 1000000) :
    Calls Tryd.prog 18 #[.slice p n c, .slice q m d] w (RetDvI ea eb (G (M - 1)) (N + 1 - M) M (B + 66 * (B + 1)) L L' w) := by
  have hl := h.len
  have kl := k.len
  obtain ⟨hn1, hf1⟩ := h.dg hF
  obtain ⟨hm1, hg1⟩ := k.dg hG
  have hb1 := h.bn
  have hb2 := k.bn
  have hd := pDivide_any n m Z Y p q c d (e := B) (by omega) (by omega) h.sz k.sz hb1 hb2 (by omega) w h.row k.row _ _ rfl rfl N M hn1 hm1
  obtain ⟨f, hf⟩ : ∃ f : Nat → Int, (fun k => valZ (Z k)) = f := ⟨_, rfl⟩
  obtain ⟨g, hg⟩ : ∃ f : Nat → Int, (fun k => valZ (Y k)) = f := ⟨_, rfl⟩
  have hbf : ∀ k, Bn (f k) B := fun k => by rw [← hf]; exact hb1 k
  have hbg : ∀ k, Bn (g k) B := fun k => by rw [← hg]; exact hb2 k
  rw [hf] at hd hn1 hf1
  rw [hg] at hd hm1 hg1
  have hN := dgN_le f n
  have hM := dgN_le g m
  have ht := dgN_top f n
  rw [hn1] at hN ht
  rw [hm1] at hM
  have hcode : dvCode N M = 0 := by unfold dvCode; rw [if_neg (by omega), if_neg (by omega)]
  rw [if_pos hcode, if_pos hcode, hcode] at hd
  have hmul : (N - M + 1) * (B + 1) ≤ 66 * (B + 1) := Nat.mul_le_mul_right _ (by omega)
  refine hd.mono fun en w' hr => ?_
  obtain ⟨qq, cq, pp, cp, rfl, hq, hp, hbl⟩ := hr
  refine ⟨qq, cq, pp, cp, _, ctN (dvQ f g N M) (dvLQ f g N M), _, ctN (dvR f g N M) (dvLR f g N M), _, _, rfl, ⟨hq.congr fun k hk => (if_pos hk).symm, IsP.mk' _ _ dvLQ_top, ?_, fun k => ctN_bn (fun k => ((dvS_bn hbf hbg (N - M + 1)).1 k).up (by omega)) _ k⟩, ⟨hp.congr fun k hk => (if_pos hk).symm, IsP.mk' _ _ ?_, ?_, fun k => ctN_bn (fun k => (dvR_bn (n := N) (m := M) hbf hbg k).up (by omega)) _ k⟩, fun x => ?_, ?_, hbl⟩
  · have := dvLQ_le2 (f := f) (g := g) (n := N) (m := M); omega
  · intro h1
    by_cases hnm : N < M
    · unfold dvLR dvR at *
      rw [if_pos hnm] at h1
      rw [if_pos hnm, if_pos hnm]
      exact ht h1
    · exact dvR_top hnm h1
  · by_cases hnm : N < M
    · unfold dvLR; rw [if_pos hnm]; omega
    · have := dvLR_lt (f := f) (g := g) h0 hnm; omega
  · have h1 := dv_ev (f := f) (g := g) (n := N) (m := M) h0 x
    have h2 : G (M - 1) = g (M - 1) := by rw [← hg1]; exact if_pos (by omega)
    rw [h2, ← hF.ev x, ← hG.ev x, ← hf1, ← hg1, ypol_cut, ypol_cut]
    exact h1
  · by_cases hnm : N < M
    · unfold dvLR; rw [if_pos hnm]; exact hnm
    · exact dvLR_lt h0 hnm
theorem div0I (w : World) (p q : Option Addr) (n m c d : Nat) (Z Y : Nat → ZI) (ea eb : Int → Int) (G : Nat → Int) (B L L' : Nat) (h : PI w p n Z ea B L) (k : PI w q m Y eb B L') (hG : IsP 0 G eb) (hL : L ≤ 65) (hL' : L' ≤ 65) (hB : B ≤ 1000000) :
    Calls Tryd.prog 18 #[.slice p n c, .slice q m d] w fun en w' => ∃ qq cq pp cp, en = .returned (.tuple #[.slice qq 0 cq, .slice pp 0 cp, .int .i64 9]) ∧ Below w.heap.size w w' := by
  have hl := h.len
  have kl := k.len
  obtain ⟨hm1, hg1⟩ := k.dg hG
  have hd := pDivide_any n m Z Y p q c d (e := B) (by omega) (by omega) h.sz k.sz h.bn k.bn (by omega) w h.row k.row _ _ rfl rfl _ 0 rfl hm1
  have hN := dgN_le (fun k => valZ (Z k)) n
  have hcode : dvCode (dgN (fun k => valZ (Z k)) n) 0 = 9 := by unfold dvCode; rw [if_neg (by omega), if_pos rfl]
  rw [hcode, if_neg (by decide), if_neg (by decide)] at hd
  refine hd.mono fun en w' hr => ?_
  obtain ⟨qq, cq, pp, cp, rfl, _, _, hbl⟩ := hr
  exact ⟨qq, cq, pp, cp, rfl, hbl⟩
def RetGcI (ea eb : Int → Int) (B L : Nat) (w : World) (en : Ending) (w' : World) : Prop :=
  ∃ q c N H e, en = .returned (.tuple #[.slice q N c, .int .i64 0]) ∧ PR w' q N H e B L ∧ GcP ea eb N H e ∧ Below w.heap.size w w'
theorem gcS_zero (k n : Nat) (f g : Nat → Int) : (gcS k n f 0 g) = (n, f) := gcS_end k n f g
theorem gcS_len : ∀ (k n m : Nat) (f g : Nat → Int) (L : Nat), n ≤ L → m ≤ L → (gcS k n f m g).1 ≤ L
  | 0, n, m, f, g, L, hn, _ => hn
  | k + 1, n, m, f, g, L, hn, hm => by
    rw [gcS]
    split
    · exact hn
    · split
      · exact gcS_len k m n g f L hm hn
      · rename_i h1 h2
        exact gcS_len k m _ g _ L hm (by have := dvLR_lt (f := f) (g := g) (show 0 < m by omega) h2; omega)
theorem gcdI (w : World) (p q : Option Addr) (n m c d : Nat) (Z Y : Nat → ZI) (ea eb : Int → Int) (B L K : Nat) (h : PI w p n Z ea B L) (k : PI w q m Y eb B L) (hL : L ≤ 65) (hK : (B + 1) * 3 ^ (L + 1) ≤ K) (hK2 : K ≤ 100000000) :
    Calls Tryd.prog 20 #[.slice p n c, .slice q m d] w (RetGcI ea eb K L w) := by
  have hl := h.len
  have kl := k.len
  have hb1 := h.bn
  have hb2 := k.bn
  have hfe := h.deg.ev
  have hge := k.deg.ev
  obtain ⟨f, hf⟩ : ∃ f : Nat → Int, (fun k => valZ (Z k)) = f := ⟨_, rfl⟩
  obtain ⟨g, hg⟩ : ∃ f : Nat → Int, (fun k => valZ (Y k)) = f := ⟨_, rfl⟩
  have hbf : ∀ k, Bn (f k) B := fun k => by rw [← hf]; exact hb1 k
  have hbg : ∀ k, Bn (g k) B := fun k => by rw [← hg]; exact hb2 k
  have hN := dgN_le f n
  have hM := dgN_le g m
  have ht := dgN_top f n
  have ht' := dgN_top g m
  rw [hf] at hfe
  rw [hg] at hge
  obtain ⟨N, hn1⟩ : ∃ N, dgN f n = N := ⟨_, rfl⟩
  obtain ⟨M, hm1⟩ : ∃ N, dgN g m = N := ⟨_, rfl⟩
  rw [hn1] at hN ht hfe
  rw [hm1] at hM ht' hge
  have hgB : gcB K N M B := by
    unfold gcB
    refine Nat.le_trans (Nat.mul_le_mul_left _ (Nat.pow_le_pow_right (by decide) ?_)) hK
    split <;> omega
  have hd := pGcd_any n m Z Y p q c d (e := B) (K := K) (by omega) (by omega) h.sz k.sz hb1 hb2 w h.row k.row f g hf hg N M hn1 hm1 hK2 (fun _ _ => hgB)
  have hcode : gcCode N M = 0 := by unfold gcCode; rw [if_neg (by omega)]
  rw [hcode, if_pos rfl] at hd
  refine hd.mono fun en w' hr => ?_
  obtain ⟨qq, cq, rfl, hq, hbl⟩ := hr
  have hiN : IsP N (ctN f N) ea := (IsP.mk' f N ht).congr fun x => by rw [← hfe x, ypol_cut]
  have hiM : IsP M (ctN g M) eb := (IsP.mk' g M ht').congr fun x => by rw [← hge x, ypol_cut]
  have hlen : (gcR f g N M).1 ≤ L := gcS_len _ _ _ _ _ L (by omega) (by omega)
  have he : (∀ x, ypol f N x = ea x) ∧ ∀ x, ypol g M x = eb x := ⟨fun x => by rw [← hfe x, ypol_cut], fun x => by rw [← hge x, ypol_cut]⟩
  by_cases h0 : N = 0 ∧ M = 0
  · obtain ⟨rfl, rfl⟩ := h0
    have h1 : (gcR f g 0 0).1 = 0 := rfl
    rw [h1] at hq ⊢
    exact ⟨qq, cq, 0, fun _ => 0, fun _ => 0, rfl, ⟨.inl rfl, IsP.zero, Nat.zero_le _, fun _ => Bn.zero _⟩, ⟨fun _ _ => rfl, fun h => absurd ⟨hiN.zero_iff.1 rfl, hiM.zero_iff.1 rfl⟩ h, fun h => absurd ⟨hiN.zero_iff.1 rfl, hiM.zero_iff.1 rfl⟩ h⟩, hbl⟩
  · have h1 : 0 < N ∨ 0 < M := by omega
    obtain ⟨hp, hc⟩ := gcR_cd ht ht' h1
    obtain ⟨_, _, E, hE1, hE2⟩ := gcS_out M N M (prC f N) (prC g M) B (Nat.le_refl _) hgB (fun i => prC_bn hbf N i) (fun i => prC_bn hbg M i) (prC_top ht) (prC_top ht') h1
    have hEK : E ≤ K := by
      have h2 : (E + 1) * 1 ≤ (E + 1) * 3 ^ (gcS M N (prC f N) M (prC g M)).1 := Nat.mul_le_mul_left _ (Nat.pow_pos (by decide))
      omega
    refine ⟨qq, cq, _, ctN (gcR f g N M).2 (gcR f g N M).1, _, rfl, ⟨hq.congr fun k hk => (if_pos hk).symm, IsP.mk' _ _ fun _ => ?_, hlen, fun k => ctN_bn (fun i => (hE2 i).up hEK) _ k⟩, ⟨fun ha hb => ?_, fun _ => hp.ct, fun _ => hc.congr he.1 he.2 fun _ => rfl⟩, hbl⟩
    · have := hp.lead; omega
    · have := hiN.zero_iff.2 ha
      have := hiM.zero_iff.2 hb
      omega
def RetDeI (e : Int → Int) (N : Nat) (F : Nat → Int) (B L : Nat) (w : World) (en : Ending) (w' : World) : Prop :=
  ∃ q c H, en = .returned (.slice q (N - 1) c) ∧ PR w' q (N - 1) H (fun x => ypol (deC F) (N - 1) x) B L ∧ Der e (fun x => ypol (deC F) (N - 1) x) ∧ Below w.heap.size w w'
theorem deC_ct (f : Nat → Int) (N : Nat) : ∀ k, k < N - 1 → deC (ctN f N) k = deC f k := fun k hk => by
  unfold deC ctN
  rw [if_pos (by omega)]
theorem derI (w : World) (p : Option Addr) (n c : Nat) (Z : Nat → ZI) (e : Int → Int) (N : Nat) (F : Nat → Int) (B L : Nat) (h : PI w p n Z e B L) (hF : IsP N F e) (hL : L ≤ 1000) (hB : B ≤ 10000000) :
    Calls Tryd.prog 29 #[.slice p n c] w (RetDeI e N F (B + 10) L w) := by
  have hl := h.len
  obtain ⟨hn1, hf1⟩ := h.dg hF
  have hd := pDeriv_any n Z p c (e := B) (by omega) h.sz h.bn hB w h.row _ rfl N hn1
  have hN := dgN_le (fun k => valZ (Z k)) n
  rw [hn1] at hN
  have hb1 := h.bn
  obtain ⟨f, hf⟩ : ∃ f : Nat → Int, (fun k => valZ (Z k)) = f := ⟨_, rfl⟩
  have hbf : ∀ k, Bn (f k) B := fun k => by rw [← hf]; exact hb1 k
  rw [hf] at hd hf1
  refine hd.mono fun en w' hr => ?_
  obtain ⟨q, cq, rfl, hq, hbl⟩ := hr
  have hi := hF.derP
  have hde : ∀ k, k < N - 1 → ctN (deC F) (N - 1) k = deC f k := fun k hk => by
    rw [← hf1]; unfold ctN; rw [if_pos hk]; exact deC_ct f N k hk
  refine ⟨q, cq, ctN (deC F) (N - 1), rfl, ⟨hq.congr fun k hk => (hde k hk).symm, hi, by omega, fun k => ?_⟩, hF.der, hbl⟩
  by_cases hk : k < N - 1
  · rw [hde k hk]; exact deC_bn hbf (by omega)
  · unfold ctN; rw [if_neg hk]; exact Bn.zero _
end Go.Proofs.YteoemijgdcpopaaDoor
