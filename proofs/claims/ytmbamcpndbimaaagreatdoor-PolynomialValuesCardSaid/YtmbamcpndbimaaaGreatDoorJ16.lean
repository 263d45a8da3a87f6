/- polynomial.gcd: the plain law of its bounds, and the walk. -/
import Derived.Test.YtmbamcpndbimaaaGreatDoorJ15
namespace Go.Proofs.YtmbamcpndbimaaaGreatDoor
open List renaming getElem_toArray → ny1, getElem_cons_zero → ny2, getElem_cons_succ → ny3, setIfInBounds_toArray → ny4, set_cons_zero → ny5, set_cons_succ → ny6
open Go.RowKit Go.Shelf
theorem dgN_below {f : Nat → Int} : ∀ {n b : Nat}, (∀ i, b ≤ i → i < n → f i = 0) → dgN f n ≤ b
 | 0, _, _ => Nat.zero_le _
 | n + 1, b, h => by
  rw [dgN]
  split
  ·exact dgN_below fun i h1 h2 => h i h1 (by omega)
  ·rename_i h0
   refine Classical.byContradiction fun hn => h0 (h n (by omega) (by omega))
theorem dvS_top {f g : Nat → Int} {n m : Nat} (hm : 0 < m) (hnm : m ≤ n) : ∀ j, j ≤ n - m + 1 → ∀ i, n - j ≤ i → i < n → (dvS f g n m j).2 i = 0
 | 0, _, i, h1, h2 => by omega
 | j + 1, hj, i, h1, h2 => by
  have ih := dvS_top (f := f) (g := g) hm hnm j (by omega)
  dsimp only [dvS]
  by_cases e : i = n - 1 - j
  ·have h3 : n - m - j ≤ i ∧ i < n - m - j + m := by omega
   rw [if_pos h3, show n - m - j + m - 1 = i from by omega, show i - (n - m - j) = m - 1 from by omega]
   omega
  ·have h3 : ¬ (n - m - j ≤ i ∧ i < n - m - j + m) := by omega
   rw [if_neg h3, ih i (by omega) h2]; simp
theorem dvLR_lt {f g : Nat → Int} {n m : Nat} (hm : 0 < m) (hnm : ¬ n < m) : dvLR f g n m < m := by
 unfold dvLR
 rw [if_neg hnm]
 have := dgN_below (f := (dvS f g n m (n - m + 1)).2) (n := n) (b := m - 1) fun i h1 h2 => dvS_top hm (by omega) _ (Nat.le_refl _) i (by omega) h2
 omega
theorem dvR_top {f g : Nat → Int} {n m : Nat} (hnm : ¬ n < m) (h : 0 < dvLR f g n m) : dvR f g n m (dvLR f g n m - 1) ≠ 0 := by
 unfold dvR dvLR at *
 rw [if_neg hnm] at h
 rw [if_neg hnm, if_neg hnm]
 exact dgN_top _ _ h
theorem dvR_bn {f g : Nat → Int} {n m e e' : Nat} (hf : ∀ i, Bn (f i) e) (hg : ∀ i, Bn (g i) e') (k : Nat) : Bn (dvR f g n m k) (e + (n - m + 1) * (e' + 1)) := by
 unfold dvR
 split
 ·exact (hf k).up (Nat.le_add_right _ _)
 ·exact (dvS_bn hf hg _).2 k
theorem prC_bn {f : Nat → Int} {e : Nat} (hf : ∀ k, Bn (f k) e) (n k : Nat) : Bn (prC f n k) e := by
 unfold prC Bn
 exact Nat.le_trans (Int.natAbs_ediv_le_natAbs _ _) (hf k)
theorem prC_top {f : Nat → Int} {n : Nat} (h : 0 < n → f (n - 1) ≠ 0) : 0 < n → prC f n (n - 1) ≠ 0 := fun h0 => by
 have h1 := h h0
 unfold prC
 have hG0 := gcN_ne (show n - 1 < n by omega) h1
 have hd : prG f n ∣ f (n - 1) := by
  unfold prG
  split
  ·exact Int.neg_dvd.2 (gcN_dvd f n _ (by omega))
  ·exact gcN_dvd f n _ (by omega)
 obtain ⟨q, hq⟩ := hd
 have hg : prG f n ≠ 0 := by unfold prG; split <;> omega
 rw [hq, Int.mul_ediv_cancel_left _ hg]
 intro h2
 rw [h2, Int.mul_zero] at hq
 exact h1 hq
def gcS : Nat → Nat → (Nat → Int) → Nat → (Nat → Int) → Nat × (Nat → Int)
 | 0, n, f, _, _ => (n, f)
 | k + 1, n, f, m, g => if m = 0 then (n, f) else if n < m then gcS k m g n f else gcS k m g (dvLR f g n m) (prC (dvR f g n m) (dvLR f g n m))
theorem gcS_end (k n : Nat) (f g : Nat → Int) : gcS k n f 0 g = (n, f) := by cases k <;> rfl
def gcB (K n m e : Nat) : Prop := (e + 1) * 3 ^ (if m < n then n else m + 1) ≤ K
theorem pow3 : ∀ D, 1 ≤ D → D + 2 ≤ 3 ^ D
 | 0, h => by omega
 | 1, _ => by decide
 | D + 2, _ => by
  have := pow3 (D + 1) (by omega)
  rw [Nat.pow_succ]
  omega
theorem gcB_swap {K n m e : Nat} (h : gcB K n m e) (hnm : n < m) : gcB K m n e := by
 unfold gcB at *
 rw [if_neg (by omega)] at h
 rw [if_pos hnm]
 exact Nat.le_trans (Nat.mul_le_mul_left _ (Nat.pow_le_pow_right (by decide) (by omega))) h
theorem gcB_step {K n m l e : Nat} (h : gcB K n m e) (hnm : ¬ n < m) (hl : l < m) : gcB K m l (e + (n - m + 1) * (e + 1)) := by
 unfold gcB at *
 rw [if_pos hl]
 have e1 : e + (n - m + 1) * (e + 1) + 1 = (n - m + 2) * (e + 1) := by rw [Nat.add_mul, Nat.add_mul]; omega
 rw [e1]
 by_cases hD : m < n
 ·rw [if_pos hD] at h
  have h1 := pow3 (n - m) (by omega)
  have h2 : (n - m + 2) * (e + 1) * 3 ^ m ≤ 3 ^ (n - m) * (e + 1) * 3 ^ m := Nat.mul_le_mul_right _ (Nat.mul_le_mul_right _ h1)
  have h3 : 3 ^ (n - m) * (e + 1) * 3 ^ m = (e + 1) * 3 ^ n := by
   rw [Nat.mul_comm (3 ^ (n - m)), Nat.mul_assoc, ← Nat.pow_add, show n - m + m = n from by omega]
  omega
 ·rw [if_neg hD] at h
  obtain rfl : n = m := by omega
  rw [Nat.sub_self, Nat.zero_add, Nat.pow_succ, ← Nat.mul_assoc] at *
  have : 2 * (e + 1) * 3 ^ n = (e + 1) * 3 ^ n * 2 := by rw [Nat.mul_comm 2, Nat.mul_right_comm]
  omega
theorem gcB_div {K n m e : Nat} (h : gcB K n m e) (hnm : ¬ n < m) (hm : 0 < m) : e + (n - m + 1) * (e + 1) ≤ K := by
 have h1 := gcB_step (l := m - 1) h hnm (by omega)
 unfold gcB at h1
 rw [if_pos (by omega)] at h1
 have h2 : (e + (n - m + 1) * (e + 1) + 1) * 1 ≤ (e + (n - m + 1) * (e + 1) + 1) * 3 ^ m := Nat.mul_le_mul_left _ (Nat.pow_pos (by decide))
 omega
theorem gcB_e {K n m e : Nat} (h : gcB K n m e) : e ≤ K := by
 unfold gcB at h
 have h2 : (e + 1) * 1 ≤ (e + 1) * 3 ^ (if m < n then n else m + 1) := Nat.mul_le_mul_left _ (Nat.pow_pos (by decide))
 omega
theorem gcS_out {K : Nat} : ∀ (k n m : Nat) (f g : Nat → Int) (e : Nat), m ≤ k → gcB K n m e → (∀ i, Bn (f i) e) → (∀ i, Bn (g i) e) → (0 < n → f (n - 1) ≠ 0) → (0 < m → g (m - 1) ≠ 0) → (0 < n ∨ 0 < m) →
  0 < (gcS k n f m g).1 ∧ (gcS k n f m g).2 ((gcS k n f m g).1 - 1) ≠ 0 ∧ ∃ E, (E + 1) * 3 ^ (gcS k n f m g).1 ≤ K ∧ ∀ i, Bn ((gcS k n f m g).2 i) E
 | k, n, 0, f, g, e, _, hB, hf, _, hcf, _, h0 => by
  rw [gcS_end]
  have hn : 0 < n := by omega
  refine ⟨hn, hcf hn, e, ?_, hf⟩
  unfold gcB at hB
  rw [if_pos hn] at hB
  exact hB
 | 0, n, m + 1, f, g, e, h, _, _, _, _, _, _ => by omega
 | k + 1, n, m + 1, f, g, e, hk, hB, hf, hg, hcf, hcg, h0 => by
  rw [gcS, if_neg (by omega)]
  by_cases hnm : n < m + 1
  ·rw [if_pos hnm]
   exact gcS_out k (m + 1) n g f e (by omega) (gcB_swap hB hnm) hg hf hcg hcf (by omega)
  ·rw [if_neg hnm]
   have hlt := dvLR_lt (f := f) (g := g) (show 0 < m + 1 by omega) hnm
   have hrb := fun k => dvR_bn (n := n) (m := m + 1) hf hg k
   have hrt := dvR_top (f := f) (g := g) hnm
   exact gcS_out k (m + 1) _ g _ _ (by omega) (gcB_step hB hnm hlt) (fun i => (hg i).up (Nat.le_add_right _ _)) (fun i => prC_bn hrb _ i) hcg (prC_top hrt) (by omega)
set_option maxRecDepth 100000 in
set_option maxHeartbeats 8000000 in
theorem pgcd_any (n m : Nat) (f g : Nat → Int) (p q : Option Addr) (c d : Nat) {e : Nat} (hn : n ≤ 1000) (hm : m ≤ 1000) {K : Nat} (hK : K ≤ 100000000) (hB : gcB K n m e) (hf : ∀ k, Bn (f k) e) (hg : ∀ k, Bn (g k) e) (hcf : 0 < n → f (n - 1) ≠ 0) (hcg : 0 < m → g (m - 1) ≠ 0) (w : World) (hX : RowF w p n f) (hY : RowF w q m g) :
  Calls Tryz.prog 29 #[.slice p n c, .slice q m d] w (RetPol (gcS m n (prC f n) m (prC g m)).1 (gcS m n (prC f n) m (prC g m)).2 w) := by
 have hP1 := prim_any n f p c hn (Nat.le_trans (gcB_e hB) hK) hf hcf w hX
 have hP2 := fun W (hW : Below w.heap.size w W) => prim_any m g q d hm (Nat.le_trans (gcB_e hB) hK) hg hcg W (RowF.below hY (Nat.le_refl _) hW)
 have hf1 := fun k => prC_bn hf n k
 have hg1 := fun k => prC_bn hg m k
 have hcf1 := prC_top hcf
 have hcg1 := prC_top hcg
 obtain ⟨f1, hfe⟩ : ∃ x, prC f n = x := ⟨_, rfl⟩
 obtain ⟨g1, hge⟩ : ∃ x, prC g m = x := ⟨_, rfl⟩
 rw [hfe] at hP1 hf1 hcf1 ⊢
 rw [hge] at hP2 hg1 hcg1 ⊢
 obtain ⟨N, hN⟩ : ∃ x, (gcS m n f1 m g1).1 = x := ⟨_, rfl⟩
 obtain ⟨F, hF⟩ : ∃ x, (gcS m n f1 m g1).2 = x := ⟨_, rfl⟩
 have HR := lhd (show gcS m n f1 m g1 = (N, F) from by rw [← hN, ← hF])
 rw [hN, hF]
 have H1 := lhd hP1
 have H2 := lhd hP2
 have Hf1 := lhd hf1
 have Hg1 := lhd hg1
 have Hcf := lhd hcf1
 have Hcg := lhd hcg1
 have HBb := lhd hB
 clear hP1 hP2 hf hg hcf hcg hX hY hfe hge hN hF hf1 hg1 hcf1 hcg1 hB
 go_enter Tryz.func29, Tryz.ntmps29
 go_wp2_with fail
 refine H1.out.mono ?_
 rintro e1 w1 ⟨q1, c1, rfl, hr1, hb1⟩
 dsimp only
 have H3 := lhd (H2.out w1 hb1)
 have Hr1 := lhd hr1
 have Hb1 := lhd hb1
 clear hr1 hb1 H1 H2
 go_wp2_with fail
 refine H3.out.mono ?_
 rintro e2 w2 ⟨q2, c2, rfl, hr2, hb2⟩
 dsimp only
 have Ha := lhd (RowF.below Hr1.out (Nat.le_refl _) hb2)
 have Hb := lhd hr2
 have HW := lhd (Hb1.out.trans (hb2.mono Hb1.out.size))
 clear hr2 hb2 H3 Hr1 Hb1
 go_wp2_with fail
 go_loopw [0, 1] (fun av bv wr => ∃ (k n m e : Nat) (f g : Nat → Int) (p q : Option Addr) (c d : Nat), m ≤ k ∧ n ≤ 1000 ∧ m ≤ 1000 ∧ av = .slice p n c ∧ bv = .slice q m d ∧ Hid (RowF wr p n f) ∧ Hid (RowF wr q m g) ∧ Hid (gcB K n m e) ∧ Hid (∀ k, Bn (f k) e) ∧ Hid (∀ k, Bn (g k) e) ∧ Hid (0 < n → f (n - 1) ≠ 0) ∧ Hid (0 < m → g (m - 1) ≠ 0) ∧ Hid (gcS k n f m g = (N, F)) ∧ Hid (Below w.heap.size w wr)) (fun _ bv _ => (match bv with | .slice _ m _ => m | _ => 0))
 case atStart => exact ⟨m, n, m, e, f1, g1, q1, q2, c1, c2, Nat.le_refl _, hn, hm, rfl, rfl, Ha, Hb, HBb, Hf1, Hg1, Hcf, Hcg, HR, HW⟩
 case round =>
  clear Ha Hb HBb Hf1 Hg1 Hcf Hcg HR HW hn hm
  obtain ⟨k, n, m, e, f, g, p, q, c, d, hk, hn, hm, rfl, rfl, Ha, Hb, HBb, Hf, Hg, Hcf, Hcg, HR, HW⟩ := hrel
  by_cases hm0 : 0 < m
  ·obtain ⟨k, rfl⟩ : ∃ j, k = j + 1 := ⟨k - 1, by omega⟩
   have m0 : (m : Int) > 0 := by omega
   by_cases hnm : n < m
   ·have n0 : (n : Int) < (m : Int) := by omega
    have HR2 : Hid (gcS k m g n f = (N, F)) := lhd (by
     have h := HR.out
     rw [gcS, if_neg (by omega), if_pos hnm] at h
     exact h)
    have HB2 := lhd (gcB_swap HBb.out hnm)
    clear HR HBb
    go_wp2_with fail
    go_roundw
    case rel => exact ⟨k, m, n, e, g, f, q, p, d, c, by omega, hm, hn, rfl, rfl, Hb, Ha, HB2, Hg, Hf, Hcg, Hcf, HR2, HW⟩
    case measure => simp; omega
   ·have n0 : ¬ (n : Int) < (m : Int) := by omega
    have hlt := dvLR_lt (f := f) (g := g) hm0 hnm
    have hHR := HR.out
    rw [gcS, if_neg (by omega), if_neg hnm] at hHR
    have hdv := pdiv_any n m f g p q c d hn hm hm0 (Nat.le_trans (gcB_div HBb.out hnm hm0) hK) Hf.out Hg.out wr Ha.out Hb.out
    have hrb := fun k => dvR_bn (n := n) (m := m) Hf.out Hg.out k
    have hrt := dvR_top (f := f) (g := g) hnm
    have hB2 := gcB_step HBb.out hnm hlt
    obtain ⟨l, hl⟩ : ∃ l, dvLR f g n m = l := ⟨_, rfl⟩
    obtain ⟨r, hr⟩ : ∃ l, dvR f g n m = l := ⟨_, rfl⟩
    obtain ⟨lq, hlq⟩ : ∃ l, dvLQ f g n m = l := ⟨_, rfl⟩
    obtain ⟨rq, hrq⟩ : ∃ l, dvQ f g n m = l := ⟨_, rfl⟩
    obtain ⟨e2, he2⟩ : ∃ x, e + (n - m + 1) * (e + 1) = x := ⟨_, rfl⟩
    have hge : ∀ k, Bn (g k) e2 := fun k => (Hg.out k).up (by omega)
    rw [hl, hr, hlq, hrq] at hdv
    rw [hl] at hlt hB2
    rw [he2] at hB2 hrb
    rw [hr] at hrb
    rw [hl, hr] at hrt hHR
    have hpr := fun q d W (hW : RowF W q l r) => prim_any l r q d (by omega) (Nat.le_trans (gcB_e hB2) hK) hrb hrt W hW
    have HDv := lhd hdv
    have HPr := lhd hpr
    have HR2 := lhd hHR
    have HB2 := lhd hB2
    have Hge := lhd hge
    have Hpb := lhd (fun k => prC_bn hrb l k)
    have Hpt := lhd (prC_top hrt)
    clear hHR hdv hrb hrt hB2 hl hr hlq hrq he2 hge hpr HR HBb Hf Hcf
    unfold RetDv at HDv
    unfold RetPol at HPr
    go_wp2_with fail
    refine HDv.out.mono ?_
    rintro e3 w3 ⟨q3, c3, p3, d3, rfl, _, hr3, hb3⟩
    dsimp only
    have HP3 := lhd (HPr.out p3 d3 w3 hr3)
    have Hb3 := lhd (RowF.below Hb.out (Nat.le_refl _) hb3)
    have HW3 := lhd (HW.out.trans (hb3.mono HW.out.size))
    clear hr3 hb3 HDv HPr Ha Hb HW
    go_wp2_with fail
    refine HP3.out.mono ?_
    rintro e4 w4 ⟨p4, c4, rfl, hr4, hb4⟩
    dsimp only
    have Hr4 := lhd hr4
    have Hb4 := lhd (RowF.below Hb3.out (Nat.le_refl _) hb4)
    have HW4 := lhd (HW3.out.trans (hb4.mono HW3.out.size))
    clear hr4 hb4 HP3 Hb3 HW3
    go_wp2_with fail
    go_roundw
    case rel => exact ⟨k, m, l, e2, g, prC r l, q, p4, d, c4, by omega, hm, by omega, rfl, rfl, Hb4, Hr4, HB2, Hge, Hpb, Hcg, Hpt, HR2, HW4⟩
    case measure => simp; omega
  ·obtain rfl : 0 = m := by omega
   have hHR := HR.out
   rw [gcS_end] at hHR
   cases hHR
   go_wp2_with fail
   go_ret
   exact ⟨p, c, rfl, Ha.out, HW.out⟩
open Go.RowKit Go.Shelf
theorem step_append_z1 {ops : Array Oper} {o : Oper} {a : Act} {w : World} {K : Act → World → Prop} {Q : Exit → Act → World → Prop} {E : Prop} (hgd : o.guard = none) (s x : Operand)
  (hop : o.op = .call { callee := .builtin .append, args := #[s, x], argTypes := #[22, 22] })
  (base : Nat) (v : Value) (xs : List Int) (hs : a.eval s = v) (hown : OwnZ w base v xs) (g c : Nat) (y : Int) (hx : a.eval x = .slice (some ⟨g, 0, none⟩) 1 c)
  (h0 : w.cell? ⟨g, 0, none⟩ = some (.bool (canon y).neg)) (h1 : w.cell? ⟨g, 1, none⟩ = some (.string (canon y).mag)) (hn : xs.length < 1000000000) (hbase : base ≤ w.heap.size)
  (h : ∀ v' w', OwnZ w' base v' (xs ++ [y]) → w.grownBy w' v.ownBlock → K (a.put o.dst v') w') :
  if Region.wanted o (yielded ops a.tmps) = true then Oper.wp Tryz.prog o a w K Q else E := by
 have hw : Region.wanted o (yielded ops a.tmps) = true := by simp [Region.wanted, hgd]
 rw [if_pos hw]
 obtain ⟨i0, hi, hzz⟩ := Option.map_eq_some_iff.1 zInfo
 simp only [Prod.mk.injEq] at hzz
 obtain ⟨hz0, hz1, hz2⟩ := hzz
 refine wp_append_own w s x _ hop base 24 i0 (.agg #[.bool false, .string ⟨#[]⟩]) 2 24 Tryz.underlying22 hi hz0 hz1 hz2 rfl (by decide) v xs.length (zL xs) hs hown ⟨g, 0, none⟩ 1 c (zL [y]) hx rfl ?_ (zL_one [y]) ?_ ?_ hbase ?_
 ·intro j u hj
  match j, hj with
  | 0, hj => simp [zL] at hj; subst hj; simpa [Addr.add] using h0
  | 1, hj => simp [zL] at hj; subst hj; simpa [Addr.add] using h1
 ·unfold maxLen; omega
 ·omega
 ·intro v' w' h3 h4 _
  exact h v' w' (by unfold OwnZ; rw [List.length_append, zL_append]; exact h3) h4
def deC (f : Nat → Int) (k : Nat) : Int := f (k + 1) * ((k : Int) + 1)
theorem deC_bn {f : Nat → Int} {e : Nat} (hf : ∀ k, Bn (f k) e) {k : Nat} (hk : k < 1000) : Bn (deC f k) (e + 10) := by
 unfold deC
 refine Bn.mul (hf _) ?_
 show ((k : Int) + 1).natAbs ≤ 2 ^ 10
 omega
set_option maxRecDepth 100000 in
set_option maxHeartbeats 8000000 in
theorem deriv_any (n : Nat) (f : Nat → Int) (p : Option Addr) (c : Nat) {e : Nat} (hn : n ≤ 1000) (he : e ≤ 100000000) (hf : ∀ k, Bn (f k) e) (w : World) (hX : RowF w p n f) :
  Calls Tryz.prog 30 #[.slice p n c] w (RetPol (n - 1) (deC f) w) := by
 have HX := lhd hX
 have Hf := lhd hf
 clear hX hf
 go_enter Tryz.func30, Tryz.ntmps30
 go_wp2_with fail
 go_loopw [3, 8] (fun ov iv wr => ∃ i : Nat, i ≤ n ∧ iv = .int .i64 (i : Nat) ∧ Hid (OwnZ wr w.heap.size ov (zsF (deC f) (i - 1))) ∧ Hid (Below w.heap.size w wr)) (fun _ iv _ => n - (intOf iv).toNat)
 case atStart => exact ⟨0, by omega, by go_num, lhd (World.ownsRow_nil _ _ _ _), lhd (Below.refl _ _)⟩
 case round =>
  obtain ⟨i, hi, rfl, HO, HB⟩ := hrel
  by_cases hil : i < n
  ·have i0 : (0 : Int) ≤ (i : Int) := by omega
   have i1 : (i : Int) < (n : Int) := by omega
   obtain ⟨pb, po, rfl, hpl, hpc⟩ := RowF.cells HX.out hil
   obtain ⟨a0, a1⟩ := hpc i hil
   have a0 := (HB.out.cell (p := ⟨pb, po + i * 2, none⟩) hpl).trans a0
   have a1 := (HB.out.cell (p := ⟨pb, po + i * 2 + 1, none⟩) hpl).trans a1
   have hpw : pb < wr.heap.size := Nat.lt_of_lt_of_le hpl HB.out.size
   obtain ⟨CX, hCX⟩ : ∃ z, canon (f i) = z := ⟨_, rfl⟩
   rw [hCX] at a0 a1
   have HCX := lhd hCX
   clear hpc hpl hCX
   by_cases hz : i = 0
   ·have k0 : decide ((i : Int) > 0) = false := by rw [decide_eq_false_iff_not]; omega
    have k1 : decide (0 < i) = false := by rw [decide_eq_false_iff_not]; omega
    have k2 : ¬ (i : Int) > 0 := by omega
    have HO2 : Hid (OwnZ wr w.heap.size u3 (zsF (deC f) (i + 1 - 1))) := lhd (by
     have h := HO.out
     rw [show i - 1 = i + 1 - 1 from by omega] at h
     exact h)
    clear hz HO
    go_upto_region 5 with (fail)
    clear a0 a1 hpw
    have hal := (Below.refl wr.heap.size wr).alloc (Nat.le_refl _) (.cells #[.bool CX.neg, .string CX.mag] 24)
    have HO3 := lhd (HO2.out.below (Nat.le_refl _) hal)
    have HB3 := lhd (HB.out.trans (hal.mono HB.out.size))
    clear hal HO2 HB
    generalize wr.alloc (.cells #[.bool CX.neg, .string CX.mag] 24) = V at *
    go_wp2_with fail
    go_roundw
    case rel => exact ⟨i + 1, by omega, by go_num, HO3, HB3⟩
    case measure => simp [intOf]; omega
   ·have k0 : decide ((i : Int) > 0) = true := by rw [decide_eq_true_eq]; omega
    have k1 : decide (0 < i) = true := by rw [decide_eq_true_eq]; omega
    have k2 : (i : Int) > 0 := by omega
    have hof := fun W => of_any (i : Int) (by omega) (by omega) W
    have hmu := fun W => mulc_any (f i) (i : Int) ((Hf.out i).size 100000000 (by omega)) (Bn.size (e := 10) (show (i : Int).natAbs ≤ 2 ^ 10 by omega) 100000000 (by omega)) W
    have hde : deC f (i - 1) = f i * (i : Int) := by unfold deC; rw [show i - 1 + 1 = i from by omega, show ((i - 1 : Nat) : Int) + 1 = (i : Int) from by omega]
    have Hnx : Hid (zsF (deC f) (i + 1 - 1) = zsF (deC f) (i - 1) ++ [f i * (i : Int)]) := lhd (by
     rw [show i + 1 - 1 = i - 1 + 1 from by omega, zsF_snoc, hde])
    obtain ⟨y, hy⟩ : ∃ y, f i * (i : Int) = y := ⟨_, rfl⟩
    obtain ⟨CI, hCI⟩ : ∃ z, canon (i : Int) = z := ⟨_, rfl⟩
    obtain ⟨CY, hCY⟩ : ∃ z, canon y = z := ⟨_, rfl⟩
    rw [hCI] at hof
    rw [hy, hCI, hCY, HCX.out] at hmu
    rw [hy] at Hnx
    have HOf := lhd hof
    have HMu := lhd hmu
    have HCY := lhd hCY
    have HL : Hid ((zsF (deC f) (i - 1)).length < 1000000000) := lhd (by rw [zsF_len]; omega)
    clear hof hmu hde hy hCI hCY hz
    go_upto_region 6 with (fail)
    clear a0 a1 hpw
    have hal := (Below.refl wr.heap.size wr).alloc (Nat.le_refl _) (.cells #[.bool CX.neg, .string CX.mag] 24)
    have hbx := BoxAt.new wr (.bool CX.neg) (.string CX.mag) 24
    have HO3 := lhd (HO.out.below (Nat.le_refl _) hal)
    have HB3 := lhd (HB.out.trans (hal.mono HB.out.size))
    obtain ⟨gx, hgx⟩ : ∃ k, wr.heap.size = k := ⟨_, rfl⟩
    have Hown := lhd (show ∀ k, u3.ownBlock = some k → k < gx from fun k hk => by rw [← hgx]; exact (HO.out.lt k hk).2)
    rw [hgx] at hbx ⊢
    clear hal HO HB hgx
    generalize wr.alloc (.cells #[.bool CX.neg, .string CX.mag] 24) = X at *
    obtain ⟨SS, hSe⟩ : ∃ SS : World → Prop, SS = fun W => W.cell? ⟨gx, 0, none⟩ = some (.bool CX.neg) ∧ W.cell? ⟨gx, 1, none⟩ = some (.string CX.mag) := ⟨_, rfl⟩
    have HS : Hid (∀ W, Below X.heap.size X W → SS W) := lhd (fun W hW => by
     obtain ⟨d0, d1, _, _, _⟩ := hbx
     rw [hSe]; exact ⟨cell_below hW d0, cell_below hW d1⟩)
    have hd : Below X.heap.size X X.drew := (Below.refl _ _).drew
    have hgxl : gx < X.heap.size := hbx.2.2.2.2
    clear hbx
    refine wp_region_held_drew (S := SS) (by kernel_rfl) (HS.out _ hd) (fun hSS => ?_)
    refine wpAnyH_take (i := 0) (v := ?_) rfl (by kernel_rfl) (by kernel_rfl) (by kernel_rfl) (fun _ _ _ h => h) (Or.inl ⟨by rfl, ?_⟩) (HS.out _ hd) ?_
    rotate_left 1
    next => intro w hSw; rw [hSe] at hSw; obtain ⟨s1, s2⟩ := hSw; go_simp; try with_reducible rfl
    try simp only [Act.put, ny1, ny2, ny3, ny4, ny5, ny6]
    refine wpAnyH_take (i := 1) (v := ?_) rfl (by kernel_rfl) (by kernel_rfl) (by kernel_rfl) (fun _ _ _ h => h) (Or.inl ⟨by rfl, ?_⟩) (HS.out _ hd) ?_
    rotate_left 1
    next => intro w hSw; rw [hSe] at hSw; obtain ⟨s1, s2⟩ := hSw; go_simp; try with_reducible rfl
    try simp only [Act.put, ny1, ny2, ny3, ny4, ny5, ny6]
    refine wpAnyH_take (i := 2) (v := ?_) rfl (by kernel_rfl) (by kernel_rfl) (by kernel_rfl) (fun _ _ _ h => h) (Or.inl ⟨by rfl, ?_⟩) (HS.out _ hd) ?_
    rotate_left 1
    next => intro w hSw; rw [hSe] at hSw; obtain ⟨s1, s2⟩ := hSw; go_simp; try with_reducible rfl
    try simp only [Act.put, ny1, ny2, ny3, ny4, ny5, ny6]
    refine wpAnyH_ready (rs := [3]) (by kernel_rfl) (by simp) ?_
    refine AllReadyH.cons rfl (fun K hK => ?_) AllReadyH.nil
    go_simp
    refine (HOf.out _).mono ?_
    rintro e w1 ⟨rfl, hbc⟩
    have hb1 : Below X.heap.size X w1 := hd.trans (hbc.mono hd.size)
    dsimp only
    refine hK.out _ _ (HS.out _ hb1) (fun _ => ?_)
    clear hK K hbc
    try simp only [Act.put, ny1, ny2, ny3, ny4, ny5, ny6]
    refine wpAnyH_ready (rs := [4]) (by kernel_rfl) (by simp) ?_
    refine AllReadyH.cons rfl (fun K hK => ?_) AllReadyH.nil
    go_simp
    refine (HMu.out _).mono ?_
    rintro e w2 ⟨rfl, hbc⟩
    have hb2 : Below X.heap.size X w2 := hb1.trans (hbc.mono hb1.size)
    dsimp only
    refine hK.out _ _ (HS.out _ hb2) (fun _ => ?_)
    clear hK K hbc
    try simp only [Act.put, ny1, ny2, ny3, ny4, ny5, ny6]
    refine wpAnyH_ready (rs := [5]) (by kernel_rfl) (by simp) ?_
    refine AllReadyH.cons rfl (fun K hK => ?_) AllReadyH.nil
    go_simp
    have hal := (Below.refl w2.heap.size w2).alloc (Nat.le_refl _) (.cells #[.bool CY.neg, .string CY.mag] 24)
    have hb3 := hb2.alloc hb2.size (.cells #[.bool CY.neg, .string CY.mag] 24)
    have hbx := BoxAt.new w2 (.bool CY.neg) (.string CY.mag) 24
    obtain ⟨gz, hgz⟩ : ∃ k, w2.heap.size = k := ⟨_, rfl⟩
    rw [hgz] at hbx ⊢
    clear hal hgz
    generalize w2.alloc (.cells #[.bool CY.neg, .string CY.mag] 24) = w3 at *
    refine hK.out _ _ (HS.out _ hb3) (fun _ => ?_)
    clear hK K
    try simp only [Act.put, ny1, ny2, ny3, ny4, ny5, ny6]
    refine wpAnyH_ready (rs := [6]) (by kernel_rfl) (by simp) ?_
    refine AllReadyH.cons rfl (fun K hK => ?_) AllReadyH.nil
    have hO := HO3.out.below (Nat.le_refl _) hb3
    refine step_append_z1 rfl _ _ rfl w.heap.size _ _ rfl hO gz 1 y rfl (by rw [HCY.out]; exact hbx.1) (by rw [HCY.out]; exact hbx.2.1) HL.out (Nat.le_trans HB3.out.size hb3.size) ?_
    intro v9 w4 hown9 hgr9
    have hb9 : Below w.heap.size w w4 := below_append (HB3.out.trans (hb3.mono HB3.out.size)) hO hgr9 (Nat.le_trans HB3.out.size hb3.size) (Nat.le_refl _)
    rw [← Hnx.out] at hown9
    have HZ9 := lhd hown9
    have HY9 := lhd hb9
    have hSw : SS w4 := by
     have hss := HS.out _ hb3
     rw [hSe] at hss ⊢
     have hgl : gx < w3.heap.size := by
      have h1 := hb3.size
      have h2 := hgxl
      omega
     have hblk : w4.heap[gx]? = w3.heap[gx]? := hgr9.block gx hgl (fun h => by have := Hown.out gx h.symm; omega)
     exact ⟨(World.cell?_of_block (a := ⟨gx, 0, none⟩) hblk).trans hss.1, (World.cell?_of_block (a := ⟨gx, 1, none⟩) hblk).trans hss.2⟩
    have HS := lhd (fun W (h : SS W) => h)
    refine hK.out _ _ hSw (fun _ => ?_)
    clear hK K hown9 hgr9 hb9 hO
    refine wpAnyH_take (i := 7) (v := ?_) rfl (by kernel_rfl) (by kernel_rfl) (by kernel_rfl) (fun _ _ _ h => h) (Or.inl ⟨by rfl, ?_⟩) (HS.out _ hSw) ?_
    rotate_left 1
    next => intro w hSw; rw [hSe] at hSw; obtain ⟨s1, s2⟩ := hSw; go_simp; try with_reducible rfl
    try simp only [Act.put, ny1, ny2, ny3, ny4, ny5, ny6]
    refine wpAnyH_done (by kernel_rfl) ?_ _
    go_wp2_with fail
    go_roundw
    case rel => exact ⟨i + 1, by omega, by go_num, HZ9, HY9⟩
    case measure => simp [intOf]; omega
  ·have i1 : ¬ (i : Int) < (n : Int) := by omega
   have hie : i = n := by omega
   have hz9 := HO.out
   rw [hie] at hz9
   obtain ⟨q, cap, rfl, _, hrow, _⟩ := hz9.rowF
   have Hrow := lhd hrow
   clear hz9 hrow hie HO
   go_wp2_with fail
   go_ret
   exact ⟨q, cap, rfl, Hrow.out, HB.out⟩
end Go.Proofs.YtmbamcpndbimaaaGreatDoor
