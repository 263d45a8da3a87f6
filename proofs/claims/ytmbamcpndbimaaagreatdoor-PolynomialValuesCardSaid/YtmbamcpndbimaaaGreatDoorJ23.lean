/- polynomial.gcd at any size: the rests stay small. -/
import Derived.Test.YtmbamcpndbimaaaGreatDoorJ22
import Derived.Test.YtmbamcpndbimaaaGreatDoorJ16
import Derived.Test.YtmbamcpndbimaaaGreatDoorJ17
import Derived.Test.YtmbamcpndbimaaaGreatDoorJ2
namespace Go.Proofs.YtmbamcpndbimaaaGreatDoor
open Go.RowKit Go.Shelf
def GAll (E : Nat) : Nat → Nat → (Nat → Int) → Nat → (Nat → Int) → Prop
 | 0, _, _, _, _ => True
 | k + 1, n, f, m, g => if m = 0 then True else if n < m then GAll E k m g n f else (∀ i, Bn (prC (dvR f g n m) (dvLR f g n m) i) E) ∧ GAll E k m g (dvLR f g n m) (prC (dvR f g n m) (dvLR f g n m))
theorem gall_div {e n m : Nat} (hK : e + 1001 * (e + 1) ≤ 100000000) (hn : n ≤ 1000) : e + (n - m + 1) * (e + 1) ≤ 100000000 := by
 have : (n - m + 1) * (e + 1) ≤ 1001 * (e + 1) := Nat.mul_le_mul_right _ (by omega)
 omega
theorem dvS_far {f g : Nat → Int} {n m : Nat} (hnm : m ≤ n) (hf : ∀ i, n ≤ i → f i = 0) : ∀ j i, n ≤ i → (dvS f g n m j).2 i = 0
 | 0, i, hi => hf i hi
 | j + 1, i, hi => by
  show (dvS f g n m j).2 i * g (m - 1) - (if n - m - j ≤ i ∧ i < n - m - j + m then _ else 0) = 0
  rw [dvS_far hnm hf j i hi, if_neg (by omega), Int.zero_mul]; rfl
theorem dvR_far {f g : Nat → Int} {n m : Nat} (hnm : ¬ n < m) (hf : ∀ i, n ≤ i → f i = 0) (i : Nat) (hi : dvLR f g n m ≤ i) : dvR f g n m i = 0 := by
 unfold dvLR at hi
 unfold dvR
 rw [if_neg hnm] at hi ⊢
 by_cases h : i < n
 ·exact dgN_over _ n i hi h
 ·exact dvS_far (by omega) hf _ i (by omega)
theorem prC_zero {f : Nat → Int} {n i : Nat} (h : f i = 0) : prC f n i = 0 := by
 unfold prC
 rw [h, Int.zero_ediv]
theorem gall_of {F0 G0 : Nat → Int} {n0 m0 e : Nat} (hF : ∀ j, j < n0 → Bn (F0 j) e) (hG : ∀ j, j < m0 → Bn (G0 j) e) (hn0 : n0 ≤ 100) (hm0 : m0 ≤ 100) :
  ∀ (k n m : Nat) (f g : Nat → Int), m ≤ k → m ≤ n → m ≤ n0 → m ≤ m0 → (∀ i, n ≤ i → f i = 0) → (∀ i, m ≤ i → g i = 0) → (0 < m → g (m - 1) ≠ 0) →
   Cmb (fun x => ypol F0 n0 x) (fun x => ypol G0 m0 x) m0 (fun x => ypol f n x) (fun x => ypol g m x) m → GAll ((e + 9) * 200) k n f m g
 | 0, _, _, _, _, _, _, _, _, _, _, _, _ => trivial
 | k + 1, n, m, f, g, hk, hmn, h1, h2, hf, hg, hcg, hC => by
  rw [GAll]
  by_cases h0 : m = 0
  ·rw [if_pos h0]; trivial
  rw [if_neg h0, if_neg (by omega)]
  have hnm : ¬ n < m := by omega
  have hlt := dvLR_lt (f := f) (g := g) (show 0 < m by omega) hnm
  have hrt := dvR_top (f := f) (g := g) hnm
  have hrf := dvR_far (f := f) (g := g) hnm hf
  obtain ⟨l, hl, he⟩ := ypol_prC hrt
  have hev := fun x => dv_ev (f := f) (g := g) (n := n) (m := m) (by omega) x
  have hc : g (m - 1) ≠ 0 := hcg (by omega)
  have hpt := prC_top hrt
  have hpr := fun h => prC_prim (f := dvR f g n m) (n := dvLR f g n m) h (hrt h)
  have hpf : ∀ i, dvLR f g n m ≤ i → prC (dvR f g n m) (dvLR f g n m) i = 0 := fun i hi => prC_zero (hrf i hi)
  generalize dvLR f g n m = L at *
  generalize dvR f g n m = r at *
  have hQ : IsP m g (fun x => ypol g m x) := ⟨fun h => hcg h, hg, fun _ => rfl⟩
  have hR : IsP L (prC r L) (fun x => ypol (prC r L) L x) := ⟨hpt, hpf, fun _ => rfl⟩
  have heq : ∀ x, g (m - 1) ^ (n + 1 - m) * ypol f n x = ypol (dvQ f g n m) (dvLQ f g n m) x * ypol g m x + l * ypol (prC r L) L x := fun x => by rw [← he x]; exact hev x
  have hcp : g (m - 1) ^ (n + 1 - m) ≠ 0 := Int.pow_ne_zero hc
  refine ⟨fun i => ?_, gall_of hF hG hn0 hm0 k m L g _ (by omega) (by omega) (by omega) (by omega) hg hpf hpt (hC.step hQ hR hlt (PF.of _ _) hcp hl heq)⟩
  by_cases hi : i < L
  ·have h3 := rest_small (A := 2 ^ e) (Nat.pow_pos (by decide)) hF hG hC hQ hR (hpr (by omega)) hlt h1 h2 (PF.of _ _) hcp hl heq i
   exact Nat.le_trans h3 (syB_bn hn0 hm0 (by omega))
  ·rw [hpf i (by omega)]; exact Bn.zero _
theorem gall_start {f g : Nat → Int} {n m e : Nat} (hn : n ≤ 100) (hm : m ≤ 100) (hf : ∀ i, Bn (f i) e) (hg : ∀ i, Bn (g i) e) (hf0 : ∀ i, n ≤ i → f i = 0) (hg0 : ∀ i, m ≤ i → g i = 0) (hcf : 0 < n → f (n - 1) ≠ 0) (hcg : 0 < m → g (m - 1) ≠ 0) : GAll ((e + 9) * 200) m n (prC f n) m (prC g m) := by
 have hpf : ∀ i, n ≤ i → prC f n i = 0 := fun i hi => prC_zero (hf0 i hi)
 have hpg : ∀ i, m ≤ i → prC g m i = 0 := fun i hi => prC_zero (hg0 i hi)
 by_cases hnm : n < m
 ·obtain ⟨k, rfl⟩ : ∃ k, m = k + 1 := ⟨m - 1, by omega⟩
  rw [GAll, if_neg (by omega), if_pos hnm]
  exact gall_of (F0 := prC g (k + 1)) (G0 := prC f n) (n0 := k + 1) (m0 := n) (fun j _ => prC_bn hg _ j) (fun j _ => prC_bn hf _ j) hm hn k (k + 1) n _ _ (by omega) (by omega) (by omega) (Nat.le_refl _) hpg hpf (prC_top hcf) (Cmb.start _ _ _)
 ·exact gall_of (F0 := prC f n) (G0 := prC g m) (n0 := n) (m0 := m) (fun j _ => prC_bn hf _ j) (fun j _ => prC_bn hg _ j) hn hm m n m _ _ (Nat.le_refl _) (by omega) (by omega) (Nat.le_refl _) hpf hpg (prC_top hcg) (Cmb.start _ _ _)
set_option maxRecDepth 100000 in
set_option maxHeartbeats 8000000 in
theorem pgcdE_any (n m : Nat) (f g : Nat → Int) (p q : Option Addr) (c d : Nat) {e : Nat} (hn : n ≤ 1000) (hm : m ≤ 1000) (hK : e + 1001 * (e + 1) ≤ 100000000) (hB : GAll e m n (prC f n) m (prC g m)) (hf : ∀ k, Bn (f k) e) (hg : ∀ k, Bn (g k) e) (hcf : 0 < n → f (n - 1) ≠ 0) (hcg : 0 < m → g (m - 1) ≠ 0) (w : World) (hX : RowF w p n f) (hY : RowF w q m g) :
  Calls Tryz.prog 29 #[.slice p n c, .slice q m d] w (RetPol (gcS m n (prC f n) m (prC g m)).1 (gcS m n (prC f n) m (prC g m)).2 w) := by
 have hP1 := prim_any n f p c hn (by omega) hf hcf w hX
 have hP2 := fun W (hW : Below w.heap.size w W) => prim_any m g q d hm (by omega) hg hcg W (RowF.below hY (Nat.le_refl _) hW)
 have hf1 := fun k => prC_bn hf n k
 have hg1 := fun k => prC_bn hg m k
 have hcf1 := prC_top hcf
 have hcg1 := prC_top hcg
 obtain ⟨f1, hfe⟩ : ∃ x, prC f n = x := ⟨_, rfl⟩
 obtain ⟨g1, hge⟩ : ∃ x, prC g m = x := ⟨_, rfl⟩
 rw [hfe] at hP1 hf1 hcf1 ⊢
 rw [hge] at hP2 hg1 hcg1 ⊢
 rw [hfe, hge] at hB
 obtain ⟨N, hN⟩ : ∃ x, (gcS m n f1 m g1).1 = x := ⟨_, rfl⟩
 obtain ⟨F, hF⟩ : ∃ x, (gcS m n f1 m g1).2 = x := ⟨_, rfl⟩
 have HR := lhd (show gcS m n f1 m g1 = (N, F) from by rw [← hN, ← hF])
 rw [hN, hF]
 have H1 := lhd hP1
 have H2 := lhd hP2
 have Hf1 := lhd hf1
 have Hg1 := lhd hg1
 have Hcf := lhd hcf1
 have Hcg := lhd hcg1
 have HBb := lhd hB
 clear hP1 hP2 hf hg hcf hcg hX hY hfe hge hN hF hf1 hg1 hcf1 hcg1 hB
 go_enter Tryz.func29, Tryz.ntmps29
 go_wp2_with fail
 refine H1.out.mono ?_
 rintro e1 w1 ⟨q1, c1, rfl, hr1, hb1⟩
 dsimp only
 have H3 := lhd (H2.out w1 hb1)
 have Hr1 := lhd hr1
 have Hb1 := lhd hb1
 clear hr1 hb1 H1 H2
 go_wp2_with fail
 refine H3.out.mono ?_
 rintro e2 w2 ⟨q2, c2, rfl, hr2, hb2⟩
 dsimp only
 have Ha := lhd (RowF.below Hr1.out (Nat.le_refl _) hb2)
 have Hb := lhd hr2
 have HW := lhd (Hb1.out.trans (hb2.mono Hb1.out.size))
 clear hr2 hb2 H3 Hr1 Hb1
 go_wp2_with fail
 go_loopw [0, 1] (fun av bv wr => ∃ (k n m : Nat) (f g : Nat → Int) (p q : Option Addr) (c d : Nat), m ≤ k ∧ n ≤ 1000 ∧ m ≤ 1000 ∧ av = .slice p n c ∧ bv = .slice q m d ∧ Hid (RowF wr p n f) ∧ Hid (RowF wr q m g) ∧ Hid (GAll e k n f m g) ∧ Hid (∀ k, Bn (f k) e) ∧ Hid (∀ k, Bn (g k) e) ∧ Hid (0 < n → f (n - 1) ≠ 0) ∧ Hid (0 < m → g (m - 1) ≠ 0) ∧ Hid (gcS k n f m g = (N, F)) ∧ Hid (Below w.heap.size w wr)) (fun _ bv _ => (match bv with | .slice _ m _ => m | _ => 0))
 case atStart => exact ⟨m, n, m, f1, g1, q1, q2, c1, c2, Nat.le_refl _, hn, hm, rfl, rfl, Ha, Hb, HBb, Hf1, Hg1, Hcf, Hcg, HR, HW⟩
 case round =>
  clear Ha Hb HBb Hf1 Hg1 Hcf Hcg HR HW hn hm
  obtain ⟨k, n, m, f, g, p, q, c, d, hk, hn, hm, rfl, rfl, Ha, Hb, HBb, Hf, Hg, Hcf, Hcg, HR, HW⟩ := hrel
  by_cases hm0 : 0 < m
  ·obtain ⟨k, rfl⟩ : ∃ j, k = j + 1 := ⟨k - 1, by omega⟩
   have m0 : (m : Int) > 0 := by omega
   by_cases hnm : n < m
   ·have n0 : (n : Int) < (m : Int) := by omega
    have HR2 : Hid (gcS k m g n f = (N, F)) := lhd (by
     have h := HR.out
     rw [gcS, if_neg (by omega), if_pos hnm] at h
     exact h)
    have HB2 : Hid (GAll e k m g n f) := lhd (by
     have h := HBb.out
     rw [GAll, if_neg (by omega), if_pos hnm] at h
     exact h)
    clear HR HBb
    go_wp2_with fail
    go_roundw
    case rel => exact ⟨k, m, n, g, f, q, p, d, c, by omega, hm, hn, rfl, rfl, Hb, Ha, HB2, Hg, Hf, Hcg, Hcf, HR2, HW⟩
    case measure => simp; omega
   ·have n0 : ¬ (n : Int) < (m : Int) := by omega
    have hlt := dvLR_lt (f := f) (g := g) hm0 hnm
    have hHR := HR.out
    rw [gcS, if_neg (by omega), if_neg hnm] at hHR
    have hdv := pdiv_any n m f g p q c d hn hm hm0 (gall_div hK hn) Hf.out Hg.out wr Ha.out Hb.out
    have hrb := fun k => dvR_bn (n := n) (m := m) Hf.out Hg.out k
    have hrt := dvR_top (f := f) (g := g) hnm
    have hBb := HBb.out
    rw [GAll, if_neg (by omega), if_neg hnm] at hBb
    obtain ⟨hPB, hB2⟩ := hBb
    obtain ⟨l, hl⟩ : ∃ l, dvLR f g n m = l := ⟨_, rfl⟩
    obtain ⟨r, hr⟩ : ∃ l, dvR f g n m = l := ⟨_, rfl⟩
    obtain ⟨lq, hlq⟩ : ∃ l, dvLQ f g n m = l := ⟨_, rfl⟩
    obtain ⟨rq, hrq⟩ : ∃ l, dvQ f g n m = l := ⟨_, rfl⟩
    obtain ⟨e2, he2⟩ : ∃ x, e + (n - m + 1) * (e + 1) = x := ⟨_, rfl⟩
    have hge : ∀ k, Bn (g k) e := Hg.out
    have he3 : e2 ≤ 100000000 := by rw [← he2]; exact gall_div hK hn
    rw [hl, hr, hlq, hrq] at hdv
    rw [hl] at hlt
    rw [hl, hr] at hPB hB2
    rw [he2] at hrb
    rw [hr] at hrb
    rw [hl, hr] at hrt hHR
    have hpr := fun q d W (hW : RowF W q l r) => prim_any l r q d (by omega) (show e2 ≤ 100000000 by omega) hrb hrt W hW
    have HDv := lhd hdv
    have HPr := lhd hpr
    have HR2 := lhd hHR
    have HB2 := lhd hB2
    have Hge := lhd hge
    have Hpb := lhd hPB
    have Hpt := lhd (prC_top hrt)
    clear hHR hdv hrb hrt hPB hB2 hl hr hlq hrq he2 hge hpr HR HBb Hf Hcf
    unfold RetDv at HDv
    unfold RetPol at HPr
    go_wp2_with fail
    refine HDv.out.mono ?_
    rintro e3 w3 ⟨q3, c3, p3, d3, rfl, _, hr3, hb3⟩
    dsimp only
    have HP3 := lhd (HPr.out p3 d3 w3 hr3)
    have Hb3 := lhd (RowF.below Hb.out (Nat.le_refl _) hb3)
    have HW3 := lhd (HW.out.trans (hb3.mono HW.out.size))
    clear hr3 hb3 HDv HPr Ha Hb HW
    go_wp2_with fail
    refine HP3.out.mono ?_
    rintro e4 w4 ⟨p4, c4, rfl, hr4, hb4⟩
    dsimp only
    have Hr4 := lhd hr4
    have Hb4 := lhd (RowF.below Hb3.out (Nat.le_refl _) hb4)
    have HW4 := lhd (HW3.out.trans (hb4.mono HW3.out.size))
    clear hr4 hb4 HP3 Hb3 HW3
    go_wp2_with fail
    go_roundw
    case rel => exact ⟨k, m, l, g, prC r l, q, p4, d, c4, by omega, hm, by omega, rfl, rfl, Hb4, Hr4, HB2, Hge, Hpb, Hcg, Hpt, HR2, HW4⟩
    case measure => simp; omega
  ·obtain rfl : 0 = m := by omega
   have hHR := HR.out
   rw [gcS_end] at hHR
   cases hHR
   go_wp2_with fail
   go_ret
   exact ⟨p, c, rfl, Ha.out, HW.out⟩
open Go.RowKit Go.Shelf
theorem bn_24 {z : ZI} (h : z.mag.size ≤ 3) : Bn (valZ z) 24 := by
 have h1 := absZ_lt z
 have h2 : 256 ^ z.mag.size ≤ 256 ^ 3 := Nat.pow_le_pow_right (by decide) h
 unfold Bn valZ
 split <;> omega
open Go.RowKit
theorem beb_bval : ∀ (n : Nat) (l : List UInt8), l.length = n → beb (bval l) = l.dropWhile (· == 0)
 | 0, l, h => by
  have : l = [] := List.length_eq_zero_iff.1 h
  subst this; rfl
 | n + 1, l, h => by
  obtain ⟨r, c, rfl⟩ : ∃ r c, l = r ++ [c] := ⟨l.dropLast, l.getLast (fun h0 => by rw [h0] at h; simp at h), (List.dropLast_concat_getLast _).symm⟩
  have ih := beb_bval n r (by simpa using h)
  rw [bval_snoc, List.dropWhile_append, ← ih]
  have hc : UInt8.ofNat c.toNat = c := by simp
  by_cases h0 : bval r = 0
  ·rw [h0, beb_zero]
   by_cases hz : c = 0
   ·subst hz; rfl
   ·have hz' : c.toNat ≠ 0 := fun h => hz (by rw [← hc, h]; rfl)
    have := beb_snoc (m := 0) (c := c.toNat) (UInt8.toNat_lt _) (.inr hz')
    rw [this, beb_zero, hc]
    have hb : (c == 0) = false := by rw [beq_eq_false_iff_ne]; exact hz
    simp [List.dropWhile, hb]
  ·rw [beb_snoc (UInt8.toNat_lt _) (.inl h0), hc]
   have : (beb (bval r)).isEmpty = false := by
    rw [List.isEmpty_eq_false_iff]
    intro h; exact h0 (beb_len_zero.1 (by rw [h]; rfl))
   rw [this]; simp
theorem str_cons (t : ByteArray) (h : 0 < t.size) : t.data.toList = t[0] :: (t.extract 1 t.size).data.toList := by
 rcases t with ⟨⟨l⟩⟩
 cases l with
 | nil => exact absurd h (by decide)
 | cons c r =>
  rw [ByteArray.data_extract]
  show c :: r = c :: _
  congr 1
  simp [ByteArray.size]
theorem bval_cons_zero {c : UInt8} {r : List UInt8} (h : c.toNat = 0) : bval (c :: r) = bval r := by
 unfold bval
 rw [List.foldl_cons, h]
theorem beb_head {c : UInt8} {r : List UInt8} (h : c.toNat ≠ 0) : beb (bval (c :: r)) = c :: r := by
 rw [beb_bval _ _ rfl]
 have : (c == 0) = false := by
  rw [beq_eq_false_iff_ne]; intro h2; exact h (by rw [h2]; rfl)
 simp [List.dropWhile, this]
set_option maxRecDepth 100000 in
set_option maxHeartbeats 4000000 in
theorem refTrim_any (s : ByteArray) (hs : s.size ≤ 100000000) (w : World) :
  Calls Tryz.prog 92 #[.string s] w fun e w' => e = .returned (.string ⟨(beb (bval s.data.toList)).toArray⟩) ∧ w = w' := by
 go_enter Tryz.func92, Tryz.ntmps92
 go_wp2
 go_loopw [0] (fun v wr => ∃ t : ByteArray, v = .string t ∧ t.size ≤ 100000000 ∧ wr = w ∧ Hid (bval t.data.toList = bval s.data.toList)) (fun v _ => match v with | .string t => t.size | _ => 0)
 case atStart => exact ⟨s, rfl, hs, rfl, lhd rfl⟩
 case round =>
  obtain ⟨t, rfl, ht, rfl, hv⟩ := hrel
  by_cases hlt : 0 < t.size
  ·obtain ⟨c, hcc⟩ : ∃ c, (t[0]'hlt).toNat = c := ⟨_, rfl⟩
   have i0 : (0 : Int) < (t.size : Int) := by omega
   by_cases hc : c = 0
   ·have hcb : ((c : Int) == 0) = true := by rw [beq_iff_eq]; omega
    go_wp2
    have he : bval (t.extract 1 t.size).data.toList = bval s.data.toList := by
     rw [← hv.out, str_cons t hlt, bval_cons_zero (by omega)]
    have hsz : (t.extract 1 t.size).size = t.size - 1 := by simp
    go_roundw
    case rel => exact ⟨_, rfl, by omega, trivial, lhd he⟩
    case measure => show (t.extract 1 t.size).size < t.size; omega
   ·have hcb : ((c : Int) == 0) = false := by rw [beq_eq_false_iff_ne]; omega
    have he : (⟨(beb (bval s.data.toList)).toArray⟩ : ByteArray) = t := by
     rw [← hv.out, str_cons t hlt, beb_head (by omega), ← str_cons t hlt]
    have He := lhd he
    clear he
    go_wp2
    go_ret
    exact ⟨by rw [He.out]; rfl, rfl⟩
  ·have i0 : ¬ (0 : Int) < (t.size : Int) := by omega
   have he : (⟨(beb (bval s.data.toList)).toArray⟩ : ByteArray) = t := by
    rcases t with ⟨⟨l⟩⟩
    have : l = [] := List.length_eq_zero_iff.1 (by simp [ByteArray.size] at hlt; simp [hlt])
    subst this
    rw [← hv.out]; rfl
   have He := lhd he
   clear he
   go_wp2
   go_ret
   exact ⟨by rw [He.out]; rfl, rfl⟩
theorem canon_of_head {z : ZI} (h : 0 < z.mag.size) (h0 : (z.mag[0]).toNat ≠ 0) : z = canon (valZ z) := by
 rw [← sameZ_val]
 have h1 : beb (absZ z) = z.mag.data.toList := by
  unfold absZ
  rw [str_cons z.mag h, beb_head h0]
 have h2 : absZ z ≠ 0 := fun h3 => by
  rw [h3, beb_zero] at h1
  have := congrArg List.length h1
  simp at this
  have h4 : z.mag.size = z.mag.data.size := rfl
  omega
 unfold mkZ
 rw [if_neg h2, h1]
open Go.RowKit
theorem canon_parts (z : ZI) : (canon (valZ z)).neg = (z.neg && !(beb (bval z.mag.data.toList)).isEmpty) ∧ (canon (valZ z)).mag = ⟨(beb (bval z.mag.data.toList)).toArray⟩ := by
 rw [← sameZ_val]
 have h : absZ z = bval z.mag.data.toList := rfl
 rw [← h]
 unfold mkZ
 by_cases h0 : absZ z = 0
 ·rw [if_pos h0, h0, beb_zero]; simp
 ·rw [if_neg h0]
  have : (beb (absZ z)).isEmpty = false := by
   rw [List.isEmpty_eq_false_iff]
   intro h; exact h0 (beb_len_zero.1 (by rw [h]; rfl))
  rw [this]; simp
set_option maxRecDepth 100000 in
set_option maxHeartbeats 4000000 in
theorem refCanonical_any (z : ZI) (hz : z.mag.size ≤ 100000000) (w : World) :
  Calls Tryz.prog 81 #[.agg #[.bool z.neg, .string z.mag]] w (RetZ (canon (valZ z)) w) := by
 obtain ⟨hp1, hp2⟩ := canon_parts z
 obtain ⟨Z, hZ⟩ : ∃ Z, canon (valZ z) = Z := ⟨_, rfl⟩
 rw [hZ] at hp1 hp2
 rw [hZ]
 have Hp1 := lhd hp1
 have Hp2 := lhd hp2
 clear hp1 hp2
 by_cases hlt : 0 < z.mag.size
 ·obtain ⟨c, hcc⟩ : ∃ c, (z.mag[0]'hlt).toNat = c := ⟨_, rfl⟩
  have i0 : (0 : Int) < (z.mag.size : Int) := by omega
  by_cases hc : c = 0
  ·have hcb : ((c : Int) != 0) = false := by rw [bne_eq_false_iff_eq]; omega
   clear hZ
   cases hn : z.neg
   all_goals
    rw [hn] at Hp1
    go_enter Tryz.func81, Tryz.ntmps81
    go_wp2_with (go_at_call 92; go_fit (refTrim_any z.mag hz _); rintro e w2 ⟨rfl, rfl⟩)
    refine bodyPost_ret (v := .agg #[.bool Z.neg, .string Z.mag]) ?_ rfl ⟨rfl, ((Below.refl _ _).alloc (Nat.le_refl _) _).alloc (by simp) _⟩
    rw [Hp1.out, Hp2.out]
    simp [results, Tryz.results81, go_sem]
  ·have hcb : ((c : Int) != 0) = true := by rw [bne_iff_ne]; omega
   have HZ := lhd (show z = Z from by rw [← hZ]; exact canon_of_head hlt (by omega))
   clear hZ
   go_enter Tryz.func81, Tryz.ntmps81
   go_wp2
   refine bodyPost_ret (v := .agg #[.bool Z.neg, .string Z.mag]) ?_ rfl ⟨rfl, ((Below.refl _ _).alloc (Nat.le_refl _) _).alloc (by simp) _⟩
   rw [← HZ.out]
   simp [results, Tryz.results81, go_sem]
 ·have i0 : ¬ (0 : Int) < (z.mag.size : Int) := by omega
  clear hZ
  cases hn : z.neg
  all_goals
   rw [hn] at Hp1
   go_enter Tryz.func81, Tryz.ntmps81
   go_wp2_with (go_at_call 92; go_fit (refTrim_any z.mag hz _); rintro e w2 ⟨rfl, rfl⟩)
   refine bodyPost_ret (v := .agg #[.bool Z.neg, .string Z.mag]) ?_ rfl ⟨rfl, ((Below.refl _ _).alloc (Nat.le_refl _) _).alloc (by simp) _⟩
   rw [Hp1.out, Hp2.out]
   simp [results, Tryz.results81, go_sem]
open Go.RowKit
theorem canon_neg_parts (n : Int) : (canon (-n)).neg = (!(canon n).neg && !(canon n).mag.toList.isEmpty) ∧ (canon (-n)).mag = (canon n).mag := by
 rw [ByteArray.toList_eq]
 have hm : (canon (-n)).mag = (canon n).mag := by simp [canon]
 refine ⟨?_, hm⟩
 by_cases h0 : n = 0
 ·subst h0; rfl
 ·have h1 : beb n.natAbs ≠ [] := fun h => by
   have : n.natAbs = 0 := beb_len_zero.1 (by rw [h]; rfl)
   omega
  have h2 : (beb n.natAbs).isEmpty = false := by rw [List.isEmpty_eq_false_iff]; exact h1
  show decide (-n < 0) = (!decide (n < 0) && !(beb n.natAbs).isEmpty)
  rw [h2]
  by_cases h : n < 0
  ·rw [decide_eq_true h, decide_eq_false (by omega)]; rfl
  ·rw [decide_eq_false h, decide_eq_true (by omega)]; rfl
set_option maxRecDepth 100000 in
set_option maxHeartbeats 8000000 in
theorem refNeg_any (z : ZI) (hz : z.mag.size ≤ 100000000) (w : World) :
  Calls Tryz.prog 67 #[.agg #[.bool z.neg, .string z.mag]] w (RetZ (canon (-valZ z)) w) := by
 have hcan := refCanonical_any z hz
 obtain ⟨hp1, hp2⟩ := canon_neg_parts (valZ z)
 generalize canon (-valZ z) = R at *
 generalize canon (valZ z) = m at *
 have Hcan := lhd hcan
 have Hp1 := lhd hp1
 have Hp2 := lhd hp2
 clear hcan hp1 hp2
 rcases m with ⟨N, M⟩
 dsimp only at Hp1 Hp2
 have n1 : ¬ (w.heap.size = w.heap.size + 1) := by omega
 have n2 : ¬ (w.heap.size + 1 = w.heap.size) := by omega
 cases N
 all_goals
  go_enter Tryz.func67, Tryz.ntmps67
  go_wp2_with (go_at_call 81; go_fit (Hcan.out _); rintro e w3 ⟨rfl, hb⟩; have Hb3 := lhd hb; have HA := lhd ((BoxAt.new w (.bool z.neg) (.string z.mag) 24).alloc (.cells #[.bool false, .string ⟨#[]⟩] 24) |>.below hb (by simp; omega)); have hB0 := (BoxAt.new (w.alloc (.cells #[.bool z.neg, .string z.mag] 24)) (.bool false) (.string ⟨#[]⟩) 24).below hb (by simp); rw [World.size_alloc] at hB0; have HB := lhd hB0; obtain ⟨a0, a1, a2, a3, _⟩ := HA.out; obtain ⟨b0, b1, b2, b3, _⟩ := hB0; clear hb)
  refine bodyPost_ret (v := .agg #[.bool R.neg, .string R.mag]) ?_ rfl ⟨rfl, ?_⟩
  ·rw [Hp1.out, Hp2.out]
   simp [results, Tryz.results67, go_sem, b0, b1]
  ·have hbe : Below w.heap.size w w3 := (((Below.refl _ _).alloc (Nat.le_refl _) _).alloc (by simp) _).trans (Hb3.out.mono (by simp; omega))
   exact (((hbe.setCell (by simp) _).setCell (by simp) _).setCell (by simp) _).setCell (by simp) _
open Go.RowKit
theorem bval_take {l : List UInt8} {i : Nat} (h : i < l.length) : bval (l.take (i + 1)) = bval (l.take i) * 256 + l[i].toNat := by
 rw [List.take_succ_eq_append_getElem h, bval_snoc]
theorem bval_take_lt (l : List UInt8) (i : Nat) : bval (l.take i) < 256 ^ i := by
 refine Nat.lt_of_lt_of_le (bval_lt _) (Nat.pow_le_pow_right (by decide) ?_)
 rw [List.length_take]; omega
theorem pow_six {i : Nat} (h : i ≤ 6) : 256 ^ i ≤ 281474976710656 := Nat.pow_le_pow_right (n := 256) (by decide) h
theorem or_byte (n : Nat) (c : Nat) (hc : c < 256) (hn : n < 281474976710656) : bits .or .i64 ((n : Int) * 256) (c : Int) = ((n * 256 + c : Nat) : Int) := by
 have h1 : ((n : Int) * 256) = ((n * 256 : Nat) : Int) := by simp
 have h2 := Nat.two_pow_add_eq_or_of_lt (i := 8) (b := c) (by omega) n
 have h3 : n * 256 + c = n * 256 ||| c := by
  rw [Nat.mul_comm n 256]; exact h2
 rw [h1]
 show IntKind.i64.wrap ((BitVec.ofInt 64 ((n * 256 : Nat) : Int) ||| BitVec.ofInt 64 (c : Int)).toNat : Int) = _
 rw [BitVec.toNat_or, ofInt_u64 _ (by omega), ofInt_u64 c (by omega), ← h3]
 rw [IntKind.wrap_i64]
 omega
set_option maxRecDepth 100000 in
set_option maxHeartbeats 4000000 in
theorem refSmall_any (s : ByteArray) (hs : s.size ≤ 7) (w : World) :
  Calls Tryz.prog 94 #[.string s] w fun e w' => e = .returned (.int .i64 (bval s.data.toList : Nat)) ∧ w = w' := by
 go_enter Tryz.func94, Tryz.ntmps94
 go_wp2
 go_loop [3, 4] (fun v i => ∃ k n : Nat, k ≤ s.size ∧ i = .int .i64 k ∧ v = .int .i64 n ∧ Hid (n = bval (s.data.toList.take k))) (fun _ i => s.size - (intOf i).toNat)
 case atStart => exact ⟨0, 0, Nat.zero_le _, rfl, rfl, lhd rfl⟩
 case round =>
  obtain ⟨k, n, hk, rfl, rfl, hr⟩ := hrel
  by_cases hlt : k < s.size
  ·have hltI : (k : Int) < (s.size : Int) := by omega
   obtain ⟨c, hc⟩ : ∃ c, (s[k]'hlt).toNat = c := ⟨_, rfl⟩
   have hc2 : c < 256 := by rw [← hc]; exact UInt8.toNat_lt _
   have hl : k < s.data.toList.length := by simpa using hlt
   have hn : n < 281474976710656 := by
    rw [hr.out]; exact Nat.lt_of_lt_of_le (bval_take_lt _ _) (pow_six (by omega))
   have hnext : n * 256 + c = bval (s.data.toList.take (k + 1)) := by
    rw [bval_take hl, ← hr.out, ← hc]; rfl
   have Hn := lhd hnext
   clear hnext
   go_wp2
   go_round
   case rel => exact ⟨k + 1, n * 256 + c, by omega, by go_num, by rw [or_byte n c hc2 hn], Hn⟩
   case measure => simp [intOf]; omega
  ·have hke : k = s.size := by omega
   have i0 : ¬ (k : Int) < (s.size : Int) := by omega
   have he : n = bval s.data.toList := by
    rw [hr.out, List.take_of_length_le (by rw [hke]; simp)]
   have He := lhd he
   clear he
   go_wp2
   go_ret
   exact ⟨ret_int (by rw [He.out]), rfl⟩
end Go.Proofs.YtmbamcpndbimaaaGreatDoor
