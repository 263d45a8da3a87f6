/- grooveref03: Eval, At: the walks. -/
import Derived.Test.YtmbamcpndbimaaaGreatDoorJ43
import Derived.Test.YtmbamcpndbimaaaGreatDoorJ44
import Derived.Test.YtmbamcpndbimaaaGreatDoorJ36
import Derived.Test.YtmbamcpndbimaaaGreatDoorRows
import Derived.Test.YtmbamcpndbimaaaGreatDoorJ0
import Derived.ProofKit
import Derived.OpenShut
import Derived.SizedLaws
import Derived.Deep.Slices
import Derived.Deep.Fields
import Derived.Carry
import Derived.Test.YtmbamcpndbimaaaGreatDoorTie
import Derived.Test.YtmbamcpndbimaaaGreatDoorCards
import Derived.LaidMore
import Derived.Stop.Joined
import Derived.Test.YtmbamcpndbimaaaGreatDoorJ5
import Derived.Deep.SlicePairs
import Derived.ChangeSame
namespace Go.Proofs.YtmbamcpndbimaaaGreatDoor
open List renaming getElem_toArray → ny1, getElem_cons_zero → ny2, getElem_cons_succ → ny3, setIfInBounds_toArray → ny4, set_cons_zero → ny5, set_cons_succ → ny6
open Go.RowKit Go.Shelf
theorem hsN_nil {f : Nat → Int} {n m : Nat} {u v : Int} (hf : ∀ k, m ≤ k → f k = 0) : ∀ t, t + m ≤ n → hsN f n u v t = 0
 | 0, _ => rfl
 | t + 1, h => by
  rw [hsN, hsN_nil hf t (by omega), hf _ (by omega), Int.zero_mul, Int.mul_zero]; rfl
theorem hsN_pad {f : Nat → Int} {n m : Nat} {u v : Int} (hmn : m ≤ n) (hf : ∀ k, m ≤ k → f k = 0) : ∀ s, s ≤ m → hsN f n u v (n - m + s) = v ^ (n - m) * hsN f m u v s
 | 0, _ => by
  rw [Nat.add_zero, hsN_nil hf (n - m) (by omega)]
  show 0 = v ^ (n - m) * 0
  rw [Int.mul_zero]
 | s + 1, h => by
  rw [show n - m + (s + 1) = n - m + s + 1 from rfl, hsN, hsN, hsN_pad hmn hf s (by omega), show n - 1 - (n - m + s) = m - 1 - s by omega, show n - m + s + 1 = n - m + (s + 1) from rfl, Int.pow_add]
  grind
def RetEv (f : Nat → Int) (n : Nat) (u v : Int) (B : Nat) (w : World) (e : Ending) (w' : World) : Prop := ∃ (zP zQ : ZI) (P Q : Int), e = .returned (.agg #[.bool zP.neg, .string zP.mag, .bool zQ.neg, .string zQ.mag]) ∧ (zP.mag.size ≤ 90000000 ∧ zQ.mag.size ≤ 90000000 ∧ Bn (valZ zP) B ∧ Bn (valZ zQ) B) ∧ (rloN (valZ zP) (valZ zQ) = P ∧ rloD (valZ zP) (valZ zQ) = Q) ∧ Qc P Q ∧ P * v ^ n = Q * hsN f n u v n ∧ Below w.heap.size w w'
def EvS (f : Nat → Int) (n : Nat) (u v : Int) (B t : Nat) (zP zQ : ZI) (P Q : Int) : Prop := (zP.mag.size ≤ 90000000 ∧ zQ.mag.size ≤ 90000000 ∧ Bn (valZ zP) B ∧ Bn (valZ zQ) B) ∧ (rloN (valZ zP) (valZ zQ) = P ∧ rloD (valZ zP) (valZ zQ) = Q) ∧ Qc P Q ∧ P * v ^ t = Q * hsN f n u v t
theorem qc_bn {f : Nat → Int} {n B e t : Nat} {u v P Q : Int} (hf : ∀ k, Bn (f k) B) (hu : Bn u e) (hv : Bn v e) (hv0 : 0 < v) (ht : t ≤ 70) (hq : Qc P Q) (hpq : P * v ^ t = Q * hsN f n u v t) : Bn P (B + (e + 1) * 70) ∧ Bn Q (B + (e + 1) * 70) := by
 obtain ⟨b1, b2⟩ := hq.bounds (Int.pow_pos hv0) hpq
 have h1 : (e + 1) * t ≤ (e + 1) * 70 := Nat.mul_le_mul_left _ (by omega)
 have h2 : Bn (v ^ t) (e * t) := by
  have key : ∀ n : Nat, Bn (v ^ n) (e * n) := fun n => by
   induction n with
   | zero => rw [Int.pow_zero]; exact Bn.one _
   | succ n ih => rw [Int.pow_succ, Nat.mul_add, Nat.mul_one]; exact ih.mul hv
  exact key t
 have h3 : e * t ≤ (e + 1) * t := Nat.mul_le_mul_right _ (by omega)
 exact ⟨Nat.le_trans b1 ((hsN_bn (N := n) hf hu hv t).up (by omega)), Nat.le_trans b2 (h2.up (by omega))⟩
set_option maxRecDepth 100000 in
set_option maxHeartbeats 8000000 in
theorem refEval_any (n : Nat) (Z : Nat → ZI) (p : Option Addr) (c : Nat) (ra rb : ZI) {B e : Nat} (hn : n ≤ 70) (hz : ∀ k, k < n → (Z k).mag.size ≤ 90000000) (f : Nat → Int) (hfe : (fun k => valZ (Z k)) = f) (hf : ∀ k, Bn (f k) B) (hB : B ≤ 1000000)
  (sa : ra.mag.size ≤ 90000000) (sb : rb.mag.size ≤ 90000000) (ha : Bn (valZ ra) e) (hb : Bn (valZ rb) e) (he : e ≤ 10000) (u v : Int) (hu : rloN (valZ ra) (valZ rb) = u) (hv : rloD (valZ ra) (valZ rb) = v) (w : World) (hX : GRow w p n Z) :
  Calls Tryz.prog 26 #[.slice p n c, .agg #[.bool ra.neg, .string ra.mag, .bool rb.neg, .string rb.mag]] w (RetEv f n u v (B + (e + 1) * 70) w) := by
 have hv0 : 0 < v := by rw [← hv]; exact (rlo_qc _ _).pos
 have hub : Bn u e := by rw [← hu]; exact rloN_bn ha _
 have hvb : Bn v e := by rw [← hv]; exact rloD_bn hb _
 have hE := fun t P Q ht hq hpq => qc_bn (n := n) (t := t) (P := P) (Q := Q) hf hub hvb hv0 ht hq hpq
 have hEe : B + (e + 1) * 70 ≤ 2000000 := by
  have : (e + 1) * 70 ≤ 10001 * 70 := Nat.mul_le_mul_right _ (by omega)
  omega
 have heE : e ≤ B + (e + 1) * 70 := by
  have : (e + 1) * 1 ≤ (e + 1) * 70 := Nat.mul_le_mul_left _ (by decide)
  omega
 obtain ⟨E, hEE⟩ : ∃ E, B + (e + 1) * 70 = E := ⟨_, rfl⟩
 rw [hEE] at hE hEe heE ⊢
 have hBE : B ≤ E := by omega
 have HMu := lhd (fun (zP zQ : ZI) P Q (h1 : zP.mag.size ≤ 90000000) (h2 : zQ.mag.size ≤ 90000000) (h3 : Bn (valZ zP) E) (h4 : Bn (valZ zQ) E) (h5 : rloN (valZ zP) (valZ zQ) = P) (h6 : rloD (valZ zP) (valZ zQ) = Q) W => refMulR_any zP zQ ra rb (e := E) (by omega) h1 h2 sa sb h3 h4 (ha.up heE) (hb.up heE) P Q u v h5 h6 hu hv W)
 have HOf := lhd (fun i (hi : i < n) W => refOfR_any (Z i) (hz i hi) (f i) (by rw [← hfe]) W)
 have HAd := lhd (fun p1 q1 x (h1 : Bn p1 (E + E)) (h2 : Bn q1 (E + E)) (h3 : Bn x (E + E)) (hq : Qc p1 q1) W => refAddR_any (canon p1) (canon q1) (canon x) (canon 1) (e := E + E) (by omega) (h1.size _ (by omega)) (h2.size _ (by omega)) (h3.size _ (by omega)) (by decide) (by rw [valZ_canon]; exact h1) (by rw [valZ_canon]; exact h2) (by rw [valZ_canon]; exact h3) (by rw [valZ_canon]; exact Bn.one _) p1 q1 x 1 (by rw [valZ_canon, valZ_canon]; exact (rlo_self hq).1) (by rw [valZ_canon, valZ_canon]; exact (rlo_self hq).2) (by rw [valZ_canon, valZ_canon]; exact (rlo_one x).1) (by rw [valZ_canon, valZ_canon]; exact (rlo_one x).2) W)
 have HE := lhd hE
 have Hf : Hid (∀ k, Bn (f k) E) := lhd (fun k => (hf k).up hBE)
 have Huv : Hid (0 < v ∧ Bn u E ∧ Bn v E) := lhd ⟨hv0, hub.up heE, hvb.up heE⟩
 have HEe := lhd hEe
 have HX := lhd hX
 have H0 : Hid (EvS f n u v E 0 ⟨false, ⟨#[]⟩⟩ ⟨false, ⟨#[]⟩⟩ 0 1) := lhd ⟨⟨by decide, by decide, Bn.zero _, Bn.zero _⟩, ⟨rfl, rfl⟩, ⟨by decide, rfl⟩, by simp [hsN]⟩
 have Hstep : Hid (∀ t zP zQ P Q, t < n → EvS f n u v E t zP zQ P Q → EvS f n u v E (t + 1) (canon (rloN (rloN (P * u) (Q * v) * 1 + f (n - 1 - t) * rloD (P * u) (Q * v)) (rloD (P * u) (Q * v) * 1))) (canon (rloD (rloN (P * u) (Q * v) * 1 + f (n - 1 - t) * rloD (P * u) (Q * v)) (rloD (P * u) (Q * v) * 1))) (rloN (rloN (P * u) (Q * v) * 1 + f (n - 1 - t) * rloD (P * u) (Q * v)) (rloD (P * u) (Q * v) * 1)) (rloD (rloN (P * u) (Q * v) * 1 + f (n - 1 - t) * rloD (P * u) (Q * v)) (rloD (P * u) (Q * v) * 1)) ∧ Bn (rloN (P * u) (Q * v)) (E + E) ∧ Bn (rloD (P * u) (Q * v)) (E + E) ∧ Qc (rloN (P * u) (Q * v)) (rloD (P * u) (Q * v))) := lhd (fun t zP zQ P Q ht ⟨hs, hr, hq, hpq⟩ => by
  have hst := horner_step (x := f (n - 1 - t)) (u := u) hq hv0 hpq
  have hqn := rlo_qc (rloN (P * u) (Q * v) * 1 + f (n - 1 - t) * rloD (P * u) (Q * v)) (rloD (P * u) (Q * v) * 1)
  obtain ⟨b1, b2⟩ := hE t P Q (by omega) hq hpq
  have c1 := rloN_bn (b1.mul (hub.up heE)) (Q * v)
  have c2 := rloD_bn (b2.mul (hvb.up heE)) (P * u)
  have c3 := rlo_qc (P * u) (Q * v)
  generalize rloN (P * u) (Q * v) = p1 at *
  generalize rloD (P * u) (Q * v) = q1 at *
  generalize rloN (p1 * 1 + f (n - 1 - t) * q1) (q1 * 1) = P2 at *
  generalize rloD (p1 * 1 + f (n - 1 - t) * q1) (q1 * 1) = Q2 at *
  obtain ⟨d1, d2⟩ := hE (t + 1) P2 Q2 (by omega) hqn hst
  exact ⟨⟨⟨d1.size _ (by omega), d2.size _ (by omega), by rw [valZ_canon]; exact d1, by rw [valZ_canon]; exact d2⟩, by rw [valZ_canon, valZ_canon]; exact rlo_self hqn, hqn, hst⟩, c1, c2, c3⟩)
 clear hE hf hub hvb hu hv ha hb sa sb hBE heE hEE hB he hv0 hX hfe hz hEe
 go_enter Tryz.func26, Tryz.ntmps26
 go_upto_region 1 with (fail)
 obtain ⟨V, hV, hR, hC, hb⟩ := two_box4 w (.bool ra.neg) (.string ra.mag) (.bool rb.neg) (.string rb.mag) 26 26
 rw [hV]
 obtain ⟨gR, hgR⟩ : ∃ g, w.heap.size = g := ⟨_, rfl⟩
 obtain ⟨gC, hgC⟩ : ∃ g, w.heap.size + 1 = g := ⟨_, rfl⟩
 have lC : w.heap.size ≤ gC := by omega
 rw [hgR] at hR
 rw [hgC] at hC ⊢
 rw [hgR]
 have HR := lhd hR
 have HC := lhd hC
 have HV := lhd hb
 have HXV := lhd (SlAt.mono HX.out (Nat.le_refl _) hb)
 clear hR hC hb hV hgR hgC HX
 go_upto_region 2 with (fail)
 have hO := Box4.new V (.bool false) (.string ⟨#[]⟩) (.bool false) (.string ⟨#[]⟩) 26
 have hal := (Below.refl V.heap.size V).alloc (Nat.le_refl _) (.cells #[.bool false, .string ⟨#[]⟩, .bool false, .string ⟨#[]⟩] 26)
 obtain ⟨gO, hgO⟩ : ∃ g, V.heap.size = g := ⟨_, rfl⟩
 have leO : V.heap.size ≤ gO := by omega
 rw [hgO] at hO ⊢
 have HO0 := lhd hO
 have HD0 := lhd hal
 clear hO hal hgO
 generalize V.alloc (.cells #[.bool false, .string ⟨#[]⟩, .bool false, .string ⟨#[]⟩] 26) = W0 at *
 go_wp2_with fail
 go_loopw [6] (fun iv wr => ∃ (t : Nat) (zP zQ : ZI) (P Q : Int), t ≤ n ∧ iv = .int .i64 ((n : Int) - 1 - (t : Int)) ∧ Hid (EvS f n u v E t zP zQ P Q) ∧ Hid (Box4 wr gO (.bool zP.neg) (.string zP.mag) (.bool zQ.neg) (.string zQ.mag)) ∧ Hid (Below V.heap.size V wr)) (fun iv _ => (intOf iv + 1).toNat)
 case atStart => exact ⟨0, ⟨false, ⟨#[]⟩⟩, ⟨false, ⟨#[]⟩⟩, 0, 1, by omega, by go_num, H0, HO0, HD0⟩
 case round =>
  clear HO0 HD0 H0
  obtain ⟨t, zP, zQ, P, Q, ht, rfl, HS, HO, HD⟩ := hrel
  by_cases htl : t < n
  ·obtain ⟨i, hi⟩ : ∃ i, n - 1 - t = i := ⟨_, rfl⟩
   have hk : (n : Int) - 1 - (t : Int) = (i : Int) := by omega
   have hin : i < n := by omega
   have i0 : (i : Int) ≥ 0 := by omega
   have i1 : (i : Int) < (n : Int) := by omega
   rw [hk]
   have Hk := lhd hk
   obtain ⟨bb, bo, rfl, hbl, hbc⟩ := GRow.cells HXV.out hin
   obtain ⟨b3, b4⟩ := hbc i hin
   obtain ⟨hs2, m1, m2, hq2⟩ := Hstep.out t zP zQ P Q htl HS.out
   obtain ⟨⟨s1, s2, s3, s4⟩, ⟨s5, s6⟩, _, _⟩ := HS.out
   have hmu := fun W => HMu.out zP zQ P Q s1 s2 s3 s4 s5 s6 W
   have hof := fun W => HOf.out i hin W
   have had := fun W => HAd.out _ _ (f i) m1 m2 ((Hf.out i).up (by omega)) hq2 W
   rw [hi] at hs2
   have hmu2 : ∀ W, Calls Tryz.prog 51 #[.agg #[.bool zP.neg, .string zP.mag, .bool zQ.neg, .string zQ.mag], .agg #[.bool ra.neg, .string ra.mag, .bool rb.neg, .string rb.mag]] W (fun e w' => e = .returned (ratV (rloN (P * u) (Q * v)) (rloD (P * u) (Q * v))) ∧ Below W.heap.size W w') := hmu
   have hof2 : ∀ W, Calls Tryz.prog 27 #[.agg #[.bool (Z i).neg, .string (Z i).mag]] W (fun e w' => e = .returned (ratV (f i) 1) ∧ Below W.heap.size W w') := hof
   generalize rloN (P * u) (Q * v) = p1 at *
   generalize rloD (P * u) (Q * v) = q1 at *
   generalize f i = x at *
   have had2 : ∀ W, Calls Tryz.prog 25 #[.agg #[.bool (canon p1).neg, .string (canon p1).mag, .bool (canon q1).neg, .string (canon q1).mag], .agg #[.bool (canon x).neg, .string (canon x).mag, .bool (canon 1).neg, .string (canon 1).mag]] W (fun e w' => e = .returned (ratV (rloN (p1 * 1 + x * q1) (q1 * 1)) (rloD (p1 * 1 + x * q1) (q1 * 1))) ∧ Below W.heap.size W w') := had
   obtain ⟨P2, hP2⟩ : ∃ y, rloN (p1 * 1 + x * q1) (q1 * 1) = y := ⟨_, rfl⟩
   obtain ⟨Q2, hQ2⟩ : ∃ y, rloD (p1 * 1 + x * q1) (q1 * 1) = y := ⟨_, rfl⟩
   rw [hP2, hQ2] at had2 hs2
   unfold ratV at hmu2 hof2 had2
   have HS2 := lhd hs2
   obtain ⟨z, hzz⟩ : ∃ z, Z i = z := ⟨_, rfl⟩
   rw [hzz] at hof2 b3 b4
   obtain ⟨CP, hCP⟩ : ∃ z, canon P2 = z := ⟨_, rfl⟩
   obtain ⟨CQ, hCQ⟩ : ∃ z, canon Q2 = z := ⟨_, rfl⟩
   rw [hCP, hCQ] at had2 HS2
   generalize canon p1 = A1 at *
   generalize canon q1 = A2 at *
   generalize canon x = A3 at *
   generalize canon 1 = A4 at *
   have HM2 := lhd hmu2
   have HO2 := lhd hof2
   have HA2 := lhd had2
   obtain ⟨SS, hSe⟩ : ∃ SS : World → Prop, SS = fun W => W.cell? ⟨bb, bo + i * 2, none⟩ = some (.bool z.neg) ∧ W.cell? ⟨bb, bo + i * 2 + 1, none⟩ = some (.string z.mag) ∧ W.cell? ⟨gR, 0, none⟩ = some (.bool ra.neg) ∧ W.cell? ⟨gR, 1, none⟩ = some (.string ra.mag) ∧ W.cell? ⟨gR, 2, none⟩ = some (.bool rb.neg) ∧ W.cell? ⟨gR, 3, none⟩ = some (.string rb.mag) := ⟨_, rfl⟩
   have HSD : Hid (∀ W, Below V.heap.size V W → SS W) := lhd (fun W hW => by
    obtain ⟨r0, r1, r2, r3, _, _⟩ := HR.out
    rw [hSe]; exact ⟨cell_below hW b3, cell_below hW b4, cell_below hW r0, cell_below hW r1, cell_below hW r2, cell_below hW r3⟩)
   clear hbc b3 b4 hs2 m1 m2 hq2 s1 s2 s3 s4 s5 s6 hmu hof had hmu2 hof2 had2 hP2 hQ2 hCP hCQ hzz hk hi HS
   go_upto_region 5 with (fail)
   refine wp_region_held_drew (S := SS) (by kernel_rfl) (HSD.out _ HD.out.drew) (fun _ => ?_)
   have O_q1 := lhd (Box4.drw HO.out)
   have D_q1 := lhd (HD.out.drew)
   refine wpAnyH_take (i := 1) (v := ?_) rfl (by kernel_rfl) (by kernel_rfl) (by kernel_rfl) (fun _ _ _ h => h) (Or.inl ⟨by rfl, ?_⟩) (HSD.out _ D_q1.out) ?_
   rotate_left 1
   next => intro w hSw; rw [hSe] at hSw; obtain ⟨s1, s2, s3, s4, s5, s6⟩ := hSw; go_simp; try with_reducible rfl
   try simp only [Act.put, ny1, ny2, ny3, ny4, ny5, ny6]
   refine wpAnyH_take (i := 3) (v := ?_) rfl (by kernel_rfl) (by kernel_rfl) (by kernel_rfl) (fun _ _ _ h => h) (Or.inl ⟨by rfl, ?_⟩) (HSD.out _ D_q1.out) ?_
   rotate_left 1
   next => intro w hSw; rw [hSe] at hSw; obtain ⟨s1, s2, s3, s4, s5, s6⟩ := hSw; go_simp; try with_reducible rfl
   try simp only [Act.put, ny1, ny2, ny3, ny4, ny5, ny6]
   refine wpAnyH_take (i := 4) (v := ?_) rfl (by kernel_rfl) (by kernel_rfl) (by kernel_rfl) (fun _ _ _ h => h) (Or.inl ⟨by rfl, ?_⟩) (HSD.out _ D_q1.out) ?_
   rotate_left 1
   next => intro w hSw; rw [hSe] at hSw; obtain ⟨s1, s2, s3, s4, s5, s6⟩ := hSw; go_simp; try with_reducible rfl
   try simp only [Act.put, ny1, ny2, ny3, ny4, ny5, ny6]
   refine wpAnyH_take (i := 5) (v := ?_) rfl (by kernel_rfl) (by kernel_rfl) (by kernel_rfl) (fun _ _ _ h => h) (Or.inl ⟨by rfl, ?_⟩) (HSD.out _ D_q1.out) ?_
   rotate_left 1
   next => intro w hSw; rw [hSe] at hSw; obtain ⟨s1, s2, s3, s4, s5, s6⟩ := hSw; go_simp; try with_reducible rfl
   try simp only [Act.put, ny1, ny2, ny3, ny4, ny5, ny6]
   refine wpAnyH_take (i := 6) (v := ?_) rfl (by kernel_rfl) (by kernel_rfl) (by kernel_rfl) (fun _ _ _ h => h) (Or.inl ⟨by rfl, ?_⟩) (HSD.out _ D_q1.out) ?_
   rotate_left 1
   next => intro w hSw; rw [hSe] at hSw; obtain ⟨s1, s2, s3, s4, s5, s6⟩ := hSw; go_simp; try with_reducible rfl
   try simp only [Act.put, ny1, ny2, ny3, ny4, ny5, ny6]
   refine wpAnyH_ready (rs := [0]) (by kernel_rfl) (by simp) ?_
   refine AllReadyH.cons rfl (fun K hK => ?_) AllReadyH.nil
   obtain ⟨z0, z1, z2, z3, _, _⟩ := O_q1.out
   go_simp
   refine hK.out _ _ (HSD.out _ D_q1.out) (fun _ => ?_)
   clear hK K z0 z1 z2 z3
   try simp only [Act.put, ny1, ny2, ny3, ny4, ny5, ny6]
   refine wpAnyH_ready (rs := [2]) (by kernel_rfl) (by simp) ?_
   refine AllReadyH.cons rfl (fun K hK => ?_) AllReadyH.nil
   go_simp
   refine (HM2.out _).mono ?_
   rintro e wq2 ⟨rfl, hbc⟩
   have O_q2 := lhd (O_q1.out.below hbc O_q1.out.2.2.2.2.2)
   have D_q2 := lhd (D_q1.out.trans (hbc.mono D_q1.out.size))
   dsimp only
   refine hK.out _ _ (HSD.out _ D_q2.out) (fun _ => ?_)
   clear hK K hbc
   try simp only [Act.put, ny1, ny2, ny3, ny4, ny5, ny6]
   refine wpAnyH_ready (rs := [7]) (by kernel_rfl) (by simp) ?_
   refine AllReadyH.cons rfl (fun K hK => ?_) AllReadyH.nil
   go_simp
   refine (HO2.out _).mono ?_
   rintro e wq3 ⟨rfl, hbc⟩
   have O_q3 := lhd (O_q2.out.below hbc O_q2.out.2.2.2.2.2)
   have D_q3 := lhd (D_q2.out.trans (hbc.mono D_q2.out.size))
   dsimp only
   refine hK.out _ _ (HSD.out _ D_q3.out) (fun _ => ?_)
   clear hK K hbc
   try simp only [Act.put, ny1, ny2, ny3, ny4, ny5, ny6]
   refine wpAnyH_ready (rs := [8]) (by kernel_rfl) (by simp) ?_
   refine AllReadyH.cons rfl (fun K hK => ?_) AllReadyH.nil
   go_simp
   refine (HA2.out _).mono ?_
   rintro e wq4 ⟨rfl, hbc⟩
   have O_q4 := lhd (O_q3.out.below hbc O_q3.out.2.2.2.2.2)
   have D_q4 := lhd (D_q3.out.trans (hbc.mono D_q3.out.size))
   dsimp only
   refine hK.out _ _ (HSD.out _ D_q4.out) (fun _ => ?_)
   clear hK K hbc
   try simp only [Act.put, ny1, ny2, ny3, ny4, ny5, ny6]
   refine wpAnyH_ready (rs := [9]) (by kernel_rfl) (by simp) ?_
   refine AllReadyH.cons rfl (fun K hK => ?_) AllReadyH.nil
   obtain ⟨z0, z1, z2, z3, zf, _⟩ := O_q4.out
   have zf0 := zf 0
   have zf1 := zf 1
   have zf2 := zf 2
   have zf3 := zf 3
   have O_q5 := lhd (O_q4.out.set4 (.bool CP.neg) (.string CP.mag) (.bool CQ.neg) (.string CQ.mag))
   have D_q5 := lhd (((((D_q4.out).setCell (p := ⟨gO, 0, none⟩) leO (.bool CP.neg)).setCell (p := ⟨gO, 1, none⟩) leO (.string CP.mag)).setCell (p := ⟨gO, 2, none⟩) leO (.bool CQ.neg)).setCell (p := ⟨gO, 3, none⟩) leO (.string CQ.mag))
   go_simp
   refine hK.out _ _ (HSD.out _ D_q5.out) (fun _ => ?_)
   clear hK K z0 z1 z2 z3 zf zf0 zf1 zf2 zf3
   refine wpAnyH_done (by kernel_rfl) ?_ _
   go_wp2_with fail
   go_roundw
   case rel => exact ⟨t + 1, CP, CQ, P2, Q2, by omega, by rw [show (i : Int) - 1 = (n : Int) - 1 - ((t + 1 : Nat) : Int) by have := Hk.out; omega], HS2, O_q5, D_q5⟩
   case measure => simp [intOf] <;> omega
  ·obtain rfl : t = n := by omega
   have i0 : ¬ (t : Int) - 1 - (t : Int) ≥ 0 := by omega
   have HC2 := lhd (HC.out.below HD.out HC.out.2.2.2.2.2)
   have HB := lhd (HV.out.trans (HD.out.mono HV.out.size))
   obtain ⟨o0, o1, o2, o3, of_, _⟩ := HO.out
   obtain ⟨c0, c1, c2, c3, cf, _⟩ := HC2.out
   have cf0 := cf 0
   have cf1 := cf 1
   have cf2 := cf 2
   have cf3 := cf 3
   obtain ⟨hs, hr, hq, hpq⟩ := HS.out
   have HRes := lhd (And.intro hs (And.intro hr (And.intro hq hpq)))
   clear hs hr hq hpq HS
   go_wp2_with fail
   refine bodyPost_ret (v := .agg #[.bool zP.neg, .string zP.mag, .bool zQ.neg, .string zQ.mag]) ?_ rfl ⟨zP, zQ, P, Q, rfl, HRes.out.1, HRes.out.2.1, HRes.out.2.2.1, HRes.out.2.2.2, (((HB.out.setCell (p := ⟨gC, 0, none⟩) lC _).setCell (p := ⟨gC, 1, none⟩) lC _).setCell (p := ⟨gC, 2, none⟩) lC _).setCell (p := ⟨gC, 3, none⟩) lC _⟩
   simp [results, Tryz.results26, go_sem, c0, c1, c2, c3]
set_option maxRecDepth 100000 in
set_option maxHeartbeats 8000000 in
theorem refAt3_any (n : Nat) (Z : Nat → ZI) (p : Option Addr) (c : Nat) (ra rb : ZI) {B e : Nat} (hn : n ≤ 70) (hz : ∀ k, k < n → (Z k).mag.size < 10000000) (f : Nat → Int) (hfe : (fun k => valZ (Z k)) = f) (hf0 : ∀ k, n ≤ k → f k = 0) (hf : ∀ k, Bn (f k) B) (hB : B ≤ 1000000) (m : Nat) (hm : dgN f n = m) (hm65 : m ≤ 65)
  (sa : ra.mag.size ≤ 90000000) (sb : rb.mag.size ≤ 90000000) (ha : Bn (valZ ra) e) (hb : Bn (valZ rb) e) (he : e ≤ 10000) (u v : Int) (hu : rloN (valZ ra) (valZ rb) = u) (hv : rloD (valZ ra) (valZ rb) = v) (w : World) (hX : GRow w p n Z) :
  Calls Tryz.prog 8 #[.slice p n c, .agg #[.bool ra.neg, .string ra.mag, .bool rb.neg, .string rb.mag]] w (RetAt f m u v w) := by
 have hv0 : 0 < v := by rw [← hv]; exact (rlo_qc _ _).pos
 have hmn : m ≤ n := by rw [← hm]; exact dgN_le f n
 have hfm : ∀ k, m ≤ k → f k = 0 := fun k hk => by
  rcases Nat.lt_or_ge k n with h | h
  ·exact dgN_over f n k (by omega) h
  ·exact hf0 k h
 have hpad := hsN_pad (u := u) (v := v) hmn hfm m (Nat.le_refl _)
 rw [Nat.sub_add_cancel hmn] at hpad
 have Hres := lhd (fun (P Q : Int) (h : P * v ^ n = Q * hsN f n u v n) => show P * v ^ m = Q * hsN f m u v m by
  rw [hpad] at h
  refine Int.eq_of_mul_eq_mul_right (pow_pos_ne hv0 (n - m)) ?_
  have hpw : v ^ n = v ^ m * v ^ (n - m) := by rw [← Int.pow_add]; congr 1; omega
  rw [hpw] at h
  grind)
 have HLg := lhd (fun W h => large3_any n Z p c (by omega) hz m (by rw [hfe]; exact hm) W h)
 rw [decide_eq_false (by omega)] at HLg
 have HEv := lhd (fun W h => refEval_any n Z p c ra rb hn (fun k hk => by have := hz k hk; omega) f hfe hf hB sa sb ha hb he u v hu hv W h)
 have hEe : B + (e + 1) * 70 ≤ 2000000 := by
  have : (e + 1) * 70 ≤ 10001 * 70 := Nat.mul_le_mul_right _ (by omega)
  omega
 obtain ⟨E, hE⟩ : ∃ E, B + (e + 1) * 70 = E := ⟨_, rfl⟩
 rw [hE] at HEv hEe
 have hof := fun W => refOfR_any ⟨false, ⟨#[]⟩⟩ (by decide) 0 rfl W
 have hof2 : ∀ W, Calls Tryz.prog 27 #[.agg #[.bool false, .string ⟨#[]⟩]] W (fun e w' => e = .returned (.agg #[.bool false, .string ⟨#[]⟩, .bool (canon 1).neg, .string (canon 1).mag]) ∧ Below W.heap.size W w') := hof
 have HAd : Hid (∀ (zP zQ : ZI) (P Q : Int), (zP.mag.size ≤ 90000000 ∧ zQ.mag.size ≤ 90000000 ∧ Bn (valZ zP) E ∧ Bn (valZ zQ) E) → (rloN (valZ zP) (valZ zQ) = P ∧ rloD (valZ zP) (valZ zQ) = Q) → Qc P Q → ∀ W, Calls Tryz.prog 25 #[.agg #[.bool zP.neg, .string zP.mag, .bool zQ.neg, .string zQ.mag], .agg #[.bool false, .string ⟨#[]⟩, .bool (canon 1).neg, .string (canon 1).mag]] W (fun e w' => e = .returned (.agg #[.bool (canon P).neg, .string (canon P).mag, .bool (canon Q).neg, .string (canon Q).mag]) ∧ Below W.heap.size W w')) := lhd (fun zP zQ P Q hs hr hq W => by
  have h := refAddR_any zP zQ ⟨false, ⟨#[]⟩⟩ (canon 1) (e := E) (by omega) hs.1 hs.2.1 (by decide) (by decide) hs.2.2.1 hs.2.2.2 (Bn.zero _) (by rw [valZ_canon]; exact Bn.one _) P Q 0 1 hr.1 hr.2 rfl rfl W
  rw [Int.mul_one, Int.zero_mul, Int.add_zero, Int.mul_one, (rlo_self hq).1, (rlo_self hq).2] at h
  exact h)
 have HOf := lhd hof2
 generalize canon 1 = K1 at *
 have HX := lhd hX
 clear hv0 hmn hfm hpad hof hof2 hX hz hfe hf0 hf hB hm hm65 sa sb ha hb he hu hv hEe hE hn
 go_enter Tryz.func8, Tryz.ntmps8
 go_upto_region 1 with (fail)
 obtain ⟨V, hV, hR, hC, hb⟩ := two_box4 w (.bool ra.neg) (.string ra.mag) (.bool rb.neg) (.string rb.mag) 26 26
 rw [hV]
 obtain ⟨gR, hgR⟩ : ∃ g, w.heap.size = g := ⟨_, rfl⟩
 obtain ⟨gC, hgC⟩ : ∃ g, w.heap.size + 1 = g := ⟨_, rfl⟩
 have lC : w.heap.size ≤ gC := by omega
 rw [hgR] at hR
 rw [hgC] at hC ⊢
 rw [hgR]
 have HR := lhd hR
 have HC := lhd hC
 have HZ := lhd hb
 have HXV := lhd (SlAt.mono HX.out (Nat.le_refl _) hb)
 clear hR hC hb hV hgR hgC HX
 go_wp2_with fail
 refine (HLg.out _ HXV.out).mono ?_
 rintro e w1 ⟨rfl, hbc⟩
 dsimp only
 have HX1 := lhd (SlAt.mono HXV.out (Nat.le_refl _) hbc)
 have HR := lhd (HR.out.below hbc HR.out.2.2.2.2.2)
 have HC := lhd (HC.out.below hbc HC.out.2.2.2.2.2)
 have HZ := lhd (HZ.out.trans (hbc.mono HZ.out.size))
 clear hbc HXV HLg
 obtain ⟨r0, r1, r2, r3, rf, _⟩ := HR.out
 have rf0 := rf 0
 have rf1 := rf 1
 have rf2 := rf 2
 have rf3 := rf 3
 go_wp2_with fail
 refine (HEv.out _ HX1.out).mono ?_
 rintro e w2 ⟨zP, zQ, P, Q, rfl, hs, hr, hq, hpq, hbc⟩
 dsimp only
 clear r0 r1 r2 r3 rf rf0 rf1 rf2 rf3
 have HAd2 := lhd (HAd.out zP zQ P Q hs hr hq)
 have Hq := lhd hq
 have Hpq := lhd (Hres.out P Q hpq)
 have HR := lhd (HR.out.below hbc HR.out.2.2.2.2.2)
 have HC := lhd (HC.out.below hbc HC.out.2.2.2.2.2)
 have HZ := lhd (HZ.out.trans (hbc.mono HZ.out.size))
 clear hbc hs hr hq hpq HAd HEv HX1 Hres
 go_wp2_with fail
 refine (HOf.out _).mono ?_
 rintro e w3 ⟨rfl, hbc⟩
 dsimp only
 have HR := lhd (HR.out.below hbc HR.out.2.2.2.2.2)
 have HC := lhd (HC.out.below hbc HC.out.2.2.2.2.2)
 have HZ := lhd (HZ.out.trans (hbc.mono HZ.out.size))
 clear hbc
 generalize hCP : canon P = CP at *
 generalize hCQ : canon Q = CQ at *
 have HCP := lhd hCP
 have HCQ := lhd hCQ
 clear hCP hCQ
 go_wp2_with fail
 refine (HAd2.out _).mono ?_
 rintro e w4 ⟨rfl, hbc⟩
 dsimp only
 have HR := lhd (HR.out.below hbc HR.out.2.2.2.2.2)
 have HC := lhd (HC.out.below hbc HC.out.2.2.2.2.2)
 have HZ := lhd (HZ.out.trans (hbc.mono HZ.out.size))
 clear hbc
 obtain ⟨c0, c1, c2, c3, cf, _⟩ := HC.out
 have cf0 := cf 0
 have cf1 := cf 1
 have cf2 := cf 2
 have cf3 := cf 3
 go_wp2_with fail
 refine bodyPost_ret (v := .tuple #[.agg #[.bool CP.neg, .string CP.mag, .bool CQ.neg, .string CQ.mag], .int .i64 0]) ?_ rfl ⟨P, Q, by rw [← HCP.out, ← HCQ.out]; rfl, Hq.out, Hpq.out, (((HZ.out.setCell (p := ⟨gC, 0, none⟩) lC _).setCell (p := ⟨gC, 1, none⟩) lC _).setCell (p := ⟨gC, 2, none⟩) lC _).setCell (p := ⟨gC, 3, none⟩) lC _⟩
 simp [results, Tryz.results8, go_sem, c0, c1, c2, c3]
open Go.RowKit Go.ChangeShapes Go.WideShapes Go.ChangeAt Go.Deep
theorem own : ownKnob Tryz.prog.godebug = none := by kernel_rfl
theorem laidOut : laidOutB Tryz.prog = true := by kernel_rfl
section
variable {H : Type} {enc : TypeId × Value → H} {P : Program} {w : World} {base : Nat} {spare : Nat → Bool} {held : Bool}
theorem struct_fields {t : TypeId} {fs : Array Field} {fuel : Nat} {cs : List Value} {x : DataW H × List MemPlace} (ht : P.underlying t = some (.struct fs)) (hone : oneCellFields P fs = true) (hC : P.cellsOf t = fs.size)
  (h : DataW.trod enc P w base spare held fuel t cs = some x) :
  ∃ (ys : List (DataW H × List MemPlace)) (n : Nat), x = (.agg (ys.map (·.1)), ys.flatMap (·.2)) ∧ cs.length = fs.size ∧ ys.length = fs.size ∧
   ∀ (j : Nat) (f : Field), fs[j]? = some f → ∃ v y, cs[j]? = some v ∧ ys[j]? = some y ∧ DataW.trod enc P w base spare held n f.type [v] = some y := by
 obtain ⟨ys, n, _, hx, hlen, hyl, hf⟩ := DataW.trod_struct ht h
 rw [hC] at hlen
 refine ⟨ys, n, hx, hlen, hyl, fun j f hj => ?_⟩
 obtain ⟨ho, hk⟩ := hone_of hone j f hj
 have hjl : j < fs.size := (Array.getElem?_eq_some_iff.1 hj).1
 have h1 := hf j f hj
 rw [ho, hk, List.drop_eq_getElem_cons (by omega), List.take_succ_cons, List.take_zero] at h1
 have hys : ys[j]? = some (ys[j]'(by omega)) := List.getElem?_eq_getElem (by omega)
 exact ⟨cs[j]'(by omega), ys[j]'(by omega), List.getElem?_eq_getElem (by omega), hys, h1.trans hys⟩
theorem trodAll_below (hl : laidOutB P = true) {W W' : World} (hb : Below W.heap.size W W') : ∀ (ts : List TypeId) (vs : List Value) (ds : List (DataW H)) (ps : List MemPlace),
  (ts.all fun t => P.readableRec t && decide (t < P.types.size)) = true → DataW.TrodAll enc P W 0 (fun _ => true) true ts vs ds ps →
  DataW.TrodAll enc P W' 0 (fun b => decide (b < W.heap.size)) true ts vs ds ps
 | [], vs, ds, ps, _, h => by
  obtain ⟨rfl, rfl, rfl⟩ := trodAll_nil h
  exact trodAll_mk0
 | t :: ts, vs, ds, ps, hr, h => by
  obtain ⟨v, vs', d, ds', p, q, rfl, rfl, rfl, h0, r0⟩ := trodAll_cons h
  simp only [List.all_cons, Bool.and_eq_true, decide_eq_true_eq] at hr
  have lt : ∀ x ∈ p, x.block < W.heap.size := by obtain ⟨m, hm⟩ := h0; exact DataW.trod_lt m _ _ _ hm
  exact trodAll_cons_mk (Below.trod hl hr.1.1 hr.1.2 h0 hb lt) (trodAll_below hl hb ts vs' ds' q hr.2 r0)
end
open Go.ChangeShapes Go.WideShapes Go.ChangeAt Go.RowKit
set_option maxRecDepth 100000 in
theorem door_met (os : Os) (args : Array Value) : laidMetH Tryz.prog [("math/bits.deBruijn32tab", Rows.laid_math_bits_deBruijn32tab), ("math/bits.deBruijn64tab", Rows.laid_math_bits_deBruijn64tab), ("internal/strconv.uint64pow10", Rows.laid_internal_strconv_uint64pow10)] ((World.doorLaid Tryz.prog 24 os).forCall (fun _ _ => 0) ⟨#[], args, []⟩).memory :=
 laidMetH_of_parts3 (fuel := 8) (laidMet_of_run' 8 (by kernel_rfl) (by kernel_rfl)) (by kernel_rfl) (by kernel_rfl)
open Go Go.RowKit Go.ChangeShapes Go.WideShapes Go.ChangeAt Go.Deep
section
variable {H : Type} {enc : TypeId × Value → H} {w : World}
set_option maxRecDepth 100000 in
theorem open_zrow {fuel : Nat} {cs : List Value} {x : DataW H × List MemPlace} (h : DataW.trod enc Tryz.prog w 0 (fun _ => true) true fuel 22 cs = some x) :
  ∃ (q : Option Addr) (n c : Nat) (Z : Nat → ZI), cs = [.slice q n c] ∧ GRow w q n Z ∧ n ≤ c ∧ c ≤ maxLen ∧ ∀ k, k < n → (Z k).mag.size ≤ maxLen := by
 rcases open_slice_pairs Tryz.underlying22 Tryz.underlying24 (by kernel_rfl) (by rfl) (by rfl) (by kernel_rfl) (by kernel_rfl) h with ⟨hcs, _⟩ | ⟨a, len, cap, m, n, V0, V1, D0, D1, P0, P1, hcs, _, hl, hm, hmm, _, hi⟩
 ·exact ⟨none, 0, 0, fun _ => canon 0, hcs, .inl rfl, Nat.le_refl _, by decide, fun k hk => by omega⟩
 ·simp only [if_true] at hmm
  rw [hmm] at hi
  have he : ∀ i, i < cap → ∃ z : Bool × ByteArray, w.cell? (a.add (i * 2)) = some (.bool z.1) ∧ w.cell? (a.add (i * 2 + 1)) = some (.string z.2) ∧ z.2.size ≤ maxLen := by
   intro i hil
   obtain ⟨c0, c1, t0, t1⟩ := hi i hil
   obtain ⟨b, e0, _⟩ := DataW.trod_bool Tryz.underlying4 t0
   obtain ⟨s, e1, _, hs⟩ := DataW.trod_string Tryz.underlying9 t1
   simp only [List.cons.injEq, and_true] at e0 e1
   rw [e0] at c0
   rw [e1] at c1
   exact ⟨(b, s), c0, c1, hs⟩
  obtain ⟨E, hE⟩ := choose_lt he
  refine ⟨some a, len, cap, fun i => ⟨(E i).1, (E i).2⟩, hcs, ?_, hl, hm, fun k hk => (hE k (by omega)).2.2⟩
  rcases Nat.eq_zero_or_pos len with h0 | h0
  ·exact .inl h0
  ·obtain ⟨b, off, spot⟩ := a
   have h00 := (hE 0 (by omega)).1
   have hspot : spot = none := by simpa [Addr.add] using World.cell?_spot h00
   subst hspot
   refine .inr ⟨b, off, rfl, World.block_lt_of_cell? w _ (by simpa [Addr.add] using h00), fun i hi' j hj => ?_⟩
   have hc := hE i (by omega)
   rw [Addr.add_lit, Addr.add_lit] at hc
   have : j = 0 ∨ j = 1 := by omega
   rcases this with rfl | rfl
   ·simpa [zg] using hc.1
   ·simpa [zg, Nat.add_assoc] using hc.2.1
set_option maxRecDepth 100000 in
theorem open_vec {v : Value} {d : DataW H} {p : List MemPlace} {bb : Nat} (hv : Value.okWide Tryz.prog w .any bb 22 v) (h : DataW.Trod enc Tryz.prog w 0 (fun _ => true) true 22 v d p) :
  ∃ (q : Option Addr) (n c : Nat) (Z : Nat → ZI), v = .slice q n c ∧ GRow w q n Z ∧ n ≤ maxLen ∧ ∀ k, k < n → (Z k).mag.size ≤ maxLen := by
 obtain ⟨a0, l0, c0, rfl⟩ := okWide_slice Tryz.underlying22 hv
 obtain ⟨fuel, hf⟩ := h
 obtain ⟨q, n, c, Z, hcs, hr, h1, h2, h3⟩ := open_zrow hf
 simp only [Value.cells, List.cons.injEq, and_true] at hcs
 exact ⟨q, n, c, Z, hcs, hr, Nat.le_trans h1 h2, h3⟩
end
open Go Go.RowKit Go.ChangeShapes Go.WideShapes Go.ChangeAt Go.Deep
section
variable {H : Type} {enc : TypeId × Value → H} {w : World}
set_option maxRecDepth 100000 in
theorem open_zi {fuel : Nat} {cs : List Value} {x : DataW H × List MemPlace} (h : DataW.trod enc Tryz.prog w 0 (fun _ => true) true fuel 24 cs = some x) :
  ∃ z : ZI, cs = [.bool z.neg, .string z.mag] ∧ z.mag.size ≤ maxLen := by
 have hC : Tryz.prog.cellsOf 24 = 2 := by kernel_rfl
 obtain ⟨ys, n, hx, hlen, hyl, hg⟩ := struct_fields (fs := _) Tryz.underlying24 (by kernel_rfl) (by rw [hC]; rfl) h
 obtain ⟨v0, y0, hv0, _, t0⟩ := hg 0 _ rfl
 obtain ⟨v1, y1, hv1, _, t1⟩ := hg 1 _ rfl
 obtain ⟨b, e0, _⟩ := DataW.trod_bool Tryz.underlying4 t0
 obtain ⟨s, e1, _, hs⟩ := DataW.trod_string Tryz.underlying9 t1
 simp only [List.cons.injEq, and_true] at e0 e1
 subst e0 e1
 refine ⟨⟨b, s⟩, ?_, hs⟩
 match cs, hlen with
 | [c0, c1], _ =>
  simp at hv0 hv1
  subst hv0 hv1
  rfl
set_option maxRecDepth 100000 in
theorem open_rat {v : Value} {d : DataW H} {p : List MemPlace} {bb : Nat} (hv : Value.okWide Tryz.prog w .any bb 26 v) (h : DataW.Trod enc Tryz.prog w 0 (fun _ => true) true 26 v d p) :
  ∃ a b : ZI, v = .agg #[.bool a.neg, .string a.mag, .bool b.neg, .string b.mag] ∧ a.mag.size ≤ maxLen ∧ b.mag.size ≤ maxLen := by
 have hC : Tryz.prog.cellsOf 26 = 4 := by kernel_rfl
 have hC2 : Tryz.prog.cellsOf 24 = 2 := by kernel_rfl
 obtain ⟨cs, rfl, hsz⟩ := okWide_struct Tryz.underlying26 hv
 obtain ⟨fuel, hf⟩ := h
 obtain ⟨y0, y1, n, hx, hlen, t0, t1⟩ := trod_struct2 Tryz.underlying26 hf
 obtain ⟨cl⟩ := cs
 simp only [Value.cells, List.size_toArray] at t0 t1 hlen hsz
 rw [hC2] at t0 t1
 match cl, hsz.trans hC with
 | [c0, c1, c2, c3], _ =>
  simp at t0 t1
  obtain ⟨a, e0, ha⟩ := open_zi t0
  obtain ⟨b, e1, hb⟩ := open_zi t1
  simp only [List.cons.injEq, and_true] at e0 e1
  obtain ⟨rfl, rfl⟩ := e0
  obtain ⟨rfl, rfl⟩ := e1
  exact ⟨a, b, rfl, ha, hb⟩
end
end Go.Proofs.YtmbamcpndbimaaaGreatDoor
