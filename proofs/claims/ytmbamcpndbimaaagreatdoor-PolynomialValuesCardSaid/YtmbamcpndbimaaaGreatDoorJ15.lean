/- polynomial.primitive: the walk. -/
import Derived.Test.YtmbamcpndbimaaaGreatDoorJ10
import Derived.Test.YtmbamcpndbimaaaGreatDoorJ14
import Derived.Test.YtmbamcpndbimaaaGreatDoorJ8
namespace Go.Proofs.YtmbamcpndbimaaaGreatDoor
open Go.RowKit Go.Shelf
theorem BoxAt.set2 {w : World} {g : Nat} {a b : Value} (h : BoxAt w g a b) (x y : Value) : BoxAt ((w.setCell ⟨g, 0, none⟩ x).setCell ⟨g, 1, none⟩ y) g x y := by
 obtain ⟨h1, h2, h3, h4, h5⟩ := h
 refine ⟨?_, ?_, ?_, ?_, by simpa using h5⟩
 ·rw [World.cell?_setCell_other _ _ _ _ (by intro h; injection h with _ h; omega)]; exact World.cell?_setCell_same _ _ _ h1
 ·exact World.cell?_setCell_same (u := b) _ _ _ (by rw [World.cell?_setCell_other _ _ _ _ (by intro h; injection h with _ h; omega)]; exact h2)
 ·rw [World.frozen?_setCell, World.frozen?_setCell]; exact h3
 ·rw [World.frozen?_setCell, World.frozen?_setCell]; exact h4
theorem quo_exact (a k : Int) (hk : k ≠ 0) (h : k ∣ a) : quoZ (canon a) (canon k) = canon (a / k) := by
 obtain ⟨q, rfl⟩ := h
 rw [Int.mul_ediv_cancel_left _ hk]
 unfold quoZ
 rw [absZ_canon, absZ_canon, Int.natAbs_mul, Nat.mul_div_cancel_left _ (by omega), Nat.mul_mod_right, if_pos rfl]
 have e1 : (canon (k * q)).neg = decide (k * q < 0) := rfl
 have e2 : (canon k).neg = decide (k < 0) := rfl
 rw [e1, e2]
 by_cases hq : q < 0
 ·have hne : ¬ (decide (k * q < 0) = decide (k < 0)) := by
   rcases Int.lt_or_gt_of_ne hk with h | h
   ·have h1 : 0 < k * q := Int.mul_pos_of_neg_of_neg h hq
    rw [decide_eq_false (by omega), decide_eq_true h]; decide
   ·have h1 : k * q < 0 := Int.mul_neg_of_pos_of_neg h hq
    rw [decide_eq_true h1, decide_eq_false (by omega)]; decide
  rw [if_neg hne, mkZ_val]
  congr 1
  simp
  omega
 ·by_cases h0 : q = 0
  ·subst h0
   have hz : ∀ b, mkZ b (Int.natAbs 0) = canon 0 := fun b => by rw [mkZ_val]; cases b <;> rfl
   split
   ·exact hz _
   ·exact hz _
  ·have heq : decide (k * q < 0) = decide (k < 0) := by
    rcases Int.lt_or_gt_of_ne hk with h | h
    ·have h1 : k * q < 0 := Int.mul_neg_of_neg_of_pos h (by omega)
     rw [decide_eq_true h1, decide_eq_true h]
    ·have h1 : 0 < k * q := Int.mul_pos h (by omega)
     rw [decide_eq_false (by omega), decide_eq_false (by omega)]
   rw [if_pos heq, mkZ_val]
   congr 1
   simp
   omega
theorem divx_any (a k : Int) (hk : k ≠ 0) (h : k ∣ a) (ha : (canon a).mag.size ≤ 100000000) (hb : (canon k).mag.size ≤ 100000000) (w : World) :
  Calls Tryz.prog 57 #[.agg #[.bool (canon a).neg, .string (canon a).mag], .agg #[.bool (canon k).neg, .string (canon k).mag]] w (RetDiv (canon (a / k)) (remZ (canon a) (canon k)) w) := by
 have h1 := div_any (canon a) (canon k) ha hb (by rw [absZ_canon]; omega) w
 rwa [quo_exact a k hk h] at h1
def gcN (f : Nat → Int) : Nat → Nat
 | 0 => 0
 | k + 1 => Nat.gcd (gcN f k) (f k).natAbs
theorem gcN_dvd (f : Nat → Int) : ∀ n k, k < n → ((gcN f n : Nat) : Int) ∣ f k
 | 0, k, h => by omega
 | n + 1, k, h => by
  rw [gcN]
  by_cases e : k = n
  ·subst e
   exact Int.natAbs_dvd_natAbs.1 (by simpa using Nat.gcd_dvd_right (gcN f k) (f k).natAbs)
  ·exact Int.dvd_trans (Int.natCast_dvd_natCast.2 (Nat.gcd_dvd_left _ _)) (gcN_dvd f n k (by omega))
theorem gcN_bn {f : Nat → Int} {e : Nat} (hf : ∀ k, Bn (f k) e) : ∀ n, gcN f n ≤ 2 ^ e
 | 0 => Nat.zero_le _
 | n + 1 => by
  rw [gcN]
  by_cases h : (f n).natAbs = 0
  ·rw [h, Nat.gcd_zero_right]; exact gcN_bn hf n
  ·exact Nat.le_trans (Nat.gcd_le_right _ (by omega)) (hf n)
theorem gcN_ne {f : Nat → Int} : ∀ {n k : Nat}, k < n → f k ≠ 0 → gcN f n ≠ 0
 | 0, k, h, _ => by omega
 | n + 1, k, h, h0 => by
  rw [gcN]
  intro hg
  have := Nat.gcd_eq_zero_iff.1 hg
  by_cases e : k = n
  ·subst e; omega
  ·exact gcN_ne (by omega) h0 this.1
def prG (f : Nat → Int) (n : Nat) : Int := if f (n - 1) < 0 then -(gcN f n : Int) else (gcN f n : Int)
def prC (f : Nat → Int) (n k : Nat) : Int := f k / prG f n
set_option maxRecDepth 100000 in
set_option maxHeartbeats 8000000 in
theorem prim_any (n : Nat) (f : Nat → Int) (p : Option Addr) (c : Nat) {e : Nat} (hn : n ≤ 1000) (he : e ≤ 100000000) (hf : ∀ k, Bn (f k) e) (hl : 0 < n → f (n - 1) ≠ 0) (w : World) (hX : RowF w p n f) :
  Calls Tryz.prog 31 #[.slice p n c] w (RetPol n (prC f n) w) := by
 have HX := lhd hX
 by_cases h0 : n = 0
 ·subst h0
  clear hX hl
  go_enter Tryz.func31, Tryz.ntmps31
  go_wp2_with fail
  go_ret
  exact ⟨none, 0, rfl, .inl rfl, Below.refl _ _⟩
 have hn0 : 0 < n := by omega
 have b0 : ((n : Int) == 0) = false := by rw [beq_eq_false_iff_ne]; omega
 have hl := hl hn0
 have Hl := lhd hl
 have Hf := lhd hf
 have Hgb := lhd (fun k => gcN_bn hf k)
 obtain ⟨n1, hn1⟩ : ∃ k, n - 1 = k := ⟨_, rfl⟩
 have n1e : (n : Int) - 1 = (n1 : Int) := by omega
 have n1l : (0 : Int) ≤ (n1 : Int) := by omega
 have n1u : (n1 : Int) < (n : Int) := by omega
 have n1n : n1 < n := by omega
 have Hn1 := lhd hn1
 have hmk := make_zs n (by omega)
 obtain ⟨pb, po, rfl, hpl, hpc⟩ := RowF.cells hX hn0
 have Hpc := lhd (fun W (hW : Below w.heap.size w W) k (hk : k < n) => show W.cell? ⟨pb, po + k * 2, none⟩ = some (.bool (canon (f k)).neg) ∧ W.cell? ⟨pb, po + k * 2 + 1, none⟩ = some (.string (canon (f k)).mag) from ⟨(hW.cell (p := ⟨pb, po + k * 2, none⟩) hpl).trans (hpc k hk).1, (hW.cell (p := ⟨pb, po + k * 2 + 1, none⟩) hpl).trans (hpc k hk).2⟩)
 clear hX hf hl hn1 hpc h0
 go_enter Tryz.func31, Tryz.ntmps31
 go_wp2_with fail
 have hal := (Below.refl w.heap.size w).alloc (Nat.le_refl _) (.cells #[.bool false, .string ⟨#[]⟩] 24)
 have hbx := BoxAt.new w (.bool false) (.string ⟨#[]⟩) 24
 obtain ⟨gb, hgb⟩ : ∃ k, w.heap.size = k := ⟨_, rfl⟩
 have Hgbe := lhd hgb
 have B0 := lhd hal
 rw [hgb] at hbx hpl ⊢
 have X0 := lhd (show BoxAt (w.alloc (.cells #[.bool false, .string ⟨#[]⟩] 24)) gb (.bool (canon ((gcN f 0 : Nat) : Int)).neg) (.string (canon ((gcN f 0 : Nat) : Int)).mag) from hbx)
 clear hal hbx hgb
 generalize w.alloc (.cells #[.bool false, .string ⟨#[]⟩] 24) = W0 at *
 go_loopw [14] (fun iv wr => ∃ i : Nat, i ≤ n ∧ iv = .int .i64 (i : Nat) ∧ Hid (BoxAt wr gb (.bool (canon ((gcN f i : Nat) : Int)).neg) (.string (canon ((gcN f i : Nat) : Int)).mag)) ∧ Hid (Below w.heap.size w wr)) (fun iv _ => n - (intOf iv).toNat)
 case atStart => exact ⟨0, by omega, by go_num, X0, B0⟩
 case round =>
  clear X0 B0
  obtain ⟨i, hi, rfl, HG, HB⟩ := hrel
  by_cases hil : i < n
  ·have i0 : (0 : Int) ≤ (i : Int) := by omega
   have i1 : (i : Int) < (n : Int) := by omega
   obtain ⟨a0, a1⟩ := Hpc.out wr HB.out i hil
   have hpw : pb < wr.heap.size := by have h1 := HB.out.size; rw [Hgbe.out] at h1; omega
   have hgd := fun W => gcdz_any (canon ((gcN f i : Nat) : Int)) (canon (f i)) ((show Bn ((gcN f i : Nat) : Int) e from Hgb.out i).size 100000000 (by omega)) ((Hf.out i).size 100000000 (by omega)) W
   simp only [absZ_canon, Int.natAbs_natCast] at hgd
   rw [show Nat.gcd (gcN f i) (f i).natAbs = gcN f (i + 1) from rfl] at hgd
   have HGd := lhd hgd
   obtain ⟨CX, hCX⟩ : ∃ z, canon (f i) = z := ⟨_, rfl⟩
   obtain ⟨CG, hCG⟩ : ∃ z, canon ((gcN f i : Nat) : Int) = z := ⟨_, rfl⟩
   obtain ⟨CN, hCN⟩ : ∃ z, canon ((gcN f (i + 1) : Nat) : Int) = z := ⟨_, rfl⟩
   rw [hCX] at a0 a1 HGd
   rw [hCG] at HG HGd
   rw [hCN] at HGd
   have HCN := lhd hCN
   have hgl : gb < wr.heap.size := HG.out.2.2.2.2
   clear hgd hCX hCG hCN
   go_upto_region 7 with (fail)
   clear a0 a1 hpw
   have hal := (Below.refl wr.heap.size wr).alloc (Nat.le_refl _) (.cells #[.bool CX.neg, .string CX.mag] 24)
   have hbx := BoxAt.new wr (.bool CX.neg) (.string CX.mag) 24
   have HG2 := lhd (HG.out.below hal hgl)
   have HB2 := lhd (HB.out.trans (hal.mono HB.out.size))
   obtain ⟨gx, hgx⟩ : ∃ k, wr.heap.size = k := ⟨_, rfl⟩
   rw [hgx] at hbx hgl ⊢
   clear hal HG HB hgx
   generalize wr.alloc (.cells #[.bool CX.neg, .string CX.mag] 24) = X at *
   obtain ⟨x0, x1, _, _, _⟩ := hbx
   obtain ⟨g0, g1, _, _, hgX⟩ := HG2.out
   go_wp2_with fail
   refine (HGd.out X).mono ?_
   rintro e4 w4 ⟨rfl, hb4⟩
   dsimp only
   have HG4 := lhd (HG2.out.below hb4 hgX)
   have HB4 := lhd (HB2.out.trans (hb4.mono HB2.out.size))
   clear hb4 HG2 HB2 x0 x1 g0 g1 HGd hgX
   obtain ⟨g0, g1, g2, g3, g4⟩ := HG4.out
   have hset := BoxAt.set2 HG4.out (.bool CN.neg) (.string CN.mag)
   have HS := lhd hset
   clear hset
   go_wp2_with fail
   go_roundw
   case rel => exact ⟨i + 1, by omega, by go_num, by rw [HCN.out]; exact HS, lhd ((HB4.out.setCell (p := ⟨gb, 0, none⟩) (by have := Hgbe.out; first | omega | (dsimp only; omega)) _).setCell (p := ⟨gb, 1, none⟩) (by have := Hgbe.out; first | omega | (dsimp only; omega)) _)⟩
   case measure => simp [intOf]; omega
  ·have i1 : ¬ (i : Int) < (n : Int) := by omega
   have hie : i = n := by omega
   rw [hie] at HG
   clear hie hi hil
   obtain ⟨a0, a1⟩ := Hpc.out wr HB.out n1 n1n
   obtain ⟨GN, hGN⟩ : ∃ k, gcN f n = k := ⟨_, rfl⟩
   have hGN0 : GN ≠ 0 := by rw [← hGN]; exact gcN_ne n1n (by rw [← Hn1.out]; exact Hl.out)
   have hGNb : GN ≤ 2 ^ e := by rw [← hGN]; exact Hgb.out n
   rw [hGN] at HG
   have HGN := lhd hGN
   have HGN0 := lhd hGN0
   have HGNb := lhd hGNb
   have Hdv := lhd (fun k (hk : k < n) => show ((GN : Nat) : Int) ∣ f k from by rw [← hGN]; exact gcN_dvd f n k hk)
   have hgl : gb < wr.heap.size := HG.out.2.2.2.2
   have hpw : pb < wr.heap.size := by omega
   clear hGN hGN0 hGNb
   by_cases hs : f n1 < 0
   ·have hneg : (canon (f n1)).neg = true := decide_eq_true hs
    rw [hneg] at a0
    have hGe : prG f n = -((GN : Nat) : Int) := by unfold prG; rw [Hn1.out, if_pos hs, HGN.out]
    have hng := negc_any ((GN : Nat) : Int) ((show Bn ((GN : Nat) : Int) e from HGNb.out).size 100000000 (by omega)) wr
    obtain ⟨CG, hCG⟩ : ∃ z, canon ((GN : Nat) : Int) = z := ⟨_, rfl⟩
    obtain ⟨CM, hCM⟩ : ∃ z, canon (-((GN : Nat) : Int)) = z := ⟨_, rfl⟩
    rw [hCG, hCM] at hng
    rw [hCG] at HG
    have HNg := lhd hng
    have HCM := lhd hCM
    clear hng hCG hCM hneg hs a1
    obtain ⟨g0, g1, _, _, _⟩ := HG.out
    go_wp2_with fail
    refine HNg.out.mono ?_
    rintro e4 w4 ⟨rfl, hb4⟩
    dsimp only
    have HG4 := lhd (HG.out.below hb4 hgl)
    have HB4 := lhd (HB.out.trans (hb4.mono HB.out.size))
    clear hb4 HG HB g0 g1 HNg a0
    obtain ⟨g0, g1, g2, g3, g4⟩ := HG4.out
    have hset := BoxAt.set2 HG4.out (.bool CM.neg) (.string CM.mag)
    have HG5 := lhd hset
    have HB5 := lhd ((HB4.out.setCell (p := ⟨gb, 0, none⟩) (by have := Hgbe.out; first | omega | (dsimp only; omega)) (.bool CM.neg)).setCell (p := ⟨gb, 1, none⟩) (by have := Hgbe.out; first | omega | (dsimp only; omega)) (.string CM.mag))
    have hG0 : prG f n ≠ 0 := by rw [hGe]; have := HGN0.out; omega
    have hGd : ∀ k, k < n → prG f n ∣ f k := fun k hk => by rw [hGe]; exact Int.neg_dvd.2 (Hdv.out k hk)
    have hGb : Bn (prG f n) e := by rw [hGe]; exact Bn.neg (show Bn ((GN : Nat) : Int) e from HGNb.out)
    have hCe : canon (prG f n) = CM := by rw [hGe]; exact HCM.out
    have HCe := lhd hCe
    clear hset hGe hCe
    go_upto_region 11 with (fail)
    clear g0 g1 g2 g3 g4 HG4 HB4
    generalize (w4.setCell ⟨gb, 0, none⟩ (.bool CM.neg)).setCell ⟨gb, 1, none⟩ (.string CM.mag) = V at *
    have hVs : gb < V.heap.size := HG5.out.2.2.2.2
    go_wp2_with fail
    have HDv := lhd (fun k (hk : k < n) W => divx_any (f k) (prG f n) hG0 (hGd k hk) ((Hf.out k).size 100000000 (by omega)) (hGb.size 100000000 (by omega)) W)
    rw [HCe.out] at HDv
    have hal := (Below.refl V.heap.size V).alloc (Nat.le_refl _) (.cells (madeCells #[.bool false, .string ⟨#[]⟩] (n * 2)) 24)
    have hz0 := made_zero V n 24
    obtain ⟨go, hgo⟩ : ∃ k, V.heap.size = k := ⟨_, rfl⟩
    have G0 := lhd (HG5.out.below hal hVs)
    have B0 := lhd (HB5.out.trans (hal.mono HB5.out.size))
    rw [hgo] at hz0 hVs ⊢
    have Z0 := lhd hz0
    clear hal hz0 hgo HG5 HB5 hG0 hGd hGb hmk
    generalize V.alloc (.cells (madeCells #[.bool false, .string ⟨#[]⟩] (n * 2)) 24) = W1 at *
    go_loopw [36] (fun iv wr => ∃ i : Nat, i ≤ n ∧ iv = .int .i64 (i : Nat) ∧ Hid (ZAt wr go n (fun k => if k < i then prC f n k else 0)) ∧ Hid (BoxAt wr gb (.bool CM.neg) (.string CM.mag)) ∧ Hid (Below w.heap.size w wr)) (fun iv _ => n - (intOf iv).toNat)
    case atStart => exact ⟨0, by omega, by go_num, lhd (Z0.out.congr fun k _ => by rw [if_neg (Nat.not_lt_zero k)]), G0, B0⟩
    case round =>
     clear Z0 G0 B0
     obtain ⟨i, hi, rfl, HZ, HG, HB⟩ := hrel
     by_cases hil : i < n
     ·have i0 : (0 : Int) ≤ (i : Int) := by omega
      have i1 : (i : Int) < (n : Int) := by omega
      obtain ⟨a0, a1⟩ := Hpc.out wr HB.out i hil
      have hzl : go < wr.heap.size := HZ.out.1
      have hgl2 : gb < wr.heap.size := HG.out.2.2.2.2
      have hpw2 : pb < wr.heap.size := by omega
      have hdv := HDv.out i hil
      rw [show f i / prG f n = prC f n i from rfl] at hdv
      obtain ⟨y, hy⟩ : ∃ y, prC f n i = y := ⟨_, rfl⟩
      rw [hy] at hdv
      obtain ⟨CX, hCX⟩ : ∃ z, canon (f i) = z := ⟨_, rfl⟩
      obtain ⟨CY, hCY⟩ : ∃ z, canon y = z := ⟨_, rfl⟩
      rw [hCX, hCY] at hdv
      rw [hCX] at a0 a1
      obtain ⟨RZ, hRZ⟩ : ∃ z, remZ CX CM = z := ⟨_, rfl⟩
      rw [hRZ] at hdv
      have HD2 := lhd hdv
      have Hy := lhd hy
      have HCY := lhd hCY
      clear hdv hy hCX hCY hRZ
      go_upto_region 15 with (fail)
      clear a0 a1 hpw2
      have hal := (Below.refl wr.heap.size wr).alloc (Nat.le_refl _) (.cells #[.bool CX.neg, .string CX.mag] 24)
      have hbx := BoxAt.new wr (.bool CX.neg) (.string CX.mag) 24
      have HZ2 := lhd (HZ.out.below hal hzl)
      have HG2 := lhd (HG.out.below hal hgl2)
      have HB2 := lhd (HB.out.trans (hal.mono HB.out.size))
      obtain ⟨gx, hgx⟩ : ∃ k, wr.heap.size = k := ⟨_, rfl⟩
      rw [hgx] at hbx hzl hgl2 ⊢
      clear hal HZ HG HB hgx
      generalize wr.alloc (.cells #[.bool CX.neg, .string CX.mag] 24) = X at *
      obtain ⟨x0, x1, _, _, _⟩ := hbx
      obtain ⟨g0, g1, _, _, hgX⟩ := HG2.out
      go_wp2_with fail
      refine (HD2.out X).mono ?_
      rintro e4 w4 ⟨rfl, hb4⟩
      dsimp only
      have HZ4 := lhd (HZ2.out.below hb4 HZ2.out.1)
      have HG4 := lhd (HG2.out.below hb4 hgX)
      have HB4 := lhd (HB2.out.trans (hb4.mono HB2.out.size))
      clear hb4 HZ2 HG2 HB2 x0 x1 g0 g1 HD2 hgX
      obtain ⟨⟨o0, o1⟩, o2, o3⟩ := HZ4.out.2 i hil
      have HS := HZ4.out.set (k := i) y
      rw [HCY.out] at HS
      have HS2 := lhd (HS.congr (h := fun k => if k < i + 1 then prC f n k else 0) fun k _ => by
       by_cases e : k = i
       ·rw [if_pos e, e, if_pos (by omega), Hy.out]
       ·rw [if_neg e]
        by_cases e2 : k < i
        ·rw [if_pos e2, if_pos (by omega)]
        ·rw [if_neg e2, if_neg (by omega)])
      have HG9 := lhd ((HG4.out.far ⟨go, i * 2, none⟩ (.bool CY.neg) (by dsimp only; omega)).far ⟨go, i * 2 + 1, none⟩ (.string CY.mag) (by dsimp only; omega))
      clear HS
      go_wp2_with fail
      go_roundw
      case rel => exact ⟨i + 1, by omega, by go_num, HS2, HG9, lhd ((HB4.out.setCell (p := ⟨go, i * 2, none⟩) (by have := Hgbe.out; first | omega | (dsimp only; omega)) _).setCell (p := ⟨go, i * 2 + 1, none⟩) (by have := Hgbe.out; first | omega | (dsimp only; omega)) _)⟩
      case measure => simp [intOf]; omega
     ·have i1 : ¬ (i : Int) < (n : Int) := by omega
      have hie : i = n := by omega
      rw [hie] at HZ
      have HZ9 := lhd (HZ.out.congr (h := prC f n) fun k hk => if_pos hk)
      clear hie HZ
      go_wp2_with fail
      go_ret
      exact ⟨some ⟨go, 0, none⟩, n, rfl, HZ9.out.row, HB.out⟩
   ·have hneg : (canon (f n1)).neg = false := decide_eq_false hs
    rw [hneg] at a0
    have hGe : prG f n = ((GN : Nat) : Int) := by unfold prG; rw [Hn1.out, if_neg hs, HGN.out]
    obtain ⟨CM, hCM⟩ : ∃ z, canon ((GN : Nat) : Int) = z := ⟨_, rfl⟩
    rw [hCM] at HG
    have hG0 : prG f n ≠ 0 := by rw [hGe]; have := HGN0.out; omega
    have hGd : ∀ k, k < n → prG f n ∣ f k := fun k hk => by rw [hGe]; exact Hdv.out k hk
    have hGb : Bn (prG f n) e := by rw [hGe]; exact (show Bn ((GN : Nat) : Int) e from HGNb.out)
    have hCe : canon (prG f n) = CM := by rw [hGe]; exact hCM
    have HCe := lhd hCe
    clear hGe hCM hneg hs a1 hCe
    obtain ⟨V, hV⟩ : ∃ Z, wr = Z := ⟨_, rfl⟩
    rw [hV] at HG HB hgl hpw a0 ⊢
    have HG5 := HG
    have HB5 := HB
    have hVs : gb < V.heap.size := hgl
    clear hV HG HB
    go_wp2_with fail
    clear a0
    have HDv := lhd (fun k (hk : k < n) W => divx_any (f k) (prG f n) hG0 (hGd k hk) ((Hf.out k).size 100000000 (by omega)) (hGb.size 100000000 (by omega)) W)
    rw [HCe.out] at HDv
    have hal := (Below.refl V.heap.size V).alloc (Nat.le_refl _) (.cells (madeCells #[.bool false, .string ⟨#[]⟩] (n * 2)) 24)
    have hz0 := made_zero V n 24
    obtain ⟨go, hgo⟩ : ∃ k, V.heap.size = k := ⟨_, rfl⟩
    have G0 := lhd (HG5.out.below hal hVs)
    have B0 := lhd (HB5.out.trans (hal.mono HB5.out.size))
    rw [hgo] at hz0 hVs ⊢
    have Z0 := lhd hz0
    clear hal hz0 hgo HG5 HB5 hG0 hGd hGb hmk
    generalize V.alloc (.cells (madeCells #[.bool false, .string ⟨#[]⟩] (n * 2)) 24) = W1 at *
    go_loopw [36] (fun iv wr => ∃ i : Nat, i ≤ n ∧ iv = .int .i64 (i : Nat) ∧ Hid (ZAt wr go n (fun k => if k < i then prC f n k else 0)) ∧ Hid (BoxAt wr gb (.bool CM.neg) (.string CM.mag)) ∧ Hid (Below w.heap.size w wr)) (fun iv _ => n - (intOf iv).toNat)
    case atStart => exact ⟨0, by omega, by go_num, lhd (Z0.out.congr fun k _ => by rw [if_neg (Nat.not_lt_zero k)]), G0, B0⟩
    case round =>
     clear Z0 G0 B0
     obtain ⟨i, hi, rfl, HZ, HG, HB⟩ := hrel
     by_cases hil : i < n
     ·have i0 : (0 : Int) ≤ (i : Int) := by omega
      have i1 : (i : Int) < (n : Int) := by omega
      obtain ⟨a0, a1⟩ := Hpc.out wr HB.out i hil
      have hzl : go < wr.heap.size := HZ.out.1
      have hgl2 : gb < wr.heap.size := HG.out.2.2.2.2
      have hpw2 : pb < wr.heap.size := by omega
      have hdv := HDv.out i hil
      rw [show f i / prG f n = prC f n i from rfl] at hdv
      obtain ⟨y, hy⟩ : ∃ y, prC f n i = y := ⟨_, rfl⟩
      rw [hy] at hdv
      obtain ⟨CX, hCX⟩ : ∃ z, canon (f i) = z := ⟨_, rfl⟩
      obtain ⟨CY, hCY⟩ : ∃ z, canon y = z := ⟨_, rfl⟩
      rw [hCX, hCY] at hdv
      rw [hCX] at a0 a1
      obtain ⟨RZ, hRZ⟩ : ∃ z, remZ CX CM = z := ⟨_, rfl⟩
      rw [hRZ] at hdv
      have HD2 := lhd hdv
      have Hy := lhd hy
      have HCY := lhd hCY
      clear hdv hy hCX hCY hRZ
      go_upto_region 15 with (fail)
      clear a0 a1 hpw2
      have hal := (Below.refl wr.heap.size wr).alloc (Nat.le_refl _) (.cells #[.bool CX.neg, .string CX.mag] 24)
      have hbx := BoxAt.new wr (.bool CX.neg) (.string CX.mag) 24
      have HZ2 := lhd (HZ.out.below hal hzl)
      have HG2 := lhd (HG.out.below hal hgl2)
      have HB2 := lhd (HB.out.trans (hal.mono HB.out.size))
      obtain ⟨gx, hgx⟩ : ∃ k, wr.heap.size = k := ⟨_, rfl⟩
      rw [hgx] at hbx hzl hgl2 ⊢
      clear hal HZ HG HB hgx
      generalize wr.alloc (.cells #[.bool CX.neg, .string CX.mag] 24) = X at *
      obtain ⟨x0, x1, _, _, _⟩ := hbx
      obtain ⟨g0, g1, _, _, hgX⟩ := HG2.out
      go_wp2_with fail
      refine (HD2.out X).mono ?_
      rintro e4 w4 ⟨rfl, hb4⟩
      dsimp only
      have HZ4 := lhd (HZ2.out.below hb4 HZ2.out.1)
      have HG4 := lhd (HG2.out.below hb4 hgX)
      have HB4 := lhd (HB2.out.trans (hb4.mono HB2.out.size))
      clear hb4 HZ2 HG2 HB2 x0 x1 g0 g1 HD2 hgX
      obtain ⟨⟨o0, o1⟩, o2, o3⟩ := HZ4.out.2 i hil
      have HS := HZ4.out.set (k := i) y
      rw [HCY.out] at HS
      have HS2 := lhd (HS.congr (h := fun k => if k < i + 1 then prC f n k else 0) fun k _ => by
       by_cases e : k = i
       ·rw [if_pos e, e, if_pos (by omega), Hy.out]
       ·rw [if_neg e]
        by_cases e2 : k < i
        ·rw [if_pos e2, if_pos (by omega)]
        ·rw [if_neg e2, if_neg (by omega)])
      have HG9 := lhd ((HG4.out.far ⟨go, i * 2, none⟩ (.bool CY.neg) (by dsimp only; omega)).far ⟨go, i * 2 + 1, none⟩ (.string CY.mag) (by dsimp only; omega))
      clear HS
      go_wp2_with fail
      go_roundw
      case rel => exact ⟨i + 1, by omega, by go_num, HS2, HG9, lhd ((HB4.out.setCell (p := ⟨go, i * 2, none⟩) (by have := Hgbe.out; first | omega | (dsimp only; omega)) _).setCell (p := ⟨go, i * 2 + 1, none⟩) (by have := Hgbe.out; first | omega | (dsimp only; omega)) _)⟩
      case measure => simp [intOf]; omega
     ·have i1 : ¬ (i : Int) < (n : Int) := by omega
      have hie : i = n := by omega
      rw [hie] at HZ
      have HZ9 := lhd (HZ.out.congr (h := prC f n) fun k hk => if_pos hk)
      clear hie HZ
      go_wp2_with fail
      go_ret
      exact ⟨some ⟨go, 0, none⟩, n, rfl, HZ9.out.row, HB.out⟩
end Go.Proofs.YtmbamcpndbimaaaGreatDoor
