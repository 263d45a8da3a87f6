/- polynomial.combine, Add and Sub: the walks. -/
import Derived.Test.YteoemijgdcpopaaDoorE9
import Derived.Test.YteoemijgdcpopaaDoorE14
namespace Go.Proofs.YteoemijgdcpopaaDoor
open Go.RowKit

/-- Beyond its n coefficients a polynomial has zeros. -/
def zx (Z : Nat → ZI) (n k : Nat) : ZI := if k < n then Z k else ⟨false, ⟨#[]⟩⟩
/-- The coefficients of a polynomial. -/
def cf (Z : Nat → ZI) (n k : Nat) : Int := if k < n then valZ (Z k) else 0
theorem valZ_zx (Z : Nat → ZI) (n k : Nat) : valZ (zx Z n k) = cf Z n k := by unfold zx cf; split <;> rfl
def mxN (a b : Nat) : Nat := if b > a then b else a
theorem mxN_ge (a b : Nat) : a ≤ mxN a b ∧ b ≤ mxN a b := by unfold mxN; split <;> omega
theorem mxN_or (a b : Nat) : mxN a b = a ∨ mxN a b = b := by unfold mxN; split <;> simp
theorem ymax2 {P : Program} (ts : Array TypeId) (t : TypeId) (w : World) (a b : Nat) : (Builtin.max_ ts t #[.int .i64 (a : Int), .int .i64 (b : Int)]).run P w = .ok (.int .i64 ((mxN a b : Nat) : Int)) w := by
  have h : (Builtin.max_ ts t #[.int .i64 (a : Int), .int .i64 (b : Int)]).run P w = .ok (.int .i64 (if (b : Int) > (a : Int) then (b : Int) else (a : Int))) w := rfl
  rw [h]
  unfold mxN
  by_cases hb : b > a
  · rw [if_pos hb, if_pos (by omega)]
  · rw [if_neg hb, if_neg (by omega)]
theorem GRow.cells {w : World} {p : Option Addr} {n : Nat} {Z : Nat → ZI} (h : GRow w p n Z) {k : Nat} (hk : k < n) : ∃ b off, p = some ⟨b, off, none⟩ ∧ b < w.heap.size ∧ ∀ i, i < n → w.cell? ⟨b, off + i * 2, none⟩ = some (.bool (Z i).neg) ∧ w.cell? ⟨b, off + i * 2 + 1, none⟩ = some (.string (Z i).mag) := by
  rcases h with h | ⟨b, off, rfl, hl, hc⟩
  · omega
  · exact ⟨b, off, rfl, hl, fun k hk => ⟨by have := hc k hk 0 (by omega); simpa [zg] using this, by have := hc k hk 1 (by omega); simpa [zg] using this⟩⟩
theorem RowF.g {w : World} {p : Option Addr} {n : Nat} {f : Nat → Int} (h : RowF w p n f) : GRow w p n (fun k => canon (f k)) := h
set_option maxRecDepth 100000 in
set_option maxHeartbeats 8000000 in
theorem combineAdd_any (n m : Nat) (Z Y : Nat → ZI) (p q : Option Addr) (c d : Nat) (hn : n ≤ 1000000) (hm : m ≤ 1000000) (hz : ∀ k, k < n → (Z k).mag.size ≤ 100000000) (hy : ∀ k, k < m → (Y k).mag.size ≤ 100000000)
    (hF : ∀ (x y : ZI) (W : World), x.mag.size ≤ 100000000 → y.mag.size ≤ 100000000 → Calls Tryd.prog 52 #[.agg #[.bool x.neg, .string x.mag], .agg #[.bool y.neg, .string y.mag]] W (RetZ (canon (valZ x + valZ y)) W))
    (hs : ∀ k, k < mxN n m → (canon (cf Z n k + cf Y m k)).mag.size ≤ 100000000) (w : World) (hX : GRow w p n Z) (hY : GRow w q m Y) :
    Calls Tryd.prog 45 #[.slice p n c, .slice q m d, .func (.func 52) #[] #[]] w (RetPol (dgN (fun k => cf Z n k + cf Y m k) (mxN n m)) (fun k => cf Z n k + cf Y m k) w) := by
  have HX := Lib.hid hX
  have HY := Lib.hid hY
  have Hs := Lib.hid hs
  obtain ⟨N, hN⟩ : ∃ N, mxN n m = N := ⟨_, rfl⟩
  have hmx := fun (P : Program) ts t w => @ymax2 P ts t w n m
  obtain ⟨hn1, hn2⟩ := mxN_ge n m
  have hn3 := mxN_or n m
  rw [hN] at hmx hn1 hn2 hn3 Hs ⊢
  have hN6 : N ≤ 1000000 := by omega
  have hmk := make_zs N hN6
  have HF := Lib.hid (fun i W => hF (zx Z n i) (zx Y m i) W (by unfold zx; split; exact hz _ (by assumption); decide) (by unfold zx; split; exact hy _ (by assumption); decide))
  simp only [valZ_zx] at HF
  obtain ⟨g, hg⟩ : ∃ g : Nat → Int, (fun k => cf Z n k + cf Y m k) = g := ⟨_, rfl⟩
  have hg2 : ∀ k, cf Z n k + cf Y m k = g k := fun k => by rw [← hg]
  simp only [hg2] at HF Hs
  rw [hg]
  have HZx := Lib.hid (show ∀ k, k < n → zx Z n k = Z k from fun k hk => if_pos hk)
  have HZn := Lib.hid (show ∀ k, ¬ k < n → zx Z n k = ⟨false, ⟨#[]⟩⟩ from fun k hk => if_neg hk)
  have HYx := Lib.hid (show ∀ k, k < m → zx Y m k = Y k from fun k hk => if_pos hk)
  have HYn := Lib.hid (show ∀ k, ¬ k < m → zx Y m k = ⟨false, ⟨#[]⟩⟩ from fun k hk => if_neg hk)
  clear hX hY hs hz hy hF hg hg2 hn3 hN
  go_enter Tryd.func45, Tryd.ntmps45
  go_wp2_with fail
  have hz0 := made_zero w N 35
  have hal := (Below.refl w.heap.size w).alloc (Nat.le_refl _) (.cells (madeCells #[.bool false, .string ⟨#[]⟩] (N * 2)) 35)
  obtain ⟨go, hgo⟩ : ∃ g, w.heap.size = g := ⟨_, rfl⟩
  have Hgo := Lib.hid hgo
  rw [hgo] at hz0 ⊢
  have H0 := Lib.hid hz0
  have B0 := Lib.hid hal
  clear hz0 hal hgo hmx hmk
  generalize w.alloc (.cells (madeCells #[.bool false, .string ⟨#[]⟩] (N * 2)) 35) = W0 at *
  go_loopw [19] (fun iv wr => ∃ i : Nat, i ≤ N ∧ iv = .int .i64 (i : Nat) ∧ Hid (ZAt wr go N (fun k => if k < i then g k else 0)) ∧ Hid (Below w.heap.size w wr)) (fun iv _ => N - (intOf iv).toNat)
  case atStart => exact ⟨0, by omega, by go_num, Lib.hid (H0.out.congr fun k _ => by rw [if_neg (by omega)]), B0⟩
  case round =>
    clear H0 B0
    obtain ⟨i, hi, rfl, HO, HB⟩ := hrel
    by_cases hil : i < N
    · have i0 : (0 : Int) ≤ (i : Int) := by omega
      have i1 : (i : Int) < (N : Int) := by omega
      have Hfi := Lib.hid (HF.out i)
      have Hzx := Lib.hid (HZx.out i)
      have Hzn := Lib.hid (HZn.out i)
      have Hyx := Lib.hid (HYx.out i)
      have Hyn := Lib.hid (HYn.out i)
      obtain ⟨z1, hz1⟩ : ∃ z, zx Z n i = z := ⟨_, rfl⟩
      obtain ⟨z2, hz2⟩ : ∃ z, zx Y m i = z := ⟨_, rfl⟩
      rw [hz1, hz2] at Hfi
      rw [hz1] at Hzx Hzn
      rw [hz2] at Hyx Hyn
      obtain ⟨y, hy⟩ : ∃ y, g i = y := ⟨_, rfl⟩
      rw [hy] at Hfi
      have Hy := Lib.hid hy
      obtain ⟨CY, hCY⟩ : ∃ z, canon y = z := ⟨_, rfl⟩
      rw [hCY] at Hfi
      have HCY := Lib.hid hCY
      clear hz1 hz2 hy hCY
      have hgl : go < wr.heap.size := HO.out.1
      by_cases hin : i < n
      · by_cases him : i < m
        · have j1 : (i : Int) < (n : Int) := by omega
          obtain ⟨pb, po, rfl, hpl, hpc⟩ := GRow.cells HX.out hin
          obtain ⟨a0, a1⟩ := hpc i hin
          have a0 := (HB.out.cell (p := ⟨pb, po + i * 2, none⟩) hpl).trans a0
          have a1 := (HB.out.cell (p := ⟨pb, po + i * 2 + 1, none⟩) hpl).trans a1
          rw [← Hzx.out hin] at a0 a1
          have hpw := Nat.lt_of_lt_of_le hpl HB.out.size
          clear hpc hpl
          have j2 : (i : Int) < (m : Int) := by omega
          obtain ⟨qb, qo, rfl, hql, hqc⟩ := GRow.cells HY.out him
          obtain ⟨b0, b1⟩ := hqc i him
          have b0 := (HB.out.cell (p := ⟨qb, qo + i * 2, none⟩) hql).trans b0
          have b1 := (HB.out.cell (p := ⟨qb, qo + i * 2 + 1, none⟩) hql).trans b1
          rw [← Hyx.out him] at b0 b1
          have hqw := Nat.lt_of_lt_of_le hql HB.out.size
          clear hqc hql
          go_upto_region 10 with (fail)
          clear a0 a1
          clear b0 b1
          obtain ⟨gx, hgx⟩ : ∃ k, wr.heap.size = k := ⟨_, rfl⟩
          have hal := ((Below.refl wr.heap.size wr).alloc (Nat.le_refl _) (.cells #[.bool z1.neg, .string z1.mag] 35)).alloc (by simp) (.cells #[.bool z2.neg, .string z2.mag] 35)
          have hb1 := (BoxAt.new wr (.bool z1.neg) (.string z1.mag) 35).alloc (.cells #[.bool z2.neg, .string z2.mag] 35)
          have hb2 := BoxAt.new (wr.alloc (.cells #[.bool z1.neg, .string z1.mag] 35)) (.bool z2.neg) (.string z2.mag) 35
          rw [show (wr.alloc (.cells #[.bool z1.neg, .string z1.mag] 35)).heap.size = wr.heap.size + 1 from by simp] at hb2
          have HO2 := Lib.hid (HO.out.below hal hgl)
          have HB2 := Lib.hid (HB.out.trans (hal.mono HB.out.size))
          rw [hgx] at hb1 hb2 ⊢
          clear hal HO HB hgx hgl
          generalize (wr.alloc (.cells #[.bool z1.neg, .string z1.mag] 35)).alloc (.cells #[.bool z2.neg, .string z2.mag] 35) = X at *
          obtain ⟨x0, x1, _, _, _⟩ := hb1
          obtain ⟨y0, y1, _, _, _⟩ := hb2
          go_wp2_with fail
          refine (Hfi.out X).mono ?_
          rintro e w4 ⟨rfl, hb4⟩
          dsimp only
          have HO4 := Lib.hid (HO2.out.below hb4 HO2.out.1)
          have HB4 := Lib.hid (HB2.out.trans (hb4.mono HB2.out.size))
          clear hb4 HO2 HB2 x0 x1 y0 y1 Hfi
          obtain ⟨⟨o0, o1⟩, o2, o3⟩ := HO4.out.2 i hil
          have HS := HO4.out.set (k := i) y
          rw [HCY.out] at HS
          have HS2 := Lib.hid (HS.congr (h := fun k => if k < i + 1 then g k else 0) fun k _ => by
            by_cases e : k = i
            · rw [if_pos e, e, if_pos (by omega), Hy.out]
            · rw [if_neg e]
              by_cases e2 : k < i
              · rw [if_pos e2, if_pos (by omega)]
              · rw [if_neg e2, if_neg (by omega)])
          clear HS
          go_wp2_with fail
          go_roundw
          case rel => exact ⟨i + 1, by omega, by go_num, HS2, Lib.hid ((HB4.out.setCell (p := ⟨go, i * 2, none⟩) (by have := Hgo.out; first | omega | (dsimp only; omega)) _).setCell (p := ⟨go, i * 2 + 1, none⟩) (by have := Hgo.out; first | omega | (dsimp only; omega)) _)⟩
          case measure => simp [intOf]; omega
        · have j1 : (i : Int) < (n : Int) := by omega
          obtain ⟨pb, po, rfl, hpl, hpc⟩ := GRow.cells HX.out hin
          obtain ⟨a0, a1⟩ := hpc i hin
          have a0 := (HB.out.cell (p := ⟨pb, po + i * 2, none⟩) hpl).trans a0
          have a1 := (HB.out.cell (p := ⟨pb, po + i * 2 + 1, none⟩) hpl).trans a1
          rw [← Hzx.out hin] at a0 a1
          have hpw := Nat.lt_of_lt_of_le hpl HB.out.size
          clear hpc hpl
          have j2 : ¬ (i : Int) < (m : Int) := by omega
          have e2 := Hyn.out him
          subst e2
          go_upto_region 10 with (fail)
          clear a0 a1
          obtain ⟨gx, hgx⟩ : ∃ k, wr.heap.size = k := ⟨_, rfl⟩
          have hal := ((Below.refl wr.heap.size wr).alloc (Nat.le_refl _) (.cells #[.bool z1.neg, .string z1.mag] 35)).alloc (by simp) (.cells #[.bool false, .string ⟨#[]⟩] 35)
          have hb1 := (BoxAt.new wr (.bool z1.neg) (.string z1.mag) 35).alloc (.cells #[.bool false, .string ⟨#[]⟩] 35)
          have hb2 := BoxAt.new (wr.alloc (.cells #[.bool z1.neg, .string z1.mag] 35)) (.bool false) (.string ⟨#[]⟩) 35
          rw [show (wr.alloc (.cells #[.bool z1.neg, .string z1.mag] 35)).heap.size = wr.heap.size + 1 from by simp] at hb2
          have HO2 := Lib.hid (HO.out.below hal hgl)
          have HB2 := Lib.hid (HB.out.trans (hal.mono HB.out.size))
          rw [hgx] at hb1 hb2 ⊢
          clear hal HO HB hgx hgl
          generalize (wr.alloc (.cells #[.bool z1.neg, .string z1.mag] 35)).alloc (.cells #[.bool false, .string ⟨#[]⟩] 35) = X at *
          obtain ⟨x0, x1, _, _, _⟩ := hb1
          obtain ⟨y0, y1, _, _, _⟩ := hb2
          go_wp2_with fail
          refine (Hfi.out X).mono ?_
          rintro e w4 ⟨rfl, hb4⟩
          dsimp only
          have HO4 := Lib.hid (HO2.out.below hb4 HO2.out.1)
          have HB4 := Lib.hid (HB2.out.trans (hb4.mono HB2.out.size))
          clear hb4 HO2 HB2 x0 x1 y0 y1 Hfi
          obtain ⟨⟨o0, o1⟩, o2, o3⟩ := HO4.out.2 i hil
          have HS := HO4.out.set (k := i) y
          rw [HCY.out] at HS
          have HS2 := Lib.hid (HS.congr (h := fun k => if k < i + 1 then g k else 0) fun k _ => by
            by_cases e : k = i
            · rw [if_pos e, e, if_pos (by omega), Hy.out]
            · rw [if_neg e]
              by_cases e2 : k < i
              · rw [if_pos e2, if_pos (by omega)]
              · rw [if_neg e2, if_neg (by omega)])
          clear HS
          go_wp2_with fail
          go_roundw
          case rel => exact ⟨i + 1, by omega, by go_num, HS2, Lib.hid ((HB4.out.setCell (p := ⟨go, i * 2, none⟩) (by have := Hgo.out; first | omega | (dsimp only; omega)) _).setCell (p := ⟨go, i * 2 + 1, none⟩) (by have := Hgo.out; first | omega | (dsimp only; omega)) _)⟩
          case measure => simp [intOf]; omega
      · by_cases him : i < m
        · have j1 : ¬ (i : Int) < (n : Int) := by omega
          have e1 := Hzn.out hin
          subst e1
          have j2 : (i : Int) < (m : Int) := by omega
          obtain ⟨qb, qo, rfl, hql, hqc⟩ := GRow.cells HY.out him
          obtain ⟨b0, b1⟩ := hqc i him
          have b0 := (HB.out.cell (p := ⟨qb, qo + i * 2, none⟩) hql).trans b0
          have b1 := (HB.out.cell (p := ⟨qb, qo + i * 2 + 1, none⟩) hql).trans b1
          rw [← Hyx.out him] at b0 b1
          have hqw := Nat.lt_of_lt_of_le hql HB.out.size
          clear hqc hql
          go_upto_region 10 with (fail)
          clear b0 b1
          obtain ⟨gx, hgx⟩ : ∃ k, wr.heap.size = k := ⟨_, rfl⟩
          have hal := ((Below.refl wr.heap.size wr).alloc (Nat.le_refl _) (.cells #[.bool false, .string ⟨#[]⟩] 35)).alloc (by simp) (.cells #[.bool z2.neg, .string z2.mag] 35)
          have hb1 := (BoxAt.new wr (.bool false) (.string ⟨#[]⟩) 35).alloc (.cells #[.bool z2.neg, .string z2.mag] 35)
          have hb2 := BoxAt.new (wr.alloc (.cells #[.bool false, .string ⟨#[]⟩] 35)) (.bool z2.neg) (.string z2.mag) 35
          rw [show (wr.alloc (.cells #[.bool false, .string ⟨#[]⟩] 35)).heap.size = wr.heap.size + 1 from by simp] at hb2
          have HO2 := Lib.hid (HO.out.below hal hgl)
          have HB2 := Lib.hid (HB.out.trans (hal.mono HB.out.size))
          rw [hgx] at hb1 hb2 ⊢
          clear hal HO HB hgx hgl
          generalize (wr.alloc (.cells #[.bool false, .string ⟨#[]⟩] 35)).alloc (.cells #[.bool z2.neg, .string z2.mag] 35) = X at *
          obtain ⟨x0, x1, _, _, _⟩ := hb1
          obtain ⟨y0, y1, _, _, _⟩ := hb2
          go_wp2_with fail
          refine (Hfi.out X).mono ?_
          rintro e w4 ⟨rfl, hb4⟩
          dsimp only
          have HO4 := Lib.hid (HO2.out.below hb4 HO2.out.1)
          have HB4 := Lib.hid (HB2.out.trans (hb4.mono HB2.out.size))
          clear hb4 HO2 HB2 x0 x1 y0 y1 Hfi
          obtain ⟨⟨o0, o1⟩, o2, o3⟩ := HO4.out.2 i hil
          have HS := HO4.out.set (k := i) y
          rw [HCY.out] at HS
          have HS2 := Lib.hid (HS.congr (h := fun k => if k < i + 1 then g k else 0) fun k _ => by
            by_cases e : k = i
            · rw [if_pos e, e, if_pos (by omega), Hy.out]
            · rw [if_neg e]
              by_cases e2 : k < i
              · rw [if_pos e2, if_pos (by omega)]
              · rw [if_neg e2, if_neg (by omega)])
          clear HS
          go_wp2_with fail
          go_roundw
          case rel => exact ⟨i + 1, by omega, by go_num, HS2, Lib.hid ((HB4.out.setCell (p := ⟨go, i * 2, none⟩) (by have := Hgo.out; first | omega | (dsimp only; omega)) _).setCell (p := ⟨go, i * 2 + 1, none⟩) (by have := Hgo.out; first | omega | (dsimp only; omega)) _)⟩
          case measure => simp [intOf]; omega
        · have j1 : ¬ (i : Int) < (n : Int) := by omega
          have e1 := Hzn.out hin
          subst e1
          have j2 : ¬ (i : Int) < (m : Int) := by omega
          have e2 := Hyn.out him
          subst e2
          go_upto_region 10 with (fail)
          obtain ⟨gx, hgx⟩ : ∃ k, wr.heap.size = k := ⟨_, rfl⟩
          have hal := ((Below.refl wr.heap.size wr).alloc (Nat.le_refl _) (.cells #[.bool false, .string ⟨#[]⟩] 35)).alloc (by simp) (.cells #[.bool false, .string ⟨#[]⟩] 35)
          have hb1 := (BoxAt.new wr (.bool false) (.string ⟨#[]⟩) 35).alloc (.cells #[.bool false, .string ⟨#[]⟩] 35)
          have hb2 := BoxAt.new (wr.alloc (.cells #[.bool false, .string ⟨#[]⟩] 35)) (.bool false) (.string ⟨#[]⟩) 35
          rw [show (wr.alloc (.cells #[.bool false, .string ⟨#[]⟩] 35)).heap.size = wr.heap.size + 1 from by simp] at hb2
          have HO2 := Lib.hid (HO.out.below hal hgl)
          have HB2 := Lib.hid (HB.out.trans (hal.mono HB.out.size))
          rw [hgx] at hb1 hb2 ⊢
          clear hal HO HB hgx hgl
          generalize (wr.alloc (.cells #[.bool false, .string ⟨#[]⟩] 35)).alloc (.cells #[.bool false, .string ⟨#[]⟩] 35) = X at *
          obtain ⟨x0, x1, _, _, _⟩ := hb1
          obtain ⟨y0, y1, _, _, _⟩ := hb2
          go_wp2_with fail
          refine (Hfi.out X).mono ?_
          rintro e w4 ⟨rfl, hb4⟩
          dsimp only
          have HO4 := Lib.hid (HO2.out.below hb4 HO2.out.1)
          have HB4 := Lib.hid (HB2.out.trans (hb4.mono HB2.out.size))
          clear hb4 HO2 HB2 x0 x1 y0 y1 Hfi
          obtain ⟨⟨o0, o1⟩, o2, o3⟩ := HO4.out.2 i hil
          have HS := HO4.out.set (k := i) y
          rw [HCY.out] at HS
          have HS2 := Lib.hid (HS.congr (h := fun k => if k < i + 1 then g k else 0) fun k _ => by
            by_cases e : k = i
            · rw [if_pos e, e, if_pos (by omega), Hy.out]
            · rw [if_neg e]
              by_cases e2 : k < i
              · rw [if_pos e2, if_pos (by omega)]
              · rw [if_neg e2, if_neg (by omega)])
          clear HS
          go_wp2_with fail
          go_roundw
          case rel => exact ⟨i + 1, by omega, by go_num, HS2, Lib.hid ((HB4.out.setCell (p := ⟨go, i * 2, none⟩) (by have := Hgo.out; first | omega | (dsimp only; omega)) _).setCell (p := ⟨go, i * 2 + 1, none⟩) (by have := Hgo.out; first | omega | (dsimp only; omega)) _)⟩
          case measure => simp [intOf]; omega
    · have i1 : ¬ (i : Int) < (N : Int) := by omega
      have hie : i = N := by omega
      rw [hie] at HO
      have hrow := (HO.out.congr (h := g) fun k hk => if_pos hk).row
      have hca := Canonical_any N (fun k => canon (g k)) (some ⟨go, 0, none⟩) N hN6 (fun k hk => Hs.out k hk) wr hrow.g
      simp only [valZ_canon] at hca
      have HCa := Lib.hid hca
      clear hca hrow hie HO
      go_wp2_with fail
      refine HCa.out.mono ?_
      rintro e w5 ⟨q5, c5, rfl, hr5, hb5⟩
      dsimp only
      have Hr5 := Lib.hid hr5
      have Hb5 := Lib.hid (HB.out.trans (hb5.mono HB.out.size))
      clear hr5 hb5 HCa
      go_wp2_with fail
      go_ret
      exact ⟨q5, c5, rfl, Hr5.out, Hb5.out⟩
set_option maxRecDepth 100000 in
set_option maxHeartbeats 8000000 in
theorem combineSub_any (n m : Nat) (Z Y : Nat → ZI) (p q : Option Addr) (c d : Nat) (hn : n ≤ 1000000) (hm : m ≤ 1000000) (hz : ∀ k, k < n → (Z k).mag.size ≤ 100000000) (hy : ∀ k, k < m → (Y k).mag.size ≤ 100000000)
    (hF : ∀ (x y : ZI) (W : World), x.mag.size ≤ 100000000 → y.mag.size ≤ 100000000 → Calls Tryd.prog 46 #[.agg #[.bool x.neg, .string x.mag], .agg #[.bool y.neg, .string y.mag]] W (RetZ (canon (valZ x - valZ y)) W))
    (hs : ∀ k, k < mxN n m → (canon (cf Z n k - cf Y m k)).mag.size ≤ 100000000) (w : World) (hX : GRow w p n Z) (hY : GRow w q m Y) :
    Calls Tryd.prog 45 #[.slice p n c, .slice q m d, .func (.func 46) #[] #[]] w (RetPol (dgN (fun k => cf Z n k - cf Y m k) (mxN n m)) (fun k => cf Z n k - cf Y m k) w) := by
  have HX := Lib.hid hX
  have HY := Lib.hid hY
  have Hs := Lib.hid hs
  obtain ⟨N, hN⟩ : ∃ N, mxN n m = N := ⟨_, rfl⟩
  have hmx := fun (P : Program) ts t w => @ymax2 P ts t w n m
  obtain ⟨hn1, hn2⟩ := mxN_ge n m
  have hn3 := mxN_or n m
  rw [hN] at hmx hn1 hn2 hn3 Hs ⊢
  have hN6 : N ≤ 1000000 := by omega
  have hmk := make_zs N hN6
  have HF := Lib.hid (fun i W => hF (zx Z n i) (zx Y m i) W (by unfold zx; split; exact hz _ (by assumption); decide) (by unfold zx; split; exact hy _ (by assumption); decide))
  simp only [valZ_zx] at HF
  obtain ⟨g, hg⟩ : ∃ g : Nat → Int, (fun k => cf Z n k - cf Y m k) = g := ⟨_, rfl⟩
  have hg2 : ∀ k, cf Z n k - cf Y m k = g k := fun k => by rw [← hg]
  simp only [hg2] at HF Hs
  rw [hg]
  have HZx := Lib.hid (show ∀ k, k < n → zx Z n k = Z k from fun k hk => if_pos hk)
  have HZn := Lib.hid (show ∀ k, ¬ k < n → zx Z n k = ⟨false, ⟨#[]⟩⟩ from fun k hk => if_neg hk)
  have HYx := Lib.hid (show ∀ k, k < m → zx Y m k = Y k from fun k hk => if_pos hk)
  have HYn := Lib.hid (show ∀ k, ¬ k < m → zx Y m k = ⟨false, ⟨#[]⟩⟩ from fun k hk => if_neg hk)
  clear hX hY hs hz hy hF hg hg2 hn3 hN
  go_enter Tryd.func45, Tryd.ntmps45
  go_wp2_with fail
  have hz0 := made_zero w N 35
  have hal := (Below.refl w.heap.size w).alloc (Nat.le_refl _) (.cells (madeCells #[.bool false, .string ⟨#[]⟩] (N * 2)) 35)
  obtain ⟨go, hgo⟩ : ∃ g, w.heap.size = g := ⟨_, rfl⟩
  have Hgo := Lib.hid hgo
  rw [hgo] at hz0 ⊢
  have H0 := Lib.hid hz0
  have B0 := Lib.hid hal
  clear hz0 hal hgo hmx hmk
  generalize w.alloc (.cells (madeCells #[.bool false, .string ⟨#[]⟩] (N * 2)) 35) = W0 at *
  go_loopw [19] (fun iv wr => ∃ i : Nat, i ≤ N ∧ iv = .int .i64 (i : Nat) ∧ Hid (ZAt wr go N (fun k => if k < i then g k else 0)) ∧ Hid (Below w.heap.size w wr)) (fun iv _ => N - (intOf iv).toNat)
  case atStart => exact ⟨0, by omega, by go_num, Lib.hid (H0.out.congr fun k _ => by rw [if_neg (by omega)]), B0⟩
  case round =>
    clear H0 B0
    obtain ⟨i, hi, rfl, HO, HB⟩ := hrel
    by_cases hil : i < N
    · have i0 : (0 : Int) ≤ (i : Int) := by omega
      have i1 : (i : Int) < (N : Int) := by omega
      have Hfi := Lib.hid (HF.out i)
      have Hzx := Lib.hid (HZx.out i)
      have Hzn := Lib.hid (HZn.out i)
      have Hyx := Lib.hid (HYx.out i)
      have Hyn := Lib.hid (HYn.out i)
      obtain ⟨z1, hz1⟩ : ∃ z, zx Z n i = z := ⟨_, rfl⟩
      obtain ⟨z2, hz2⟩ : ∃ z, zx Y m i = z := ⟨_, rfl⟩
      rw [hz1, hz2] at Hfi
      rw [hz1] at Hzx Hzn
      rw [hz2] at Hyx Hyn
      obtain ⟨y, hy⟩ : ∃ y, g i = y := ⟨_, rfl⟩
      rw [hy] at Hfi
      have Hy := Lib.hid hy
      obtain ⟨CY, hCY⟩ : ∃ z, canon y = z := ⟨_, rfl⟩
      rw [hCY] at Hfi
      have HCY := Lib.hid hCY
      clear hz1 hz2 hy hCY
      have hgl : go < wr.heap.size := HO.out.1
      by_cases hin : i < n
      · by_cases him : i < m
        · have j1 : (i : Int) < (n : Int) := by omega
          obtain ⟨pb, po, rfl, hpl, hpc⟩ := GRow.cells HX.out hin
          obtain ⟨a0, a1⟩ := hpc i hin
          have a0 := (HB.out.cell (p := ⟨pb, po + i * 2, none⟩) hpl).trans a0
          have a1 := (HB.out.cell (p := ⟨pb, po + i * 2 + 1, none⟩) hpl).trans a1
          rw [← Hzx.out hin] at a0 a1
          have hpw := Nat.lt_of_lt_of_le hpl HB.out.size
          clear hpc hpl
          have j2 : (i : Int) < (m : Int) := by omega
          obtain ⟨qb, qo, rfl, hql, hqc⟩ := GRow.cells HY.out him
          obtain ⟨b0, b1⟩ := hqc i him
          have b0 := (HB.out.cell (p := ⟨qb, qo + i * 2, none⟩) hql).trans b0
          have b1 := (HB.out.cell (p := ⟨qb, qo + i * 2 + 1, none⟩) hql).trans b1
          rw [← Hyx.out him] at b0 b1
          have hqw := Nat.lt_of_lt_of_le hql HB.out.size
          clear hqc hql
          go_upto_region 10 with (fail)
          clear a0 a1
          clear b0 b1
          obtain ⟨gx, hgx⟩ : ∃ k, wr.heap.size = k := ⟨_, rfl⟩
          have hal := ((Below.refl wr.heap.size wr).alloc (Nat.le_refl _) (.cells #[.bool z1.neg, .string z1.mag] 35)).alloc (by simp) (.cells #[.bool z2.neg, .string z2.mag] 35)
          have hb1 := (BoxAt.new wr (.bool z1.neg) (.string z1.mag) 35).alloc (.cells #[.bool z2.neg, .string z2.mag] 35)
          have hb2 := BoxAt.new (wr.alloc (.cells #[.bool z1.neg, .string z1.mag] 35)) (.bool z2.neg) (.string z2.mag) 35
          rw [show (wr.alloc (.cells #[.bool z1.neg, .string z1.mag] 35)).heap.size = wr.heap.size + 1 from by simp] at hb2
          have HO2 := Lib.hid (HO.out.below hal hgl)
          have HB2 := Lib.hid (HB.out.trans (hal.mono HB.out.size))
          rw [hgx] at hb1 hb2 ⊢
          clear hal HO HB hgx hgl
          generalize (wr.alloc (.cells #[.bool z1.neg, .string z1.mag] 35)).alloc (.cells #[.bool z2.neg, .string z2.mag] 35) = X at *
          obtain ⟨x0, x1, _, _, _⟩ := hb1
          obtain ⟨y0, y1, _, _, _⟩ := hb2
          go_wp2_with fail
          refine (Hfi.out X).mono ?_
          rintro e w4 ⟨rfl, hb4⟩
          dsimp only
          have HO4 := Lib.hid (HO2.out.below hb4 HO2.out.1)
          have HB4 := Lib.hid (HB2.out.trans (hb4.mono HB2.out.size))
          clear hb4 HO2 HB2 x0 x1 y0 y1 Hfi
          obtain ⟨⟨o0, o1⟩, o2, o3⟩ := HO4.out.2 i hil
          have HS := HO4.out.set (k := i) y
          rw [HCY.out] at HS
          have HS2 := Lib.hid (HS.congr (h := fun k => if k < i + 1 then g k else 0) fun k _ => by
            by_cases e : k = i
            · rw [if_pos e, e, if_pos (by omega), Hy.out]
            · rw [if_neg e]
              by_cases e2 : k < i
              · rw [if_pos e2, if_pos (by omega)]
              · rw [if_neg e2, if_neg (by omega)])
          clear HS
          go_wp2_with fail
          go_roundw
          case rel => exact ⟨i + 1, by omega, by go_num, HS2, Lib.hid ((HB4.out.setCell (p := ⟨go, i * 2, none⟩) (by have := Hgo.out; first | omega | (dsimp only; omega)) _).setCell (p := ⟨go, i * 2 + 1, none⟩) (by have := Hgo.out; first | omega | (dsimp only; omega)) _)⟩
          case measure => simp [intOf]; omega
        · have j1 : (i : Int) < (n : Int) := by omega
          obtain ⟨pb, po, rfl, hpl, hpc⟩ := GRow.cells HX.out hin
          obtain ⟨a0, a1⟩ := hpc i hin
          have a0 := (HB.out.cell (p := ⟨pb, po + i * 2, none⟩) hpl).trans a0
          have a1 := (HB.out.cell (p := ⟨pb, po + i * 2 + 1, none⟩) hpl).trans a1
          rw [← Hzx.out hin] at a0 a1
          have hpw := Nat.lt_of_lt_of_le hpl HB.out.size
          clear hpc hpl
          have j2 : ¬ (i : Int) < (m : Int) := by omega
          have e2 := Hyn.out him
          subst e2
          go_upto_region 10 with (fail)
          clear a0 a1
          obtain ⟨gx, hgx⟩ : ∃ k, wr.heap.size = k := ⟨_, rfl⟩
          have hal := ((Below.refl wr.heap.size wr).alloc (Nat.le_refl _) (.cells #[.bool z1.neg, .string z1.mag] 35)).alloc (by simp) (.cells #[.bool false, .string ⟨#[]⟩] 35)
          have hb1 := (BoxAt.new wr (.bool z1.neg) (.string z1.mag) 35).alloc (.cells #[.bool false, .string ⟨#[]⟩] 35)
          have hb2 := BoxAt.new (wr.alloc (.cells #[.bool z1.neg, .string z1.mag] 35)) (.bool false) (.string ⟨#[]⟩) 35
          rw [show (wr.alloc (.cells #[.bool z1.neg, .string z1.mag] 35)).heap.size = wr.heap.size + 1 from by simp] at hb2
          have HO2 := Lib.hid (HO.out.below hal hgl)
          have HB2 := Lib.hid (HB.out.trans (hal.mono HB.out.size))
          rw [hgx] at hb1 hb2 ⊢
          clear hal HO HB hgx hgl
          generalize (wr.alloc (.cells #[.bool z1.neg, .string z1.mag] 35)).alloc (.cells #[.bool false, .string ⟨#[]⟩] 35) = X at *
          obtain ⟨x0, x1, _, _, _⟩ := hb1
          obtain ⟨y0, y1, _, _, _⟩ := hb2
          go_wp2_with fail
          refine (Hfi.out X).mono ?_
          rintro e w4 ⟨rfl, hb4⟩
          dsimp only
          have HO4 := Lib.hid (HO2.out.below hb4 HO2.out.1)
          have HB4 := Lib.hid (HB2.out.trans (hb4.mono HB2.out.size))
          clear hb4 HO2 HB2 x0 x1 y0 y1 Hfi
          obtain ⟨⟨o0, o1⟩, o2, o3⟩ := HO4.out.2 i hil
          have HS := HO4.out.set (k := i) y
          rw [HCY.out] at HS
          have HS2 := Lib.hid (HS.congr (h := fun k => if k < i + 1 then g k else 0) fun k _ => by
            by_cases e : k = i
            · rw [if_pos e, e, if_pos (by omega), Hy.out]
            · rw [if_neg e]
              by_cases e2 : k < i
              · rw [if_pos e2, if_pos (by omega)]
              · rw [if_neg e2, if_neg (by omega)])
          clear HS
          go_wp2_with fail
          go_roundw
          case rel => exact ⟨i + 1, by omega, by go_num, HS2, Lib.hid ((HB4.out.setCell (p := ⟨go, i * 2, none⟩) (by have := Hgo.out; first | omega | (dsimp only; omega)) _).setCell (p := ⟨go, i * 2 + 1, none⟩) (by have := Hgo.out; first | omega | (dsimp only; omega)) _)⟩
          case measure => simp [intOf]; omega
      · by_cases him : i < m
        · have j1 : ¬ (i : Int) < (n : Int) := by omega
          have e1 := Hzn.out hin
          subst e1
          have j2 : (i : Int) < (m : Int) := by omega
          obtain ⟨qb, qo, rfl, hql, hqc⟩ := GRow.cells HY.out him
          obtain ⟨b0, b1⟩ := hqc i him
          have b0 := (HB.out.cell (p := ⟨qb, qo + i * 2, none⟩) hql).trans b0
          have b1 := (HB.out.cell (p := ⟨qb, qo + i * 2 + 1, none⟩) hql).trans b1
          rw [← Hyx.out him] at b0 b1
          have hqw := Nat.lt_of_lt_of_le hql HB.out.size
          clear hqc hql
          go_upto_region 10 with (fail)
          clear b0 b1
          obtain ⟨gx, hgx⟩ : ∃ k, wr.heap.size = k := ⟨_, rfl⟩
          have hal := ((Below.refl wr.heap.size wr).alloc (Nat.le_refl _) (.cells #[.bool false, .string ⟨#[]⟩] 35)).alloc (by simp) (.cells #[.bool z2.neg, .string z2.mag] 35)
          have hb1 := (BoxAt.new wr (.bool false) (.string ⟨#[]⟩) 35).alloc (.cells #[.bool z2.neg, .string z2.mag] 35)
          have hb2 := BoxAt.new (wr.alloc (.cells #[.bool false, .string ⟨#[]⟩] 35)) (.bool z2.neg) (.string z2.mag) 35
          rw [show (wr.alloc (.cells #[.bool false, .string ⟨#[]⟩] 35)).heap.size = wr.heap.size + 1 from by simp] at hb2
          have HO2 := Lib.hid (HO.out.below hal hgl)
          have HB2 := Lib.hid (HB.out.trans (hal.mono HB.out.size))
          rw [hgx] at hb1 hb2 ⊢
          clear hal HO HB hgx hgl
          generalize (wr.alloc (.cells #[.bool false, .string ⟨#[]⟩] 35)).alloc (.cells #[.bool z2.neg, .string z2.mag] 35) = X at *
          obtain ⟨x0, x1, _, _, _⟩ := hb1
          obtain ⟨y0, y1, _, _, _⟩ := hb2
          go_wp2_with fail
          refine (Hfi.out X).mono ?_
          rintro e w4 ⟨rfl, hb4⟩
          dsimp only
          have HO4 := Lib.hid (HO2.out.below hb4 HO2.out.1)
          have HB4 := Lib.hid (HB2.out.trans (hb4.mono HB2.out.size))
          clear hb4 HO2 HB2 x0 x1 y0 y1 Hfi
          obtain ⟨⟨o0, o1⟩, o2, o3⟩ := HO4.out.2 i hil
          have HS := HO4.out.set (k := i) y
          rw [HCY.out] at HS
          have HS2 := Lib.hid (HS.congr (h := fun k => if k < i + 1 then g k else 0) fun k _ => by
            by_cases e : k = i
            · rw [if_pos e, e, if_pos (by omega), Hy.out]
            · rw [if_neg e]
              by_cases e2 : k < i
              · rw [if_pos e2, if_pos (by omega)]
              · rw [if_neg e2, if_neg (by omega)])
          clear HS
          go_wp2_with fail
          go_roundw
          case rel => exact ⟨i + 1, by omega, by go_num, HS2, Lib.hid ((HB4.out.setCell (p := ⟨go, i * 2, none⟩) (by have := Hgo.out; first | omega | (dsimp only; omega)) _).setCell (p := ⟨go, i * 2 + 1, none⟩) (by have := Hgo.out; first | omega | (dsimp only; omega)) _)⟩
          case measure => simp [intOf]; omega
        · have j1 : ¬ (i : Int) < (n : Int) := by omega
          have e1 := Hzn.out hin
          subst e1
          have j2 : ¬ (i : Int) < (m : Int) := by omega
          have e2 := Hyn.out him
          subst e2
          go_upto_region 10 with (fail)
          obtain ⟨gx, hgx⟩ : ∃ k, wr.heap.size = k := ⟨_, rfl⟩
          have hal := ((Below.refl wr.heap.size wr).alloc (Nat.le_refl _) (.cells #[.bool false, .string ⟨#[]⟩] 35)).alloc (by simp) (.cells #[.bool false, .string ⟨#[]⟩] 35)
          have hb1 := (BoxAt.new wr (.bool false) (.string ⟨#[]⟩) 35).alloc (.cells #[.bool false, .string ⟨#[]⟩] 35)
          have hb2 := BoxAt.new (wr.alloc (.cells #[.bool false, .string ⟨#[]⟩] 35)) (.bool false) (.string ⟨#[]⟩) 35
          rw [show (wr.alloc (.cells #[.bool false, .string ⟨#[]⟩] 35)).heap.size = wr.heap.size + 1 from by simp] at hb2
          have HO2 := Lib.hid (HO.out.below hal hgl)
          have HB2 := Lib.hid (HB.out.trans (hal.mono HB.out.size))
          rw [hgx] at hb1 hb2 ⊢
          clear hal HO HB hgx hgl
          generalize (wr.alloc (.cells #[.bool false, .string ⟨#[]⟩] 35)).alloc (.cells #[.bool false, .string ⟨#[]⟩] 35) = X at *
          obtain ⟨x0, x1, _, _, _⟩ := hb1
          obtain ⟨y0, y1, _, _, _⟩ := hb2
          go_wp2_with fail
          refine (Hfi.out X).mono ?_
          rintro e w4 ⟨rfl, hb4⟩
          dsimp only
          have HO4 := Lib.hid (HO2.out.below hb4 HO2.out.1)
          have HB4 := Lib.hid (HB2.out.trans (hb4.mono HB2.out.size))
          clear hb4 HO2 HB2 x0 x1 y0 y1 Hfi
          obtain ⟨⟨o0, o1⟩, o2, o3⟩ := HO4.out.2 i hil
          have HS := HO4.out.set (k := i) y
          rw [HCY.out] at HS
          have HS2 := Lib.hid (HS.congr (h := fun k => if k < i + 1 then g k else 0) fun k _ => by
            by_cases e : k = i
            · rw [if_pos e, e, if_pos (by omega), Hy.out]
            · rw [if_neg e]
              by_cases e2 : k < i
              · rw [if_pos e2, if_pos (by omega)]
              · rw [if_neg e2, if_neg (by omega)])
          clear HS
          go_wp2_with fail
          go_roundw
          case rel => exact ⟨i + 1, by omega, by go_num, HS2, Lib.hid ((HB4.out.setCell (p := ⟨go, i * 2, none⟩) (by have := Hgo.out; first | omega | (dsimp only; omega)) _).setCell (p := ⟨go, i * 2 + 1, none⟩) (by have := Hgo.out; first | omega | (dsimp only; omega)) _)⟩
          case measure => simp [intOf]; omega
    · have i1 : ¬ (i : Int) < (N : Int) := by omega
      have hie : i = N := by omega
      rw [hie] at HO
      have hrow := (HO.out.congr (h := g) fun k hk => if_pos hk).row
      have hca := Canonical_any N (fun k => canon (g k)) (some ⟨go, 0, none⟩) N hN6 (fun k hk => Hs.out k hk) wr hrow.g
      simp only [valZ_canon] at hca
      have HCa := Lib.hid hca
      clear hca hrow hie HO
      go_wp2_with fail
      refine HCa.out.mono ?_
      rintro e w5 ⟨q5, c5, rfl, hr5, hb5⟩
      dsimp only
      have Hr5 := Lib.hid hr5
      have Hb5 := Lib.hid (HB.out.trans (hb5.mono HB.out.size))
      clear hr5 hb5 HCa
      go_wp2_with fail
      go_ret
      exact ⟨q5, c5, rfl, Hr5.out, Hb5.out⟩
set_option maxRecDepth 100000 in
theorem pAdd_any (n m : Nat) (Z Y : Nat → ZI) (p q : Option Addr) (c d : Nat) (hn : n ≤ 1000000) (hm : m ≤ 1000000) (hz : ∀ k, k < n → (Z k).mag.size ≤ 100000000) (hy : ∀ k, k < m → (Y k).mag.size ≤ 100000000)
    (hs : ∀ k, k < mxN n m → (canon (cf Z n k + cf Y m k)).mag.size ≤ 100000000) (w : World) (hX : GRow w p n Z) (hY : GRow w q m Y) :
    Calls Tryd.prog 26 #[.slice p n c, .slice q m d] w (RetPol (dgN (fun k => cf Z n k + cf Y m k) (mxN n m)) (fun k => cf Z n k + cf Y m k) w) := by
  have h := combineAdd_any n m Z Y p q c d hn hm hz hy (fun x y W h1 h2 => by
    have := add_z x y h1 h2 W
    rw [addZ_val] at this
    exact this) hs w hX hY
  unfold RetPol at h ⊢
  have H := Lib.hid h
  clear h hX hY hs hz hy
  go_enter Tryd.func26, Tryd.ntmps26
  go_wp2_with fail
  refine H.out.mono ?_
  rintro e w1 ⟨q1, c1, rfl, hr, hb⟩
  dsimp only
  have Hr := Lib.hid hr
  have Hb := Lib.hid hb
  clear hr hb H
  go_wp2_with fail
  go_ret
  exact ⟨q1, c1, rfl, Hr.out, Hb.out⟩
set_option maxRecDepth 100000 in
theorem pSub_any (n m : Nat) (Z Y : Nat → ZI) (p q : Option Addr) (c d : Nat) (hn : n ≤ 1000000) (hm : m ≤ 1000000) (hz : ∀ k, k < n → (Z k).mag.size ≤ 100000000) (hy : ∀ k, k < m → (Y k).mag.size ≤ 100000000)
    (hs : ∀ k, k < mxN n m → (canon (cf Z n k - cf Y m k)).mag.size ≤ 100000000) (w : World) (hX : GRow w p n Z) (hY : GRow w q m Y) :
    Calls Tryd.prog 13 #[.slice p n c, .slice q m d] w (RetPol (dgN (fun k => cf Z n k - cf Y m k) (mxN n m)) (fun k => cf Z n k - cf Y m k) w) := by
  have h := combineSub_any n m Z Y p q c d hn hm hz hy (fun x y W h1 h2 => by
    have := sub_any x y h1 h2 W
    exact this) hs w hX hY
  unfold RetPol at h ⊢
  have H := Lib.hid h
  clear h hX hY hs hz hy
  go_enter Tryd.func13, Tryd.ntmps13
  go_wp2_with fail
  refine H.out.mono ?_
  rintro e w1 ⟨q1, c1, rfl, hr, hb⟩
  dsimp only
  have Hr := Lib.hid hr
  have Hb := Lib.hid hb
  clear hr hb H
  go_wp2_with fail
  go_ret
  exact ⟨q1, c1, rfl, Hr.out, Hb.out⟩
end Go.Proofs.YteoemijgdcpopaaDoor
