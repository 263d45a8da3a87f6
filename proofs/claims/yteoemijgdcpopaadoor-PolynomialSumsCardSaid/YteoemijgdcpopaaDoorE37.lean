/- The walks of rational.lowest, New, Ratio. grooveref01: mag and Of of numbers of one digit; Compare with zero; grooveref02.sign. grooveref01: Compare with zero; grooveref02.sign. grooveref01.Compare at canonical numbers. -/
import Derived.Test.YteoemijgdcpopaaDoorE4
import Derived.Test.YteoemijgdcpopaaDoorE22
import Derived.Test.YteoemijgdcpopaaDoorE3
import Derived.Outline
import Derived.Test.YteoemijgdcpopaaDoorE34
import Derived.Test.YteoemijgdcpopaaDoorE35
import Derived.Laws.IdiomStrings
import Derived.Deep.RegionWith
import Derived.Test.YteoemijgdcpopaaDoorE36
namespace Go.Proofs.YteoemijgdcpopaaDoor
open Go.RowKit

/-- A rational number as the program hands it back. -/
def ratV (n d : Int) : Value := .agg #[.bool (canon n).neg, .string (canon n).mag, .bool (canon d).neg, .string (canon d).mag]
/-- What a function that returns a rational number gives. -/
def RetR (n d : Int) (w : World) (e : Ending) (w' : World) : Prop := e = .returned (ratV n d) ∧ Below w.heap.size w w'

def zeroZ : ZI := ⟨false, ⟨#[]⟩⟩
theorem canon_nat_size {n : Nat} (h : n < 4294967296) : (canon (n : Int)).mag.size ≤ 4 := canon_size _ (by simpa using h)
theorem cmp_pos (n : Nat) (h0 : 0 < n) (h : n < 4294967296) (w : World) :
    Calls Tryd.prog 72 #[.agg #[.bool (canon (n : Int)).neg, .string (canon (n : Int)).mag], .agg #[.bool false, .string ⟨#[]⟩]] w fun e w' => e = .returned (.int .i64 1) ∧ Below w.heap.size w w' := by
  have := cmp_any (canon (n : Int)) zeroZ (by have := canon_nat_size h; omega) (by decide) w
  rw [valZ_canon, show valZ zeroZ = 0 from by decide, show cmpI (n : Int) 0 = 1 from by unfold cmpI; rw [if_neg (by omega), if_pos (by omega)]] at this
  exact this
theorem gcd_nat (n d : Nat) (hn : n < 4294967296) (hd : d < 4294967296) (w : World) :
    Calls Tryd.prog 71 #[.agg #[.bool (canon (n : Int)).neg, .string (canon (n : Int)).mag], .agg #[.bool (canon (d : Int)).neg, .string (canon (d : Int)).mag]] w (RetZ (canon (Nat.gcd n d : Nat)) w) := by
  have h := gcd_any (canon (n : Int)) (canon (d : Int)) (by have := canon_nat_size hn; omega) (by have := canon_nat_size hd; omega) (by rw [absZ_canon]; simpa using hd) w
  rw [absZ_canon, absZ_canon] at h
  simpa using h
/-- Division of natural numbers by one digit. -/
theorem div_nat (n d : Nat) (hn : n < 4294967296) (h0 : 0 < d) (hd : d < 4294967296) (w : World) :
    Calls Tryd.prog 102 #[.agg #[.bool (canon (n : Int)).neg, .string (canon (n : Int)).mag], .agg #[.bool (canon (d : Int)).neg, .string (canon (d : Int)).mag]] w (RetDiv (canon ((n / d : Nat) : Int)) (canon ((n % d : Nat) : Int)) w) := by
  have h := div_short (canon (n : Int)) (canon (d : Int)) (by have := canon_nat_size hn; omega) (by have := canon_nat_size hd; omega) (by rw [absZ_canon]; simp; omega) (by rw [absZ_canon]; simpa using hd) w
  have e1 : (canon (n : Int)).neg = false := by simp [canon]
  have e2 : (canon (d : Int)).neg = false := by simp [canon]
  have q1 : quoZ (canon (n : Int)) (canon (d : Int)) = canon ((n / d : Nat) : Int) := by
    unfold quoZ; rw [e1, e2, if_pos rfl, mkZ_pos, absZ_canon, absZ_canon]; rfl
  have q2 : remZ (canon (n : Int)) (canon (d : Int)) = canon ((n % d : Nat) : Int) := by
    unfold remZ; rw [e1, e2, if_pos rfl, mkZ_pos, absZ_canon, absZ_canon]; rfl
  rw [q1, q2] at h
  exact h

/-- A box of four cells. -/
def Box4 (w : World) (g : Nat) (a b c d : Value) : Prop :=
  w.cell? ⟨g, 0, none⟩ = some a ∧ w.cell? ⟨g, 1, none⟩ = some b ∧ w.cell? ⟨g, 2, none⟩ = some c ∧ w.cell? ⟨g, 3, none⟩ = some d ∧ (∀ j, w.frozen? ⟨g, j, none⟩ = false) ∧ g < w.heap.size
theorem Box4.of_block {W W' : World} {g : Nat} {a b c d : Value} (h : Box4 W g a b c d) (hs : W.heap.size ≤ W'.heap.size) (hb : W'.heap[g]? = W.heap[g]?) : Box4 W' g a b c d := by
  obtain ⟨h0, h1, h2, h3, h4, h5⟩ := h
  exact ⟨(cell_of_block hb _).trans h0, (cell_of_block hb _).trans h1, (cell_of_block hb _).trans h2, (cell_of_block hb _).trans h3, fun j => (frozen_of_block hb _).trans (h4 j), Nat.lt_of_lt_of_le h5 hs⟩
theorem Box4.below {w w' : World} {g B : Nat} {a b c d : Value} (h : Box4 w g a b c d) (hb : Below B w w') (hg : g < B) : Box4 w' g a b c d := h.of_block hb.size (hb.block g hg)
theorem Box4.new (w : World) (a b c d : Value) (t : TypeId) : Box4 (w.alloc (.cells #[a, b, c, d] t)) w.heap.size a b c d := by
  have hb := Below.refl (w.heap.size + 1) (w.alloc (.cells #[a, b, c, d] t))
  obtain ⟨⟨h0, h1, h2, h3⟩, h4, _⟩ := box4 hb
  exact ⟨h0, h1, h2, h3, fun j => box_frozen hb (Nat.lt_succ_self _) j, h4⟩

set_option maxRecDepth 100000 in
set_option maxHeartbeats 8000000 in
theorem lowest_any (n d : Nat) (hn0 : 0 < n) (hd0 : 0 < d) (hn : n < 4294967296) (hd : d < 4294967296) (w : World) :
    Calls Tryd.prog 103 #[.agg #[.bool (canon (n : Int)).neg, .string (canon (n : Int)).mag], .agg #[.bool (canon (d : Int)).neg, .string (canon (d : Int)).mag]] w (RetR ((n / Nat.gcd n d : Nat) : Int) ((d / Nat.gcd n d : Nat) : Int) w) := by
  have hg0 : 0 < Nat.gcd n d := Nat.gcd_pos_of_pos_left _ hn0
  have hgl : Nat.gcd n d < 4294967296 := Nat.lt_of_le_of_lt (Nat.le_of_dvd hn0 (Nat.gcd_dvd_left _ _)) hn
  have Hc1 := Lib.hid (cmp_pos d hd0 hd)
  have Hc2 := Lib.hid (cmp_pos n hn0 hn)
  have Hg := Lib.hid (gcd_nat n d hn hd)
  have Hq1 := Lib.hid (div_nat n (Nat.gcd n d) hn hg0 hgl)
  have Hq2 := Lib.hid (div_nat d (Nat.gcd n d) hd hg0 hgl)
  unfold RetR ratV
  clear hg0 hgl hn0 hd0 hn hd
  generalize canon ((n % Nat.gcd n d : Nat) : Int) = R1 at *
  generalize canon ((d % Nat.gcd n d : Nat) : Int) = R2 at *
  generalize canon ((n / Nat.gcd n d : Nat) : Int) = Q1 at *
  generalize canon ((d / Nat.gcd n d : Nat) : Int) = Q2 at *
  generalize canon ((Nat.gcd n d : Nat) : Int) = G at *
  generalize canon (n : Int) = N at *
  generalize canon (d : Int) = D at *
  go_enter Tryd.func103, Tryd.ntmps103
  go_wp2_with fail
  obtain ⟨W, hW, hA, hB, hb0, hs0⟩ := two_boxes w (.bool N.neg) (.string N.mag) (.bool D.neg) (.string D.mag) 35
  rw [hW]
  have hC : Box4 (W.alloc (.cells #[.bool false, .string ⟨#[]⟩, .bool false, .string ⟨#[]⟩] 41)) (w.heap.size + 1 + 1) (.bool false) (.string ⟨#[]⟩) (.bool false) (.string ⟨#[]⟩) := by rw [← hs0]; exact Box4.new _ _ _ _ _ _
  have hb1 := hb0.alloc (by omega) (.cells #[.bool false, .string ⟨#[]⟩, .bool false, .string ⟨#[]⟩] 41)
  have hs1 : (W.alloc (.cells #[.bool false, .string ⟨#[]⟩, .bool false, .string ⟨#[]⟩] 41)).heap.size = w.heap.size + 1 + 1 + 1 := by simp [hs0]
  have hA := hA.alloc (.cells #[.bool false, .string ⟨#[]⟩, .bool false, .string ⟨#[]⟩] 41)
  have hB := hB.alloc (.cells #[.bool false, .string ⟨#[]⟩, .bool false, .string ⟨#[]⟩] 41)
  generalize hV : (W.alloc (.cells #[.bool false, .string ⟨#[]⟩, .bool false, .string ⟨#[]⟩] 41)) = V at *
  have HA := Lib.hid hA
  have HB := Lib.hid hB
  have HC := Lib.hid hC
  have Hb0 := Lib.hid hb1
  have Hs0 := Lib.hid hs1
  obtain ⟨a0, a1, _, _, _⟩ := hA
  obtain ⟨b0, b1, _, _, _⟩ := hB
  clear hC hb0 hb1 hs0 hs1 hW hV
  refine (Hc1.out _).mono ?_
  rintro e wa ⟨rfl, hb⟩
  have Hwa := Lib.hid (show Below V.heap.size V wa from hb)
  obtain ⟨a0, a1, _, _, _⟩ := HA.out.below Hwa.out HA.out.2.2.2.2
  obtain ⟨b0, b1, _, _, _⟩ := HB.out.below Hwa.out HB.out.2.2.2.2
  clear hb
  go_wp2_with fail
  refine (Hc2.out _).mono ?_
  rintro e wb ⟨rfl, hb⟩
  have Hwb := Lib.hid (show Below V.heap.size V wb from (Hwa.out.trans (hb.mono Hwa.out.size)))
  obtain ⟨a0, a1, _, _, _⟩ := HA.out.below Hwb.out HA.out.2.2.2.2
  obtain ⟨b0, b1, _, _, _⟩ := HB.out.below Hwb.out HB.out.2.2.2.2
  clear hb
  go_wp2_with fail
  refine (Hg.out _).mono ?_
  rintro e wc ⟨rfl, hb⟩
  have Hwc := Lib.hid (show Below V.heap.size V wc from (Hwb.out.trans (hb.mono Hwb.out.size)))
  obtain ⟨a0, a1, _, _, _⟩ := HA.out.below Hwc.out HA.out.2.2.2.2
  obtain ⟨b0, b1, _, _, _⟩ := HB.out.below Hwc.out HB.out.2.2.2.2
  clear hb
  go_wp2_with fail
  refine (Hq1.out _).mono ?_
  rintro e wd ⟨rfl, hb⟩
  have HG := Lib.hid ((BoxAt.new wc (.bool G.neg) (.string G.mag) 35).below hb (by simp))
  have Hwd := Lib.hid (show Below V.heap.size V wd from Hwc.out.trans ((((Below.refl _ _).alloc (Nat.le_refl _) _).trans (hb.mono (by simp))).mono Hwc.out.size))
  obtain ⟨a0, a1, _, _, _⟩ := HA.out.below Hwd.out HA.out.2.2.2.2
  obtain ⟨b0, b1, _, _, _⟩ := HB.out.below Hwd.out HB.out.2.2.2.2
  obtain ⟨g0, g1, _, _, _⟩ := HG.out
  clear hb
  go_wp2_with fail
  obtain ⟨X, hX, hP, _, hbX, hsX⟩ := two_boxes wd (.bool Q1.neg) (.string Q1.mag) (.bool R1.neg) (.string R1.mag) 35
  rw [hX]
  have HP := Lib.hid hP
  have HwX := Lib.hid (show Below V.heap.size V X from Hwd.out.trans (hbX.mono Hwd.out.size))
  clear hX hP hbX hsX
  refine (Hq2.out _).mono ?_
  rintro e we ⟨rfl, hb⟩
  have Hwe := Lib.hid (show Below V.heap.size V we from HwX.out.trans (hb.mono HwX.out.size))
  have HPe := Lib.hid (HP.out.below hb HP.out.2.2.2.2)
  have HC1 := Lib.hid (HC.out.below Hwe.out HC.out.2.2.2.2.2)
  have hzz := Hwe.out.size
  have nP : wd.heap.size ≠ w.heap.size + 1 + 1 := by have := Hwd.out.size; have := Hs0.out; omega
  have nQ : we.heap.size ≠ w.heap.size + 1 + 1 := by have := Hwe.out.size; have := Hs0.out; omega
  clear hb a0 a1 b0 b1 g0 g1 hzz
  go_upto_region 9 with (fail)
  obtain ⟨Y, hY, hQ, _, hbY, hsY⟩ := two_boxes we (.bool Q2.neg) (.string Q2.mag) (.bool R2.neg) (.string R2.mag) 35
  rw [hY]
  obtain ⟨p0, p1, _, _, hp⟩ := HPe.out.below hbY HPe.out.2.2.2.2
  obtain ⟨c0, c1, c2, c3, c4, hc⟩ := HC1.out.below hbY HC1.out.2.2.2.2.2
  obtain ⟨q0, q1, _, _, hq⟩ := hQ
  have HwY := Lib.hid (show Below V.heap.size V Y from Hwe.out.trans (hbY.mono Hwe.out.size))
  have f0 := c4 0
  have f1 := c4 1
  have f2 := c4 2
  have f3 := c4 3
  clear c4 hY hbY hsY
  go_wp2_with fail
  refine bodyPost_ret (v := .agg #[.bool Q1.neg, .string Q1.mag, .bool Q2.neg, .string Q2.mag]) ?_ rfl ⟨rfl, ?_⟩
  · simp [results, Tryd.results103, go_sem, c0, c1, c2, c3]
  · exact ((((Hb0.out.trans (HwY.out.mono (by have := Hs0.out; omega))).setCell (by simp; omega) _).setCell (by simp; omega) _).setCell (by simp; omega) _).setCell (by simp; omega) _
end Go.Proofs.YteoemijgdcpopaaDoor
namespace Go.Proofs.YteoemijgdcpopaaDoor
open Go.RowKit

set_option maxRecDepth 100000 in
set_option maxHeartbeats 4000000 in
theorem refCmpMag_zero (a : ByteArray) (h0 : 0 < a.size) (w : World) :
    Calls Tryd.prog 95 #[.string a, .string ⟨#[]⟩] w fun e w' => e = .returned (.int .i64 1) ∧ w = w' := by
  have h1 : (((a.size : Nat) : Int) != 0) = true := by rw [bne_iff_ne]; omega
  have h2 : ¬ ((a.size : Nat) : Int) < 0 := by omega
  go_enter Tryd.func95, Tryd.ntmps95
  go_wp2
  go_ret
  exact ⟨rfl, rfl⟩
end Go.Proofs.YteoemijgdcpopaaDoor
namespace Go.Proofs.YteoemijgdcpopaaDoor
open Go.RowKit

theorem BoxAt.dr {w : World} {g : Nat} {a b : Value} (h : BoxAt w g a b) : BoxAt w.drew g a b := h
theorem BoxAt.call {w w' : World} {g : Nat} {a b : Value} (h : BoxAt w g a b) (hb : Below w.heap.size w w') : BoxAt w' g a b := h.below hb h.2.2.2.2
theorem BoxAt.callD {w w' : World} {g : Nat} {a b : Value} (h : BoxAt w g a b) (hb : Below w.drew.heap.size w.drew w') : BoxAt w' g a b := h.dr.call hb
theorem below_call {w0 w w' : World} {B : Nat} (h : Below B w0 w) (hB : B ≤ w.heap.size) (hb : Below w.heap.size w w') : Below B w0 w' := h.trans (hb.mono hB)
theorem below_callD {w0 w w' : World} {B : Nat} (h : Below B w0 w) (hB : B ≤ w.heap.size) (hb : Below w.drew.heap.size w.drew w') : Below B w0 w' := h.drew.trans (hb.mono hB)

set_option maxRecDepth 100000 in
set_option maxHeartbeats 4000000 in
theorem refCmp_zero (n : Nat) (h0 : 0 < n) (hn : n < 256) (w : World) :
    Calls Tryd.prog 68 #[.agg #[.bool (canon (n : Int)).neg, .string (canon (n : Int)).mag], .agg #[.bool false, .string ⟨#[]⟩]] w fun e w' => e = .returned (.int .i64 1) ∧ Below w.heap.size w w' := by
  have hc1 := refCanonical_any (canon (n : Int)) (by have := canon_nat_size (n := n) (by omega); omega)
  have hc2 := refCanonical_any zeroZ (by decide)
  rw [valZ_canon] at hc1
  rw [show canon (valZ zeroZ) = zeroZ from by decide] at hc2
  have hne := canon_nonneg n
  have hsz : 0 < (canon (n : Int)).mag.size := by rw [canon_one (by omega) hn]; exact Nat.one_pos
  generalize canon (n : Int) = Z at *
  obtain ⟨N, M⟩ := Z
  dsimp only at *
  subst hne
  have Hk := Lib.hid (refCmpMag_zero M hsz)
  have Hc1 := Lib.hid hc1
  have Hc2 := Lib.hid hc2
  clear hc1 hc2
  go_enter Tryd.func68, Tryd.ntmps68
  go_upto_region 1 with (fail)
  obtain ⟨W, hW, hA, hB, hb0, hs0⟩ := two_boxes w (.bool false) (.string M) (.bool false) (.string ⟨#[]⟩) 35
  rw [hW]
  have HA := Lib.hid hA
  have HB := Lib.hid hB
  have Hb0 := Lib.hid hb0
  have Hs0 := Lib.hid hs0
  obtain ⟨a0, a1, a2, a3, _⟩ := hA
  obtain ⟨b0, b1, b2, b3, _⟩ := hB
  have n1 : ¬ (w.heap.size = w.heap.size + 1) := by omega
  have n2 : ¬ (w.heap.size + 1 = w.heap.size) := by omega
  clear hW hb0 hs0
  go_region_with (go_at_call 92; (first | go_fit (Hc1.out _) | go_fit (Hc2.out _)); rintro e wx ⟨rfl, hb⟩; have HA := Lib.hid (by first | exact BoxAt.call HA.out hb | exact BoxAt.callD HA.out hb); have HB := Lib.hid (by first | exact BoxAt.call HB.out hb | exact BoxAt.callD HB.out hb); have Hb0 := Lib.hid (by first | exact below_call Hb0.out (by have := HA.out.2.2.2.2; have := HB.out.2.2.2.2; have := Hb0.out.size; have := Hs0.out; omega) hb | exact below_callD Hb0.out (by have := Hb0.out.size; have := Hs0.out; omega) hb); obtain ⟨a0, a1, a2, a3, _⟩ := HA.out; obtain ⟨b0, b1, b2, b3, _⟩ := HB.out; clear hb)
  all_goals
    go_wp2_with (go_at_call 95; go_fit (Hk.out _); rintro e wk ⟨rfl, rfl⟩)
    go_ret
    exact ⟨rfl, (((Hb0.out.setCell (by simp) _).setCell (by simp) _).setCell (by simp) _).setCell (by simp) _⟩

end Go.Proofs.YteoemijgdcpopaaDoor
namespace Go.Proofs.YteoemijgdcpopaaDoor
open Go.RowKit
theorem cmpV_neg {x y : Int} (h1 : x < 0) (h2 : y < 0) : cmpV y.natAbs x.natAbs = cmpI x y := by
  unfold cmpV cmpI
  repeat' split
  all_goals omega
theorem cmpV_pos {x y : Int} (h1 : ¬ x < 0) (h2 : ¬ y < 0) : cmpV x.natAbs y.natAbs = cmpI x y := by
  unfold cmpV cmpI
  repeat' split
  all_goals omega
set_option maxRecDepth 100000 in
set_option maxHeartbeats 8000000 in
theorem refCmpC_any (x y : Int) (hx : (canon x).mag.size ≤ 100000000) (hy : (canon y).mag.size ≤ 100000000) (w : World) :
    Calls Tryd.prog 68 #[.agg #[.bool (canon x).neg, .string (canon x).mag], .agg #[.bool (canon y).neg, .string (canon y).mag]] w fun e w' => e = .returned (.int .i64 (cmpI x y)) ∧ Below w.heap.size w w' := by
  have hc1 := refCanonC_any x hx
  have hc2 := refCanonC_any y hy
  have hk1 : ∀ W, Calls Tryd.prog 95 #[.string (canon x).mag, .string (canon y).mag] W fun e w' => e = .returned (.int .i64 (cmpV x.natAbs y.natAbs)) ∧ W = w' := fun W => refCmpMag_any x.natAbs y.natAbs W
  have hk2 : ∀ W, Calls Tryd.prog 95 #[.string (canon y).mag, .string (canon x).mag] W fun e w' => e = .returned (.int .i64 (cmpV y.natAbs x.natAbs)) ∧ W = w' := fun W => refCmpMag_any y.natAbs x.natAbs W
  have hnx := canon_neg x
  have hny := canon_neg y
  obtain ⟨r, hr⟩ : ∃ r, cmpI x y = r := ⟨_, rfl⟩
  rw [hr]
  have HR1 := Lib.hid (fun (h1 : x < 0) (h2 : ¬ y < 0) => show (-1 : Int) = r by rw [← hr]; unfold cmpI; rw [if_pos (by omega)])
  have HR2 := Lib.hid (fun (h1 : ¬ x < 0) (h2 : y < 0) => show (1 : Int) = r by rw [← hr]; unfold cmpI; rw [if_neg (by omega), if_pos (by omega)])
  have HR3 := Lib.hid (fun (h1 : x < 0) (h2 : y < 0) => (cmpV_neg h1 h2).trans hr)
  have HR4 := Lib.hid (fun (h1 : ¬ x < 0) (h2 : ¬ y < 0) => (cmpV_pos h1 h2).trans hr)
  generalize cmpV x.natAbs y.natAbs = c1 at *
  generalize cmpV y.natAbs x.natAbs = c2 at *
  generalize canon x = X at *
  generalize canon y = Y at *
  obtain ⟨NX, MX⟩ := X
  obtain ⟨NY, MY⟩ := Y
  dsimp only at *
  have Hk1 := Lib.hid hk1
  have Hk2 := Lib.hid hk2
  have Hc1 := Lib.hid hc1
  have Hc2 := Lib.hid hc2
  clear hc1 hc2 hk1 hk2 hr hx hy
  by_cases h1 : x < 0
  · rw [decide_eq_true h1] at hnx
    by_cases h2 : y < 0
    · rw [decide_eq_true h2] at hny
      have HR := Lib.hid (HR3.out h1 h2)
      subst hnx
      subst hny
      clear HR1 HR2 HR3 HR4 h1 h2
      go_enter Tryd.func68, Tryd.ntmps68
      go_upto_region 1 with (fail)
      obtain ⟨W, hW, hA, hB, hb0, hs0⟩ := two_boxes w (.bool true) (.string MX) (.bool true) (.string MY) 35
      try rw [hW]
      have HA := Lib.hid hA
      have HB := Lib.hid hB
      have Hb0 := Lib.hid hb0
      have Hs0 := Lib.hid hs0
      obtain ⟨a0, a1, a2, a3, _⟩ := hA
      obtain ⟨b0, b1, b2, b3, _⟩ := hB
      have n1 : ¬ (w.heap.size = w.heap.size + 1) := by omega
      have n2 : ¬ (w.heap.size + 1 = w.heap.size) := by omega
      clear hW hb0 hs0
      go_region_with (go_at_call 92; (first | go_fit (Hc1.out _) | go_fit (Hc2.out _)); rintro e wx ⟨rfl, hb⟩; have HA := Lib.hid (by first | exact BoxAt.call HA.out hb | exact BoxAt.callD HA.out hb); have HB := Lib.hid (by first | exact BoxAt.call HB.out hb | exact BoxAt.callD HB.out hb); have Hb0 := Lib.hid (by first | exact below_call Hb0.out (by have := HA.out.2.2.2.2; have := HB.out.2.2.2.2; have := Hb0.out.size; have := Hs0.out; omega) hb | exact below_callD Hb0.out (by have := Hb0.out.size; have := Hs0.out; omega) hb); obtain ⟨a0, a1, a2, a3, _⟩ := HA.out; obtain ⟨b0, b1, b2, b3, _⟩ := HB.out; clear hb)
      all_goals
        go_wp2_with (go_at_call 95; go_fit (Hk2.out _); rintro e wk ⟨rfl, rfl⟩)
        go_ret
        exact ⟨by rw [← HR.out]; rfl, (((Hb0.out.setCell (by simp) _).setCell (by simp) _).setCell (by simp) _).setCell (by simp) _⟩
    · rw [decide_eq_false h2] at hny
      have HR := Lib.hid (HR1.out h1 h2)
      subst hnx
      subst hny
      clear HR1 HR2 HR3 HR4 h1 h2
      go_enter Tryd.func68, Tryd.ntmps68
      go_upto_region 1 with (fail)
      obtain ⟨W, hW, hA, hB, hb0, hs0⟩ := two_boxes w (.bool true) (.string MX) (.bool false) (.string MY) 35
      try rw [hW]
      have HA := Lib.hid hA
      have HB := Lib.hid hB
      have Hb0 := Lib.hid hb0
      have Hs0 := Lib.hid hs0
      obtain ⟨a0, a1, a2, a3, _⟩ := hA
      obtain ⟨b0, b1, b2, b3, _⟩ := hB
      have n1 : ¬ (w.heap.size = w.heap.size + 1) := by omega
      have n2 : ¬ (w.heap.size + 1 = w.heap.size) := by omega
      clear hW hb0 hs0
      go_region_with (go_at_call 92; (first | go_fit (Hc1.out _) | go_fit (Hc2.out _)); rintro e wx ⟨rfl, hb⟩; have HA := Lib.hid (by first | exact BoxAt.call HA.out hb | exact BoxAt.callD HA.out hb); have HB := Lib.hid (by first | exact BoxAt.call HB.out hb | exact BoxAt.callD HB.out hb); have Hb0 := Lib.hid (by first | exact below_call Hb0.out (by have := HA.out.2.2.2.2; have := HB.out.2.2.2.2; have := Hb0.out.size; have := Hs0.out; omega) hb | exact below_callD Hb0.out (by have := Hb0.out.size; have := Hs0.out; omega) hb); obtain ⟨a0, a1, a2, a3, _⟩ := HA.out; obtain ⟨b0, b1, b2, b3, _⟩ := HB.out; clear hb)
      all_goals
        go_wp2
        go_ret
        exact ⟨by rw [← HR.out]; rfl, (((Hb0.out.setCell (by simp) _).setCell (by simp) _).setCell (by simp) _).setCell (by simp) _⟩
  · rw [decide_eq_false h1] at hnx
    by_cases h2 : y < 0
    · rw [decide_eq_true h2] at hny
      have HR := Lib.hid (HR2.out h1 h2)
      subst hnx
      subst hny
      clear HR1 HR2 HR3 HR4 h1 h2
      go_enter Tryd.func68, Tryd.ntmps68
      go_upto_region 1 with (fail)
      obtain ⟨W, hW, hA, hB, hb0, hs0⟩ := two_boxes w (.bool false) (.string MX) (.bool true) (.string MY) 35
      try rw [hW]
      have HA := Lib.hid hA
      have HB := Lib.hid hB
      have Hb0 := Lib.hid hb0
      have Hs0 := Lib.hid hs0
      obtain ⟨a0, a1, a2, a3, _⟩ := hA
      obtain ⟨b0, b1, b2, b3, _⟩ := hB
      have n1 : ¬ (w.heap.size = w.heap.size + 1) := by omega
      have n2 : ¬ (w.heap.size + 1 = w.heap.size) := by omega
      clear hW hb0 hs0
      go_region_with (go_at_call 92; (first | go_fit (Hc1.out _) | go_fit (Hc2.out _)); rintro e wx ⟨rfl, hb⟩; have HA := Lib.hid (by first | exact BoxAt.call HA.out hb | exact BoxAt.callD HA.out hb); have HB := Lib.hid (by first | exact BoxAt.call HB.out hb | exact BoxAt.callD HB.out hb); have Hb0 := Lib.hid (by first | exact below_call Hb0.out (by have := HA.out.2.2.2.2; have := HB.out.2.2.2.2; have := Hb0.out.size; have := Hs0.out; omega) hb | exact below_callD Hb0.out (by have := Hb0.out.size; have := Hs0.out; omega) hb); obtain ⟨a0, a1, a2, a3, _⟩ := HA.out; obtain ⟨b0, b1, b2, b3, _⟩ := HB.out; clear hb)
      all_goals
        go_wp2
        go_ret
        exact ⟨by rw [← HR.out]; rfl, (((Hb0.out.setCell (by simp) _).setCell (by simp) _).setCell (by simp) _).setCell (by simp) _⟩
    · rw [decide_eq_false h2] at hny
      have HR := Lib.hid (HR4.out h1 h2)
      subst hnx
      subst hny
      clear HR1 HR2 HR3 HR4 h1 h2
      go_enter Tryd.func68, Tryd.ntmps68
      go_upto_region 1 with (fail)
      obtain ⟨W, hW, hA, hB, hb0, hs0⟩ := two_boxes w (.bool false) (.string MX) (.bool false) (.string MY) 35
      try rw [hW]
      have HA := Lib.hid hA
      have HB := Lib.hid hB
      have Hb0 := Lib.hid hb0
      have Hs0 := Lib.hid hs0
      obtain ⟨a0, a1, a2, a3, _⟩ := hA
      obtain ⟨b0, b1, b2, b3, _⟩ := hB
      have n1 : ¬ (w.heap.size = w.heap.size + 1) := by omega
      have n2 : ¬ (w.heap.size + 1 = w.heap.size) := by omega
      clear hW hb0 hs0
      go_region_with (go_at_call 92; (first | go_fit (Hc1.out _) | go_fit (Hc2.out _)); rintro e wx ⟨rfl, hb⟩; have HA := Lib.hid (by first | exact BoxAt.call HA.out hb | exact BoxAt.callD HA.out hb); have HB := Lib.hid (by first | exact BoxAt.call HB.out hb | exact BoxAt.callD HB.out hb); have Hb0 := Lib.hid (by first | exact below_call Hb0.out (by have := HA.out.2.2.2.2; have := HB.out.2.2.2.2; have := Hb0.out.size; have := Hs0.out; omega) hb | exact below_callD Hb0.out (by have := Hb0.out.size; have := Hs0.out; omega) hb); obtain ⟨a0, a1, a2, a3, _⟩ := HA.out; obtain ⟨b0, b1, b2, b3, _⟩ := HB.out; clear hb)
      all_goals
        go_wp2_with (go_at_call 95; go_fit (Hk1.out _); rintro e wk ⟨rfl, rfl⟩)
        go_ret
        exact ⟨by rw [← HR.out]; rfl, (((Hb0.out.setCell (by simp) _).setCell (by simp) _).setCell (by simp) _).setCell (by simp) _⟩
end Go.Proofs.YteoemijgdcpopaaDoor
