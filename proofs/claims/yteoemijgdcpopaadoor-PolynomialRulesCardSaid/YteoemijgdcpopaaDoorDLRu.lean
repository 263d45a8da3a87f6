/- PolynomialRules: the walk. -/
import Derived.Test.YteoemijgdcpopaaDoorD43
import Derived.Test.YteoemijgdcpopaaDoorD39
namespace Go.Proofs.YteoemijgdcpopaaDoor
open Go.RowKit Go.Shelf
def lgB (a b : ZI) : Bool := decide (4 < a.mag.size) || decide (4 < b.mag.size)
set_option maxRecDepth 100000 in
set_option maxHeartbeats 4000000 in
theorem long1R (V : World) (a b : ZI) (ha : a.mag.size ≤ maxLen) (hb : b.mag.size ≤ maxLen) :
    Calls Tryd.prog 35 #[.slice (some ⟨V.heap.size, 0, none⟩) 1 1] (V.alloc (.cells #[.bool a.neg, .string a.mag, .bool b.neg, .string b.mag] 41)) fun e w' => e = .returned (.bool (lgB a b)) ∧ Below V.heap.size V w' := by
  have hbx := Box4.new V (.bool a.neg) (.string a.mag) (.bool b.neg) (.string b.mag) 41
  have hal := (Below.refl V.heap.size V).alloc (Nat.le_refl _) (.cells #[.bool a.neg, .string a.mag, .bool b.neg, .string b.mag] 41)
  have HB := Lib.hid hal
  have HX := Lib.hid hbx
  obtain ⟨g, hg⟩ : ∃ k, V.heap.size = k := ⟨_, rfl⟩
  rw [hg] at HX HB ⊢
  clear hal hbx hg
  generalize V.alloc (.cells #[.bool a.neg, .string a.mag, .bool b.neg, .string b.mag] 41) = w at *
  obtain ⟨s0, s1, s2, s3, _, _⟩ := HX.out
  obtain ⟨r, hr⟩ : ∃ r, lgB a b = r := ⟨_, rfl⟩
  rw [hr]
  have Hr := Lib.hid hr
  clear hr
  go_enter Tryd.func35, Tryd.ntmps35
  go_wp2_with fail
  go_loopw [3] (fun tv wr => ∃ i : Nat, i ≤ 1 ∧ tv = .int .i64 (i : Nat) ∧ w = wr ∧ Hid (i = 0 ∨ r = false)) (fun tv _ => 1 - (intOf tv).toNat)
  case atStart => exact ⟨0, by omega, by go_num, rfl, Lib.hid (.inl rfl)⟩
  case round =>
    obtain ⟨i, hi, rfl, rfl, HK⟩ := hrel
    by_cases hil : i < 1
    · obtain rfl : i = 0 := by omega
      by_cases h1 : 4 < a.mag.size
      · have h2 : (4 : Int) < (a.mag.size : Int) := by omega
        have HR := Lib.hid (show true = r by rw [← Hr.out]; unfold lgB; rw [decide_eq_true h1]; rfl)
        clear h1 hil
        go_wp2
        go_ret
        exact ⟨by rw [← HR.out]; rfl, HB.out⟩
      · by_cases h3 : 4 < b.mag.size
        · have h2 : ¬ (4 : Int) < (a.mag.size : Int) := by omega
          have h4 : (4 : Int) < (b.mag.size : Int) := by omega
          have HR := Lib.hid (show true = r by rw [← Hr.out]; unfold lgB; rw [decide_eq_true h3, Bool.or_true])
          clear h1 hil h3
          go_wp2
          go_ret
          exact ⟨by rw [← HR.out]; rfl, HB.out⟩
        · have h2 : ¬ (4 : Int) < (a.mag.size : Int) := by omega
          have h4 : ¬ (4 : Int) < (b.mag.size : Int) := by omega
          have HR : Hid ((0 : Nat) + 1 = 0 ∨ r = false) := Lib.hid (.inr (by rw [← Hr.out]; unfold lgB; rw [decide_eq_false h1, decide_eq_false h3]; rfl))
          clear h1 hil h3 HK
          go_wp2
          go_roundw
          case rel => exact ⟨1, by omega, by go_num, by first | rfl | trivial, HR⟩
          case measure => simp [intOf]
    · have i3 : ¬ (i : Int) < 1 := by omega
      have HR := Lib.hid (show false = r by rcases HK.out with h | h; omega; exact h.symm)
      clear hil HK
      go_wp2
      go_ret
      exact ⟨by rw [← HR.out]; rfl, HB.out⟩
/-- Sums and products of values. -/
theorem rAddV (e e' : Int → Int) (u v Px Qx Py Qy Ps Qs : Int) (E : Nat) (hv : 0 < v) (qx : Qc Px Qx) (qy : Qc Py Qy) (qs : Qc Ps Qs) (vx : ValP e u v Px Qx) (vy : ValP e' u v Py Qy) (vs : ValP (fun x => e x + e' x) u v Ps Qs) (hE : E ≤ 10000000) (b1 : Bn Px E) (b2 : Bn Qx E) (b3 : Bn Py E) (b4 : Bn Qy E) (W : World) :
    Calls Tryd.prog 39 #[ratV Px Qx, ratV Py Qy] W (RetR Ps Qs W) := by
  have h := rAdd_any (canon Px) (canon Qx) (canon Py) (canon Qy) hE (b1.size _ (by omega)) (b2.size _ (by omega)) (b3.size _ (by omega)) (b4.size _ (by omega)) (by rw [valZ_canon]; exact b1) (by rw [valZ_canon]; exact b2) (by rw [valZ_canon]; exact b3) (by rw [valZ_canon]; exact b4) Px Qx Py Qy (by rw [valZ_canon, valZ_canon]; exact (rlo_self qx).1) (by rw [valZ_canon, valZ_canon]; exact (rlo_self qx).2) (by rw [valZ_canon, valZ_canon]; exact (rlo_self qy).1) (by rw [valZ_canon, valZ_canon]; exact (rlo_self qy).2) W
  have hx := qx.pos
  have hy := qy.pos
  obtain ⟨r1, r2⟩ := vs.rlo hv qs (mul_ne (show Qx ≠ 0 by omega) (show Qy ≠ 0 by omega)) (vx.add vy)
  rw [r1, r2] at h
  exact h
theorem rMulV (e e' : Int → Int) (u v Px Qx Py Qy Ps Qs : Int) (E : Nat) (hv : 0 < v) (qx : Qc Px Qx) (qy : Qc Py Qy) (qs : Qc Ps Qs) (vx : ValP e u v Px Qx) (vy : ValP e' u v Py Qy) (vs : ValP (fun x => e x * e' x) u v Ps Qs) (hE : E ≤ 10000000) (b1 : Bn Px E) (b2 : Bn Qx E) (b3 : Bn Py E) (b4 : Bn Qy E) (W : World) :
    Calls Tryd.prog 40 #[ratV Px Qx, ratV Py Qy] W (RetR Ps Qs W) := by
  have h := rMul_any (canon Px) (canon Qx) (canon Py) (canon Qy) hE (b1.size _ (by omega)) (b2.size _ (by omega)) (b3.size _ (by omega)) (b4.size _ (by omega)) (by rw [valZ_canon]; exact b1) (by rw [valZ_canon]; exact b2) (by rw [valZ_canon]; exact b3) (by rw [valZ_canon]; exact b4) Px Qx Py Qy (by rw [valZ_canon, valZ_canon]; exact (rlo_self qx).1) (by rw [valZ_canon, valZ_canon]; exact (rlo_self qx).2) (by rw [valZ_canon, valZ_canon]; exact (rlo_self qy).1) (by rw [valZ_canon, valZ_canon]; exact (rlo_self qy).2) W
  have hx := qx.pos
  have hy := qy.pos
  obtain ⟨r1, r2⟩ := vs.rlo hv qs (mul_ne (show Qx ≠ 0 by omega) (show Qy ≠ 0 by omega)) (vx.mul vy)
  rw [r1, r2] at h
  exact h
theorem bn_four {z : ZI} (h : z.mag.size ≤ 4) : Bn (valZ z) 32 := by
  have h1 := absZ_lt z
  have h2 : 256 ^ z.mag.size ≤ 256 ^ 4 := Nat.pow_le_pow_right (by decide) h
  unfold Bn valZ
  split <;> omega
set_option maxRecDepth 100000 in
set_option maxHeartbeats 8000000 in
theorem lawRules (p : Option Addr) (n c : Nat) (Z : Nat → ZI) (q : Option Addr) (m d : Nat) (Y : Nat → ZI) (ra rb : ZI) (w : World) (hX : GRow w p n Z) (hn : n ≤ maxLen) (_hz : ∀ k, k < n → (Z k).mag.size ≤ maxLen) (hY : GRow w q m Y) (hm : m ≤ maxLen) (_hy : ∀ k, k < m → (Y k).mag.size ≤ maxLen) (hra : ra.mag.size ≤ maxLen) (hrb : rb.mag.size ≤ maxLen) :
    Calls Tryd.prog 10 #[.slice p n c, .slice q m d, .agg #[.bool ra.neg, .string ra.mag, .bool rb.neg, .string rb.mag]] w (RetB true w) := by
  have hAw := fun W => awake_any W
  obtain ⟨w0, hw0⟩ : ∃ W, w.alloc (.cells #[.bool ra.neg, .string ra.mag, .bool rb.neg, .string rb.mag] 41) = W := ⟨_, rfl⟩
  have hbw : Below w.heap.size w w0 := by rw [← hw0]; exact (Below.refl _ _).alloc (Nat.le_refl _) _
  have hbr : Box4 w0 w.heap.size (.bool ra.neg) (.string ra.mag) (.bool rb.neg) (.string rb.mag) := by rw [← hw0]; exact Box4.new _ _ _ _ _ _
  have hX0 : GRow w0 p n Z := SlAt.mono hX (Nat.le_refl _) hbw
  have hY0 : GRow w0 q m Y := SlAt.mono hY (Nat.le_refl _) hbw
  have HX := Lib.hid hX0
  have HY := Lib.hid hY0
  have Hb := Lib.hid hbw
  have HR := Lib.hid hbr
  have HAw := Lib.hid hAw
  have HSm := Lib.hid (fun W h1 h2 => small2_any W p q n m c d Z Y h1 h2 hn hm)
  have HLg := Lib.hid (fun W => long1R W ra rb hra hrb)
  obtain ⟨sm, hsm⟩ : ∃ b, (!(gtP n Z || gtP m Y) && !(decide (8 < n) || decide (8 < m))) = b := ⟨_, rfl⟩
  obtain ⟨lg, hlg⟩ : ∃ b, lgB ra rb = b := ⟨_, rfl⟩
  rw [hsm] at HSm
  rw [hlg] at HLg
  obtain ⟨gr, hgr⟩ : ∃ k, w.heap.size = k := ⟨_, rfl⟩
  have Hgr := Lib.hid hgr
  have hgl : w.heap.size ≤ gr := by omega
  rw [hgr] at HR
  cases sm
  · clear hX hY hX0 hY0 hbw hbr hsm hlg hn hm hra hrb _hz _hy
    go_enter Tryd.func10, Tryd.ntmps10
    go_upto_region 1 with (fail)
    try rw [hw0]
    try rw [hgr]
    clear hgr hw0
    go_wp2_with fail
    refine (HSm.out _ HX.out HY.out).mono ?_
    rintro e y1 ⟨rfl, hbc⟩
    dsimp only
    have b_1 := Lib.hid (Hb.out.trans (hbc.mono Hb.out.size))
    have X_1 := Lib.hid (SlAt.mono HX.out (Nat.le_refl _) hbc)
    have Y_1 := Lib.hid (SlAt.mono HY.out (Nat.le_refl _) hbc)
    have r_1 := Lib.hid (HR.out.below hbc HR.out.2.2.2.2.2)
    clear Hb HX HY HR
    go_wp2_with fail
    refine (HAw.out _).mono ?_
    rintro e y2 ⟨rfl, hbc⟩
    dsimp only
    have b_2 := Lib.hid (b_1.out.trans (hbc.mono b_1.out.size))
    have X_2 := Lib.hid (SlAt.mono X_1.out (Nat.le_refl _) hbc)
    have Y_2 := Lib.hid (SlAt.mono Y_1.out (Nat.le_refl _) hbc)
    have r_2 := Lib.hid (r_1.out.below hbc r_1.out.2.2.2.2.2)
    clear b_1 X_1 Y_1 r_1
    go_wp2_with fail
    go_ret
    exact ⟨rfl, b_2.out⟩
  · cases lg
    · obtain ⟨⟨n8, z3⟩, m8, y3⟩ := small2F hsm
      have hlg2 : ra.mag.size ≤ 4 ∧ rb.mag.size ≤ 4 := by
        unfold lgB at hlg
        rw [Bool.or_eq_false_iff, decide_eq_false_iff_not, decide_eq_false_iff_not] at hlg
        omega
      have hA := PI.of hX0 z3 n8
      have hB := PI.of hY0 y3 m8
      obtain ⟨ea, hea⟩ : ∃ e : Int → Int, (fun x => ypol (fun k => valZ (Z k)) n x) = e := ⟨_, rfl⟩
      obtain ⟨eb, heb⟩ : ∃ e : Int → Int, (fun x => ypol (fun k => valZ (Y k)) m x) = e := ⟨_, rfl⟩
      rw [hea] at hA
      rw [heb] at hB
      have iA0 := hA.deg
      have iB0 := hB.deg
      generalize dgN (fun k => valZ (zx Z n k)) n = N at iA0
      generalize dgN (fun k => valZ (zx Y m k)) m = M at iB0
      generalize ctN (fun k => valZ (zx Z n k)) N = F at iA0
      generalize ctN (fun k => valZ (zx Y m k)) M = G at iB0
      have iA := Lib.hid iA0
      have iB := Lib.hid iB0
      have HA := Lib.hid hA
      have HB := Lib.hid hB
      have Hrs := Lib.hid (show ra.mag.size ≤ 100000000 ∧ rb.mag.size ≤ 100000000 by omega)
      have Hrb := Lib.hid (And.intro (bn_four hlg2.1) (bn_four hlg2.2))
      have Hv0 : Hid (0 < rloD (valZ ra) (valZ rb)) := Lib.hid (rlo_qc _ _).pos
      obtain ⟨u, hu⟩ : ∃ u, rloN (valZ ra) (valZ rb) = u := ⟨_, rfl⟩
      obtain ⟨v, hv⟩ : ∃ u, rloD (valZ ra) (valZ rb) = u := ⟨_, rfl⟩
      have HAt : Hid (∀ (W : World) (p : Option Addr) (n c : Nat) (Z : Nat → ZI) (e : Int → Int) (N : Nat) (F : Nat → Int) (B L : Nat), PI W p n Z e B L → IsP N F e → L ≤ 65 → B ≤ 1000000 → Calls Tryd.prog 37 #[.slice p n c, .agg #[.bool ra.neg, .string ra.mag, .bool rb.neg, .string rb.mag]] W (RetAtI e u v (B + 33 * L) W)) := Lib.hid (fun W p n c Z e N F B L h1 h2 h3 h4 => by
        rw [← hu, ← hv]
        exact atI W p n c Z e N F B L 32 ra rb h1 h2 h3 h4 Hrs.out.1 Hrs.out.2 Hrb.out.1 Hrb.out.2 (by decide))
      rw [hv] at Hv0
      have hmax := @ymax7c Tryd.prog
      clear hX hY hX0 hY0 hbw hbr hsm hlg hn hm hra hrb _hz _hy n8 z3 m8 y3 hlg2 hea heb iA0 iB0 hA hB hu hv
      go_enter Tryd.func10, Tryd.ntmps10
      go_upto_region 1 with (fail)
      try rw [hw0]
      try rw [hgr]
      clear hgr hw0
      go_wp2_with fail
      refine (HSm.out _ HX.out HY.out).mono ?_
      rintro e y1 ⟨rfl, hbc⟩
      dsimp only
      have b_1 := Lib.hid (Hb.out.trans (hbc.mono Hb.out.size))
      have X_1 := Lib.hid (SlAt.mono HX.out (Nat.le_refl _) hbc)
      have Y_1 := Lib.hid (SlAt.mono HY.out (Nat.le_refl _) hbc)
      have r_1 := Lib.hid (HR.out.below hbc HR.out.2.2.2.2.2)
      have A_1 := Lib.hid (HA.out.below hbc)
      have B_1 := Lib.hid (HB.out.below hbc)
      clear Hb HX HY HR HA HB
      obtain ⟨r0, r1, r2, r3, _, _⟩ := r_1.out
      go_wp2_with fail
      refine (HLg.out _).mono ?_
      rintro e y2 ⟨rfl, hbc⟩
      dsimp only
      have b_2 := Lib.hid (b_1.out.trans (hbc.mono b_1.out.size))
      have r_2 := Lib.hid (r_1.out.below hbc r_1.out.2.2.2.2.2)
      have A_2 := Lib.hid (A_1.out.below hbc)
      have B_2 := Lib.hid (B_1.out.below hbc)
      clear b_1 X_1 Y_1 r_1 A_1 B_1
      go_wp2_with fail
      refine (mulI _ _ _ _ _ _ _ _ _ _ _ 24 24 8 8 A_2.out B_2.out (by decide) (by decide) (by decide)).mono ?_
      rintro e y3 ⟨ab, cab, Nab, Fab, rfl, hab, hbc⟩
      dsimp only
      have b_3 := Lib.hid (b_2.out.trans (hbc.mono b_2.out.size))
      have r_3 := Lib.hid (r_2.out.below hbc r_2.out.2.2.2.2.2)
      have A_3 := Lib.hid (A_2.out.below hbc)
      have B_3 := Lib.hid (B_2.out.below hbc)
      clear b_2 r_2 A_2 B_2
      have ab_3 := Lib.hid (hab)
      obtain ⟨r0, r1, r2, r3, _, _⟩ := r_3.out
      go_wp2_with fail
      refine (HAt.out _ _ _ _ _ _ _ _ 24 8 A_3.out iA.out (by decide) (by decide)).mono ?_
      rintro e y4 ⟨Px, Qx, rfl, qx, vx, ax, bex, hbc⟩
      dsimp only
      have b_4 := Lib.hid (b_3.out.trans (hbc.mono b_3.out.size))
      have r_4 := Lib.hid (r_3.out.below hbc r_3.out.2.2.2.2.2)
      have A_4 := Lib.hid (A_3.out.below hbc)
      have B_4 := Lib.hid (B_3.out.below hbc)
      have ab_4 := Lib.hid (ab_3.out.below hbc)
      clear b_3 r_3 A_3 B_3 ab_3
      have Kx := Lib.hid (And.intro qx (And.intro vx (And.intro ax bex)))
      clear qx vx ax bex
      unfold ratV
      try dsimp only
      obtain ⟨Cx, hCx⟩ : ∃ z, canon Px = z := ⟨_, rfl⟩
      obtain ⟨Dx, hDx⟩ : ∃ z, canon Qx = z := ⟨_, rfl⟩
      rw [hCx, hDx]
      have Ex := Lib.hid (And.intro hCx hDx)
      clear hCx hDx
      go_upto_region 5 with (fail)
      have hbx := Box4.new y4 (.bool Cx.neg) (.string Cx.mag) (.bool Dx.neg) (.string Dx.mag) 41
      have hbc := (Below.refl y4.heap.size y4).alloc (Nat.le_refl _) (.cells #[.bool Cx.neg, .string Cx.mag, .bool Dx.neg, .string Dx.mag] 41)
      have b_5 := Lib.hid (b_4.out.trans (hbc.mono b_4.out.size))
      have r_5 := Lib.hid (r_4.out.below hbc r_4.out.2.2.2.2.2)
      have A_5 := Lib.hid (A_4.out.below hbc)
      have B_5 := Lib.hid (B_4.out.below hbc)
      have ab_5 := Lib.hid (ab_4.out.below hbc)
      clear b_4 r_4 A_4 B_4 ab_4
      obtain ⟨gx, hgx⟩ : ∃ k, y4.heap.size = k := ⟨_, rfl⟩
      rw [hgx] at hbx ⊢
      clear hgx hbc
      generalize y4.alloc (.cells #[.bool Cx.neg, .string Cx.mag, .bool Dx.neg, .string Dx.mag] 41) = y5 at *
      have xx_5 := Lib.hid hbx
      clear hbx
      obtain ⟨r0, r1, r2, r3, _, _⟩ := r_5.out
      go_wp2_with fail
      refine (HAt.out _ _ _ _ _ _ _ _ 24 8 B_5.out iB.out (by decide) (by decide)).mono ?_
      rintro e y6 ⟨Py, Qy, rfl, qy, vy, ay, bey, hbc⟩
      dsimp only
      have b_6 := Lib.hid (b_5.out.trans (hbc.mono b_5.out.size))
      have r_6 := Lib.hid (r_5.out.below hbc r_5.out.2.2.2.2.2)
      have A_6 := Lib.hid (A_5.out.below hbc)
      have B_6 := Lib.hid (B_5.out.below hbc)
      have ab_6 := Lib.hid (ab_5.out.below hbc)
      have xx_6 := Lib.hid (xx_5.out.below hbc xx_5.out.2.2.2.2.2)
      clear b_5 r_5 A_5 B_5 ab_5 xx_5
      have Ky := Lib.hid (And.intro qy (And.intro vy (And.intro ay bey)))
      clear qy vy ay bey
      unfold ratV
      try dsimp only
      obtain ⟨Cy, hCy⟩ : ∃ z, canon Py = z := ⟨_, rfl⟩
      obtain ⟨Dy, hDy⟩ : ∃ z, canon Qy = z := ⟨_, rfl⟩
      rw [hCy, hDy]
      have Ey := Lib.hid (And.intro hCy hDy)
      clear hCy hDy
      go_upto_region 6 with (fail)
      have hbx := Box4.new y6 (.bool Cy.neg) (.string Cy.mag) (.bool Dy.neg) (.string Dy.mag) 41
      have hbc := (Below.refl y6.heap.size y6).alloc (Nat.le_refl _) (.cells #[.bool Cy.neg, .string Cy.mag, .bool Dy.neg, .string Dy.mag] 41)
      have b_7 := Lib.hid (b_6.out.trans (hbc.mono b_6.out.size))
      have r_7 := Lib.hid (r_6.out.below hbc r_6.out.2.2.2.2.2)
      have A_7 := Lib.hid (A_6.out.below hbc)
      have B_7 := Lib.hid (B_6.out.below hbc)
      have ab_7 := Lib.hid (ab_6.out.below hbc)
      have xx_7 := Lib.hid (xx_6.out.below hbc xx_6.out.2.2.2.2.2)
      clear b_6 r_6 A_6 B_6 ab_6 xx_6
      obtain ⟨gy, hgy⟩ : ∃ k, y6.heap.size = k := ⟨_, rfl⟩
      rw [hgy] at hbx ⊢
      clear hgy hbc
      generalize y6.alloc (.cells #[.bool Cy.neg, .string Cy.mag, .bool Dy.neg, .string Dy.mag] 41) = y7 at *
      have xy_7 := Lib.hid hbx
      clear hbx
      have HD : Hid (Below y7.heap.size y7 y7) := Lib.hid (Below.refl _ _)
      obtain ⟨SS, hSe⟩ : ∃ SS : World → Prop, SS = fun W => Box4 W gr (.bool ra.neg) (.string ra.mag) (.bool rb.neg) (.string rb.mag) := ⟨_, rfl⟩
      have HS : Hid (∀ W, Below y7.heap.size y7 W → SS W) := Lib.hid (fun W hW => by rw [hSe]; exact r_7.out.below hW r_7.out.2.2.2.2.2)
      refine wp_region_held_drew (S := SS) (by kernel_rfl) (HS.out _ HD.out.drew) (fun _ => ?_)
      have D_q1 := Lib.hid (HD.out.drew)
      refine wpAnyH_take (i := 0) (v := ?_) rfl (by kernel_rfl) (by kernel_rfl) (by kernel_rfl) (fun _ _ _ h => h) (Or.inl ⟨by rfl, ?_⟩) (HS.out _ D_q1.out) ?_
      rotate_left 1
      next => intro w hSw; rw [hSe] at hSw; obtain ⟨u0, u1, u2, u3, _, _⟩ := hSw; go_simp; try with_reducible rfl
      try simp only [Act.put, List.getElem_toArray, List.getElem_cons_zero, List.getElem_cons_succ, List.setIfInBounds_toArray, List.set_cons_zero, List.set_cons_succ]
      refine wpAnyH_take (i := 1) (v := ?_) rfl (by kernel_rfl) (by kernel_rfl) (by kernel_rfl) (fun _ _ _ h => h) (Or.inl ⟨by rfl, ?_⟩) (HS.out _ D_q1.out) ?_
      rotate_left 1
      next => intro w hSw; rw [hSe] at hSw; obtain ⟨u0, u1, u2, u3, _, _⟩ := hSw; go_simp; try with_reducible rfl
      try simp only [Act.put, List.getElem_toArray, List.getElem_cons_zero, List.getElem_cons_succ, List.setIfInBounds_toArray, List.set_cons_zero, List.set_cons_succ]
      refine wpAnyH_take (i := 3) (v := ?_) rfl (by kernel_rfl) (by kernel_rfl) (by kernel_rfl) (fun _ _ _ h => h) (Or.inl ⟨by rfl, ?_⟩) (HS.out _ D_q1.out) ?_
      rotate_left 1
      next => intro w hSw; rw [hSe] at hSw; obtain ⟨u0, u1, u2, u3, _, _⟩ := hSw; go_simp; try with_reducible rfl
      try simp only [Act.put, List.getElem_toArray, List.getElem_cons_zero, List.getElem_cons_succ, List.setIfInBounds_toArray, List.set_cons_zero, List.set_cons_succ]
      try simp only [Act.put, List.getElem_toArray, List.getElem_cons_zero, List.getElem_cons_succ, List.setIfInBounds_toArray, List.set_cons_zero, List.set_cons_succ]
      refine wpAnyH_ready (rs := [2, 8]) (by kernel_rfl) (by simp) ?_
      refine AllReadyH.cons rfl (fun K hK => ?_) (AllReadyH.cons rfl (fun K hK => ?_) AllReadyH.nil)
      · go_simp
        refine (addI _ _ _ _ _ _ _ _ _ _ _ 24 8 (A_7.out.below D_q1.out) (B_7.out.below D_q1.out) (by decide) (by decide)).mono ?_
        rintro e wq2 ⟨sp, csp, Nsp, Fsp, rfl, hsp, hbc⟩
        have D_q2 := Lib.hid (D_q1.out.trans (hbc.mono D_q1.out.size))
        have s_q2 := Lib.hid (hsp)
        dsimp only
        refine hK.out _ _ (HS.out _ D_q2.out) (fun _ => ?_)
        clear hK K hbc
        try simp only [Act.put, List.getElem_toArray, List.getElem_cons_zero, List.getElem_cons_succ, List.setIfInBounds_toArray, List.set_cons_zero, List.set_cons_succ]
        refine wpAnyH_ready (rs := [4, 8]) (by kernel_rfl) (by simp) ?_
        refine AllReadyH.cons rfl (fun K hK => ?_) (AllReadyH.cons rfl (fun K hK => ?_) AllReadyH.nil)
        · go_simp
          refine (HAt.out _ _ _ _ _ _ _ _ 25 8 (s_q2.out.pi (by decide)) s_q2.out.isp (by decide) (by decide)).mono ?_
          rintro e wq3 ⟨Ps, Qs, rfl, qs, vs, a_s, b_s, hbc⟩
          have D_q3 := Lib.hid (D_q2.out.trans (hbc.mono D_q2.out.size))
          have s_q3 := Lib.hid (s_q2.out.below hbc)
          have Ks := Lib.hid (And.intro qs (And.intro vs (And.intro a_s b_s)))
          clear qs vs a_s b_s
          unfold ratV
          obtain ⟨Cs, hCs⟩ : ∃ z, canon Ps = z := ⟨_, rfl⟩
          obtain ⟨Ds, hDs⟩ : ∃ z, canon Qs = z := ⟨_, rfl⟩
          rw [hCs, hDs]
          have Es := Lib.hid (And.intro hCs hDs)
          clear hCs hDs
          try dsimp only
          refine hK.out _ _ (HS.out _ D_q3.out) (fun _ => ?_)
          clear hK K hbc
          refine wpAnyH_take (i := 5) (v := ?_) rfl (by kernel_rfl) (by kernel_rfl) (by kernel_rfl) (fun _ _ _ h => h) (Or.inl ⟨by rfl, ?_⟩) (HS.out _ D_q3.out) ?_
          rotate_left 1
          next => intro w hSw; rw [hSe] at hSw; obtain ⟨u0, u1, u2, u3, _, _⟩ := hSw; go_simp; try with_reducible rfl
          try simp only [Act.put, List.getElem_toArray, List.getElem_cons_zero, List.getElem_cons_succ, List.setIfInBounds_toArray, List.set_cons_zero, List.set_cons_succ]
          refine wpAnyH_take (i := 6) (v := ?_) rfl (by kernel_rfl) (by kernel_rfl) (by kernel_rfl) (fun _ _ _ h => h) (Or.inl ⟨by rfl, ?_⟩) (HS.out _ D_q3.out) ?_
          rotate_left 1
          next => intro w hSw; rw [hSe] at hSw; obtain ⟨u0, u1, u2, u3, _, _⟩ := hSw; go_simp; try with_reducible rfl
          try simp only [Act.put, List.getElem_toArray, List.getElem_cons_zero, List.getElem_cons_succ, List.setIfInBounds_toArray, List.set_cons_zero, List.set_cons_succ]
          refine wpAnyH_take (i := 7) (v := ?_) rfl (by kernel_rfl) (by kernel_rfl) (by kernel_rfl) (fun _ _ _ h => h) (Or.inl ⟨by rfl, ?_⟩) (HS.out _ D_q3.out) ?_
          rotate_left 1
          next => intro w hSw; rw [hSe] at hSw; obtain ⟨u0, u1, u2, u3, _, _⟩ := hSw; go_simp; try with_reducible rfl
          try simp only [Act.put, List.getElem_toArray, List.getElem_cons_zero, List.getElem_cons_succ, List.setIfInBounds_toArray, List.set_cons_zero, List.set_cons_succ]
          try simp only [Act.put, List.getElem_toArray, List.getElem_cons_zero, List.getElem_cons_succ, List.setIfInBounds_toArray, List.set_cons_zero, List.set_cons_succ]
          refine wpAnyH_ready (rs := [8]) (by kernel_rfl) (by simp) ?_
          refine AllReadyH.cons rfl (fun K hK => ?_) AllReadyH.nil
          go_simp
          have hbx := Box4.new (wq3) (.bool false) (.string ⟨#[]⟩) (.bool false) (.string ⟨#[]⟩) 41
          have hbc := (Below.refl (wq3).heap.size (wq3)).alloc (Nat.le_refl _) (.cells #[.bool false, .string ⟨#[]⟩, .bool false, .string ⟨#[]⟩] 41)
          have leN : y7.heap.size ≤ (wq3).heap.size := D_q3.out.size
          have D_q4 := Lib.hid (D_q3.out.trans (hbc.mono D_q3.out.size))
          have s_q4 := Lib.hid (s_q3.out.below hbc)
          refine hK.out _ _ (HS.out _ D_q4.out) (fun _ => ?_)
          clear hK K hbc
          obtain ⟨gN, hgN⟩ : ∃ k, (wq3).heap.size = k := ⟨_, rfl⟩
          have leoN := leN
          rw [hgN] at hbx ⊢
          have leN : y7.heap.size ≤ gN := by rw [← hgN]; exact leoN
          clear hgN leoN
          generalize (wq3).alloc (.cells #[.bool false, .string ⟨#[]⟩, .bool false, .string ⟨#[]⟩] 41) = Wq4 at *
          have N_q4 := Lib.hid hbx
          clear hbx
          try simp only [Act.put, List.getElem_toArray, List.getElem_cons_zero, List.getElem_cons_succ, List.setIfInBounds_toArray, List.set_cons_zero, List.set_cons_succ]
          refine wpAnyH_ready (rs := [9]) (by kernel_rfl) (by simp) ?_
          refine AllReadyH.cons rfl (fun K hK => ?_) AllReadyH.nil
          obtain ⟨z0, z1, z2, z3, zf, _⟩ := N_q4.out
          have zf0 := zf 0
          have zf1 := zf 1
          have zf2 := zf 2
          have zf3 := zf 3
          have D_q5 := Lib.hid (((((D_q4.out).setCell (p := ⟨gN, 0, none⟩) leN (.bool Cs.neg)).setCell (p := ⟨gN, 1, none⟩) leN (.string Cs.mag)).setCell (p := ⟨gN, 2, none⟩) leN (.bool Ds.neg)).setCell (p := ⟨gN, 3, none⟩) leN (.string Ds.mag))
          have N_q5 := Lib.hid (N_q4.out.set4 (.bool Cs.neg) (.string Cs.mag) (.bool Ds.neg) (.string Ds.mag))
          go_simp
          refine hK.out _ _ (HS.out _ D_q5.out) (fun _ => ?_)
          clear hK K z0 z1 z2 z3 zf zf0 zf1 zf2 zf3
          refine wpAnyH_take (i := 10) (v := ?_) rfl (by kernel_rfl) (by kernel_rfl) (by kernel_rfl) (fun _ _ _ h => h) (Or.inl ⟨by rfl, ?_⟩) (HS.out _ D_q5.out) ?_
          rotate_left 1
          next => intro w hSw; rw [hSe] at hSw; obtain ⟨u0, u1, u2, u3, _, _⟩ := hSw; go_simp; try with_reducible rfl
          try simp only [Act.put, List.getElem_toArray, List.getElem_cons_zero, List.getElem_cons_succ, List.setIfInBounds_toArray, List.set_cons_zero, List.set_cons_succ]
          refine wpAnyH_done (by kernel_rfl) ?_ _
          have hbc := D_q5.out
          have b_8 := Lib.hid (b_7.out.trans (hbc.mono b_7.out.size))
          have r_8 := Lib.hid (r_7.out.below hbc r_7.out.2.2.2.2.2)
          have A_8 := Lib.hid (A_7.out.below hbc)
          have B_8 := Lib.hid (B_7.out.below hbc)
          have ab_8 := Lib.hid (ab_7.out.below hbc)
          have xx_8 := Lib.hid (xx_7.out.below hbc xx_7.out.2.2.2.2.2)
          have xy_8 := Lib.hid (xy_7.out.below hbc xy_7.out.2.2.2.2.2)
          clear b_7 r_7 A_7 B_7 ab_7 xx_7 xy_7
          have xs_8 := N_q5
          clear hbc HS hSe HD leN
          skip
          obtain ⟨r0, r1, r2, r3, _, _⟩ := r_8.out
          go_wp2_with fail
          refine (HAt.out _ _ _ _ _ _ _ _ 56 16 (ab_8.out.pi (by decide)) ab_8.out.isp (by decide) (by decide)).mono ?_
          rintro e y9 ⟨Pt, Qt, rfl, qt, vt, at_, bt, hbc⟩
          dsimp only
          have b_9 := Lib.hid (b_8.out.trans (hbc.mono b_8.out.size))
          have r_9 := Lib.hid (r_8.out.below hbc r_8.out.2.2.2.2.2)
          have A_9 := Lib.hid (A_8.out.below hbc)
          have B_9 := Lib.hid (B_8.out.below hbc)
          have ab_9 := Lib.hid (ab_8.out.below hbc)
          have xx_9 := Lib.hid (xx_8.out.below hbc xx_8.out.2.2.2.2.2)
          have xy_9 := Lib.hid (xy_8.out.below hbc xy_8.out.2.2.2.2.2)
          have xs_9 := Lib.hid (xs_8.out.below hbc xs_8.out.2.2.2.2.2)
          clear b_8 r_8 A_8 B_8 ab_8 xx_8 xy_8 xs_8
          have Kt := Lib.hid (And.intro qt (And.intro vt (And.intro at_ bt)))
          clear qt vt at_ bt
          unfold ratV
          try dsimp only
          obtain ⟨Ct, hCt⟩ : ∃ z, canon Pt = z := ⟨_, rfl⟩
          obtain ⟨Dt, hDt⟩ : ∃ z, canon Qt = z := ⟨_, rfl⟩
          rw [hCt, hDt]
          have Et := Lib.hid (And.intro hCt hDt)
          clear hCt hDt
          go_upto_region 8 with (fail)
          have hbx := Box4.new y9 (.bool Ct.neg) (.string Ct.mag) (.bool Dt.neg) (.string Dt.mag) 41
          have hbc := (Below.refl y9.heap.size y9).alloc (Nat.le_refl _) (.cells #[.bool Ct.neg, .string Ct.mag, .bool Dt.neg, .string Dt.mag] 41)
          have b_10 := Lib.hid (b_9.out.trans (hbc.mono b_9.out.size))
          have r_10 := Lib.hid (r_9.out.below hbc r_9.out.2.2.2.2.2)
          have A_10 := Lib.hid (A_9.out.below hbc)
          have B_10 := Lib.hid (B_9.out.below hbc)
          have ab_10 := Lib.hid (ab_9.out.below hbc)
          have xx_10 := Lib.hid (xx_9.out.below hbc xx_9.out.2.2.2.2.2)
          have xy_10 := Lib.hid (xy_9.out.below hbc xy_9.out.2.2.2.2.2)
          have xs_10 := Lib.hid (xs_9.out.below hbc xs_9.out.2.2.2.2.2)
          clear b_9 r_9 A_9 B_9 ab_9 xx_9 xy_9 xs_9
          obtain ⟨gt, hgt⟩ : ∃ k, y9.heap.size = k := ⟨_, rfl⟩
          rw [hgt] at hbx ⊢
          clear hgt hbc
          generalize y9.alloc (.cells #[.bool Ct.neg, .string Ct.mag, .bool Dt.neg, .string Dt.mag] 41) = y10 at *
          have xt_10 := Lib.hid hbx
          clear hbx
          go_wp2_with fail
          refine (derI _ _ _ _ _ _ N F 24 8 A_10.out iA.out (by decide) (by decide)).mono ?_
          rintro e y11 ⟨da, cda, Fda, rfl, hda, dda, hbc⟩
          dsimp only
          have b_11 := Lib.hid (b_10.out.trans (hbc.mono b_10.out.size))
          have r_11 := Lib.hid (r_10.out.below hbc r_10.out.2.2.2.2.2)
          have A_11 := Lib.hid (A_10.out.below hbc)
          have B_11 := Lib.hid (B_10.out.below hbc)
          have ab_11 := Lib.hid (ab_10.out.below hbc)
          have xx_11 := Lib.hid (xx_10.out.below hbc xx_10.out.2.2.2.2.2)
          have xy_11 := Lib.hid (xy_10.out.below hbc xy_10.out.2.2.2.2.2)
          have xs_11 := Lib.hid (xs_10.out.below hbc xs_10.out.2.2.2.2.2)
          have xt_11 := Lib.hid (xt_10.out.below hbc xt_10.out.2.2.2.2.2)
          clear b_10 r_10 A_10 B_10 ab_10 xx_10 xy_10 xs_10 xt_10
          have da_11 := Lib.hid (hda)
          have Dda := Lib.hid dda
          clear dda hda
          go_wp2_with fail
          refine (mulI _ _ _ _ _ _ _ _ _ _ _ 34 24 8 8 (da_11.out.pi (by decide)) B_11.out (by decide) (by decide) (by decide)).mono ?_
          rintro e y12 ⟨p1, cp1, Np1, Fp1, rfl, hp1, hbc⟩
          dsimp only
          have b_12 := Lib.hid (b_11.out.trans (hbc.mono b_11.out.size))
          have r_12 := Lib.hid (r_11.out.below hbc r_11.out.2.2.2.2.2)
          have A_12 := Lib.hid (A_11.out.below hbc)
          have B_12 := Lib.hid (B_11.out.below hbc)
          have ab_12 := Lib.hid (ab_11.out.below hbc)
          have xx_12 := Lib.hid (xx_11.out.below hbc xx_11.out.2.2.2.2.2)
          have xy_12 := Lib.hid (xy_11.out.below hbc xy_11.out.2.2.2.2.2)
          have xs_12 := Lib.hid (xs_11.out.below hbc xs_11.out.2.2.2.2.2)
          have xt_12 := Lib.hid (xt_11.out.below hbc xt_11.out.2.2.2.2.2)
          clear b_11 r_11 A_11 B_11 ab_11 xx_11 xy_11 xs_11 xt_11 da_11
          have p1_12 := Lib.hid (hp1)
          go_wp2_with fail
          refine (derI _ _ _ _ _ _ M G 24 8 B_12.out iB.out (by decide) (by decide)).mono ?_
          rintro e y13 ⟨db, cdb, Fdb, rfl, hdb, ddb, hbc⟩
          dsimp only
          have b_13 := Lib.hid (b_12.out.trans (hbc.mono b_12.out.size))
          have r_13 := Lib.hid (r_12.out.below hbc r_12.out.2.2.2.2.2)
          have A_13 := Lib.hid (A_12.out.below hbc)
          have B_13 := Lib.hid (B_12.out.below hbc)
          have ab_13 := Lib.hid (ab_12.out.below hbc)
          have xx_13 := Lib.hid (xx_12.out.below hbc xx_12.out.2.2.2.2.2)
          have xy_13 := Lib.hid (xy_12.out.below hbc xy_12.out.2.2.2.2.2)
          have xs_13 := Lib.hid (xs_12.out.below hbc xs_12.out.2.2.2.2.2)
          have xt_13 := Lib.hid (xt_12.out.below hbc xt_12.out.2.2.2.2.2)
          have p1_13 := Lib.hid (p1_12.out.below hbc)
          clear b_12 r_12 A_12 B_12 ab_12 xx_12 xy_12 xs_12 xt_12 p1_12
          have db_13 := Lib.hid (hdb)
          have Ddb := Lib.hid ddb
          clear ddb hdb
          go_wp2_with fail
          refine (mulI _ _ _ _ _ _ _ _ _ _ _ 24 34 8 8 A_13.out (db_13.out.pi (by decide)) (by decide) (by decide) (by decide)).mono ?_
          rintro e y14 ⟨p2, cp2, Np2, Fp2, rfl, hp2, hbc⟩
          dsimp only
          have b_14 := Lib.hid (b_13.out.trans (hbc.mono b_13.out.size))
          have r_14 := Lib.hid (r_13.out.below hbc r_13.out.2.2.2.2.2)
          have A_14 := Lib.hid (A_13.out.below hbc)
          have B_14 := Lib.hid (B_13.out.below hbc)
          have ab_14 := Lib.hid (ab_13.out.below hbc)
          have xx_14 := Lib.hid (xx_13.out.below hbc xx_13.out.2.2.2.2.2)
          have xy_14 := Lib.hid (xy_13.out.below hbc xy_13.out.2.2.2.2.2)
          have xs_14 := Lib.hid (xs_13.out.below hbc xs_13.out.2.2.2.2.2)
          have xt_14 := Lib.hid (xt_13.out.below hbc xt_13.out.2.2.2.2.2)
          have p1_14 := Lib.hid (p1_13.out.below hbc)
          clear b_13 r_13 A_13 B_13 ab_13 xx_13 xy_13 xs_13 xt_13 p1_13 db_13
          have p2_14 := Lib.hid (hp2)
          have HAdd := Lib.hid (fun W => rAddV ea eb u v Px Qx Py Qy Ps Qs 2000 Hv0.out Kx.out.1 Ky.out.1 Ks.out.1 Kx.out.2.1 Ky.out.2.1 Ks.out.2.1 (by decide) (Kx.out.2.2.1.up (by decide)) (Kx.out.2.2.2.up (by decide)) (Ky.out.2.2.1.up (by decide)) (Ky.out.2.2.2.up (by decide)) W)
          have HMul := Lib.hid (fun W => rMulV ea eb u v Px Qx Py Qy Pt Qt 2000 Hv0.out Kx.out.1 Ky.out.1 Kt.out.1 Kx.out.2.1 Ky.out.2.1 Kt.out.2.1 (by decide) (Kx.out.2.2.1.up (by decide)) (Kx.out.2.2.2.up (by decide)) (Ky.out.2.2.1.up (by decide)) (Ky.out.2.2.2.up (by decide)) W)
          have HChk := Lib.hid (fun W => chkR_any Ps Qs (e := 2000) Ks.out.1 (Ks.out.2.2.1.up (by decide)) (Ks.out.2.2.2.up (by decide)) (by decide) W)
          unfold RetR ratV at HAdd HMul
          unfold ratV at HChk
          rw [Ex.out.1, Ex.out.2, Ey.out.1, Ey.out.2, Es.out.1, Es.out.2] at HAdd
          rw [Ex.out.1, Ex.out.2, Ey.out.1, Ey.out.2, Et.out.1, Et.out.2] at HMul
          rw [Es.out.1, Es.out.2] at HChk
          have q1 : (Cs.neg == Cs.neg) = true := beq_self_eq_true _
          have q2 : (Cs.mag.toList == Cs.mag.toList) = true := beq_self_eq_true _
          have q3 : (Ds.neg == Ds.neg) = true := beq_self_eq_true _
          have q4 : (Ds.mag.toList == Ds.mag.toList) = true := beq_self_eq_true _
          have q5 : (Ct.neg == Ct.neg) = true := beq_self_eq_true _
          have q6 : (Ct.mag.toList == Ct.mag.toList) = true := beq_self_eq_true _
          have q7 : (Dt.neg == Dt.neg) = true := beq_self_eq_true _
          have q8 : (Dt.mag.toList == Dt.mag.toList) = true := beq_self_eq_true _
          clear Kx Ky Ks Kt Ex Ey Es Et
          have HDe : Hid (∀ (h : Int → Int), Der (fun x => ea x * eb x) h → ∀ x, h x = ypol (deC F) (N - 1) x * eb x + ea x * ypol (deC G) (M - 1) x) := Lib.hid (fun h hd x => hd.unique (Dda.out.mul Ddb.out) x)
          clear Dda Ddb
          go_upto_region 10 with (fail)
          obtain ⟨SS, hSe⟩ : ∃ SS : World → Prop, SS = fun W => W.cell? ⟨gN, 0, none⟩ = some (.bool Cs.neg) ∧ W.cell? ⟨gN, 1, none⟩ = some (.string Cs.mag) ∧ W.cell? ⟨gN, 2, none⟩ = some (.bool Ds.neg) ∧ W.cell? ⟨gN, 3, none⟩ = some (.string Ds.mag) ∧ W.cell? ⟨gx, 0, none⟩ = some (.bool Cx.neg) ∧ W.cell? ⟨gx, 1, none⟩ = some (.string Cx.mag) ∧ W.cell? ⟨gx, 2, none⟩ = some (.bool Dx.neg) ∧ W.cell? ⟨gx, 3, none⟩ = some (.string Dx.mag) ∧ W.cell? ⟨gy, 0, none⟩ = some (.bool Cy.neg) ∧ W.cell? ⟨gy, 1, none⟩ = some (.string Cy.mag) ∧ W.cell? ⟨gy, 2, none⟩ = some (.bool Dy.neg) ∧ W.cell? ⟨gy, 3, none⟩ = some (.string Dy.mag) ∧ W.cell? ⟨gt, 0, none⟩ = some (.bool Ct.neg) ∧ W.cell? ⟨gt, 1, none⟩ = some (.string Ct.mag) ∧ W.cell? ⟨gt, 2, none⟩ = some (.bool Dt.neg) ∧ W.cell? ⟨gt, 3, none⟩ = some (.string Dt.mag) := ⟨_, rfl⟩
          have HS : Hid (∀ W, Below y14.heap.size y14 W → SS W) := Lib.hid (fun W hW => by
            have xs' := xs_14.out.below hW xs_14.out.2.2.2.2.2
            have xx' := xx_14.out.below hW xx_14.out.2.2.2.2.2
            have xy' := xy_14.out.below hW xy_14.out.2.2.2.2.2
            have xt' := xt_14.out.below hW xt_14.out.2.2.2.2.2
            rw [hSe]; exact ⟨xs'.1, xs'.2.1, xs'.2.2.1, xs'.2.2.2.1, xx'.1, xx'.2.1, xx'.2.2.1, xx'.2.2.2.1, xy'.1, xy'.2.1, xy'.2.2.1, xy'.2.2.2.1, xt'.1, xt'.2.1, xt'.2.2.1, xt'.2.2.2.1⟩)
          have hd : Below y14.heap.size y14 y14.drew := (Below.refl _ _).drew
          refine wp_region_held_drew (S := SS) (by kernel_rfl) (HS.out _ hd) (fun hSS => ?_)
          refine wpAnyH_take (i := 0) (v := ?_) rfl (by kernel_rfl) (by kernel_rfl) (by kernel_rfl) (fun _ _ _ h => h) (Or.inl ⟨by rfl, ?_⟩) (HS.out _ hd) ?_
          rotate_left 1
          next => intro w hSw; rw [hSe] at hSw; obtain ⟨s1, s2, s3, s4, s5, s6, s7, s8, s9, s10, s11, s12, s13, s14, s15, s16⟩ := hSw; go_simp; try with_reducible rfl
          try simp only [Act.put, List.getElem_toArray, List.getElem_cons_zero, List.getElem_cons_succ, List.setIfInBounds_toArray, List.set_cons_zero, List.set_cons_succ]
          refine wpAnyH_take (i := 1) (v := ?_) rfl (by kernel_rfl) (by kernel_rfl) (by kernel_rfl) (fun _ _ _ h => h) (Or.inl ⟨by rfl, ?_⟩) (HS.out _ hd) ?_
          rotate_left 1
          next => intro w hSw; rw [hSe] at hSw; obtain ⟨s1, s2, s3, s4, s5, s6, s7, s8, s9, s10, s11, s12, s13, s14, s15, s16⟩ := hSw; go_simp; try with_reducible rfl
          try simp only [Act.put, List.getElem_toArray, List.getElem_cons_zero, List.getElem_cons_succ, List.setIfInBounds_toArray, List.set_cons_zero, List.set_cons_succ]
          refine wpAnyH_take (i := 2) (v := ?_) rfl (by kernel_rfl) (by kernel_rfl) (by kernel_rfl) (fun _ _ _ h => h) (Or.inl ⟨by rfl, ?_⟩) (HS.out _ hd) ?_
          rotate_left 1
          next => intro w hSw; rw [hSe] at hSw; obtain ⟨s1, s2, s3, s4, s5, s6, s7, s8, s9, s10, s11, s12, s13, s14, s15, s16⟩ := hSw; go_simp; try with_reducible rfl
          try simp only [Act.put, List.getElem_toArray, List.getElem_cons_zero, List.getElem_cons_succ, List.setIfInBounds_toArray, List.set_cons_zero, List.set_cons_succ]
          refine wpAnyH_take (i := 3) (v := ?_) rfl (by kernel_rfl) (by kernel_rfl) (by kernel_rfl) (fun _ _ _ h => h) (Or.inl ⟨by rfl, ?_⟩) (HS.out _ hd) ?_
          rotate_left 1
          next => intro w hSw; rw [hSe] at hSw; obtain ⟨s1, s2, s3, s4, s5, s6, s7, s8, s9, s10, s11, s12, s13, s14, s15, s16⟩ := hSw; go_simp; try with_reducible rfl
          try simp only [Act.put, List.getElem_toArray, List.getElem_cons_zero, List.getElem_cons_succ, List.setIfInBounds_toArray, List.set_cons_zero, List.set_cons_succ]
          refine wpAnyH_take (i := 4) (v := ?_) rfl (by kernel_rfl) (by kernel_rfl) (by kernel_rfl) (fun _ _ _ h => h) (Or.inl ⟨by rfl, ?_⟩) (HS.out _ hd) ?_
          rotate_left 1
          next => intro w hSw; rw [hSe] at hSw; obtain ⟨s1, s2, s3, s4, s5, s6, s7, s8, s9, s10, s11, s12, s13, s14, s15, s16⟩ := hSw; go_simp; try with_reducible rfl
          try simp only [Act.put, List.getElem_toArray, List.getElem_cons_zero, List.getElem_cons_succ, List.setIfInBounds_toArray, List.set_cons_zero, List.set_cons_succ]
          refine wpAnyH_take (i := 5) (v := ?_) rfl (by kernel_rfl) (by kernel_rfl) (by kernel_rfl) (fun _ _ _ h => h) (Or.inl ⟨by rfl, ?_⟩) (HS.out _ hd) ?_
          rotate_left 1
          next => intro w hSw; rw [hSe] at hSw; obtain ⟨s1, s2, s3, s4, s5, s6, s7, s8, s9, s10, s11, s12, s13, s14, s15, s16⟩ := hSw; go_simp; try with_reducible rfl
          try simp only [Act.put, List.getElem_toArray, List.getElem_cons_zero, List.getElem_cons_succ, List.setIfInBounds_toArray, List.set_cons_zero, List.set_cons_succ]
          refine wpAnyH_take (i := 6) (v := ?_) rfl (by kernel_rfl) (by kernel_rfl) (by kernel_rfl) (fun _ _ _ h => h) (Or.inl ⟨by rfl, ?_⟩) (HS.out _ hd) ?_
          rotate_left 1
          next => intro w hSw; rw [hSe] at hSw; obtain ⟨s1, s2, s3, s4, s5, s6, s7, s8, s9, s10, s11, s12, s13, s14, s15, s16⟩ := hSw; go_simp; try with_reducible rfl
          try simp only [Act.put, List.getElem_toArray, List.getElem_cons_zero, List.getElem_cons_succ, List.setIfInBounds_toArray, List.set_cons_zero, List.set_cons_succ]
          refine wpAnyH_take (i := 7) (v := ?_) rfl (by kernel_rfl) (by kernel_rfl) (by kernel_rfl) (fun _ _ _ h => h) (Or.inl ⟨by rfl, ?_⟩) (HS.out _ hd) ?_
          rotate_left 1
          next => intro w hSw; rw [hSe] at hSw; obtain ⟨s1, s2, s3, s4, s5, s6, s7, s8, s9, s10, s11, s12, s13, s14, s15, s16⟩ := hSw; go_simp; try with_reducible rfl
          try simp only [Act.put, List.getElem_toArray, List.getElem_cons_zero, List.getElem_cons_succ, List.setIfInBounds_toArray, List.set_cons_zero, List.set_cons_succ]
          refine wpAnyH_take (i := 8) (v := ?_) rfl (by kernel_rfl) (by kernel_rfl) (by kernel_rfl) (fun _ _ _ h => h) (Or.inl ⟨by rfl, ?_⟩) (HS.out _ hd) ?_
          rotate_left 1
          next => intro w hSw; rw [hSe] at hSw; obtain ⟨s1, s2, s3, s4, s5, s6, s7, s8, s9, s10, s11, s12, s13, s14, s15, s16⟩ := hSw; go_simp; try with_reducible rfl
          try simp only [Act.put, List.getElem_toArray, List.getElem_cons_zero, List.getElem_cons_succ, List.setIfInBounds_toArray, List.set_cons_zero, List.set_cons_succ]
          refine wpAnyH_take (i := 9) (v := ?_) rfl (by kernel_rfl) (by kernel_rfl) (by kernel_rfl) (fun _ _ _ h => h) (Or.inl ⟨by rfl, ?_⟩) (HS.out _ hd) ?_
          rotate_left 1
          next => intro w hSw; rw [hSe] at hSw; obtain ⟨s1, s2, s3, s4, s5, s6, s7, s8, s9, s10, s11, s12, s13, s14, s15, s16⟩ := hSw; go_simp; try with_reducible rfl
          try simp only [Act.put, List.getElem_toArray, List.getElem_cons_zero, List.getElem_cons_succ, List.setIfInBounds_toArray, List.set_cons_zero, List.set_cons_succ]
          refine wpAnyH_take (i := 10) (v := ?_) rfl (by kernel_rfl) (by kernel_rfl) (by kernel_rfl) (fun _ _ _ h => h) (Or.inl ⟨by rfl, ?_⟩) (HS.out _ hd) ?_
          rotate_left 1
          next => intro w hSw; rw [hSe] at hSw; obtain ⟨s1, s2, s3, s4, s5, s6, s7, s8, s9, s10, s11, s12, s13, s14, s15, s16⟩ := hSw; go_simp; try with_reducible rfl
          try simp only [Act.put, List.getElem_toArray, List.getElem_cons_zero, List.getElem_cons_succ, List.setIfInBounds_toArray, List.set_cons_zero, List.set_cons_succ]
          refine wpAnyH_take (i := 11) (v := ?_) rfl (by kernel_rfl) (by kernel_rfl) (by kernel_rfl) (fun _ _ _ h => h) (Or.inl ⟨by rfl, ?_⟩) (HS.out _ hd) ?_
          rotate_left 1
          next => intro w hSw; rw [hSe] at hSw; obtain ⟨s1, s2, s3, s4, s5, s6, s7, s8, s9, s10, s11, s12, s13, s14, s15, s16⟩ := hSw; go_simp; try with_reducible rfl
          try simp only [Act.put, List.getElem_toArray, List.getElem_cons_zero, List.getElem_cons_succ, List.setIfInBounds_toArray, List.set_cons_zero, List.set_cons_succ]
          refine wpAnyH_take (i := 12) (v := ?_) rfl (by kernel_rfl) (by kernel_rfl) (by kernel_rfl) (fun _ _ _ h => h) (Or.inl ⟨by rfl, ?_⟩) (HS.out _ hd) ?_
          rotate_left 1
          next => intro w hSw; rw [hSe] at hSw; obtain ⟨s1, s2, s3, s4, s5, s6, s7, s8, s9, s10, s11, s12, s13, s14, s15, s16⟩ := hSw; go_simp; try with_reducible rfl
          try simp only [Act.put, List.getElem_toArray, List.getElem_cons_zero, List.getElem_cons_succ, List.setIfInBounds_toArray, List.set_cons_zero, List.set_cons_succ]
          try simp only [Act.put, List.getElem_toArray, List.getElem_cons_zero, List.getElem_cons_succ, List.setIfInBounds_toArray, List.set_cons_zero, List.set_cons_succ]
          refine wpAnyH_ready (rs := [13]) (by kernel_rfl) (by simp) ?_
          refine AllReadyH.cons rfl (fun K hK => ?_) AllReadyH.nil
          go_simp
          refine (HAdd.out _).mono ?_
          rintro e w1 ⟨rfl, hbc⟩
          have hb1 : Below y14.heap.size y14 w1 := hd.trans (hbc.mono hd.size)
          dsimp only
          refine hK.out _ _ (HS.out _ hb1) (fun _ => ?_)
          clear hK K hbc
          refine wpAnyH_take (i := 14) (v := ?_) rfl (by kernel_rfl) (by kernel_rfl) (by kernel_rfl) (fun _ _ _ h => h) (Or.inl ⟨by rfl, ?_⟩) (HS.out _ hb1) ?_
          rotate_left 1
          next => intro w hSw; rw [hSe] at hSw; obtain ⟨s1, s2, s3, s4, s5, s6, s7, s8, s9, s10, s11, s12, s13, s14, s15, s16⟩ := hSw; go_simp; try with_reducible rfl
          try simp only [Act.put, List.getElem_toArray, List.getElem_cons_zero, List.getElem_cons_succ, List.setIfInBounds_toArray, List.set_cons_zero, List.set_cons_succ]
          refine wpAnyH_take (i := 15) (v := ?_) rfl (by kernel_rfl) (by kernel_rfl) (by kernel_rfl) (fun _ _ _ h => h) (Or.inl ⟨by rfl, ?_⟩) (HS.out _ hb1) ?_
          rotate_left 1
          next => intro w hSw; rw [hSe] at hSw; obtain ⟨s1, s2, s3, s4, s5, s6, s7, s8, s9, s10, s11, s12, s13, s14, s15, s16⟩ := hSw; go_simp; try with_reducible rfl
          try simp only [Act.put, List.getElem_toArray, List.getElem_cons_zero, List.getElem_cons_succ, List.setIfInBounds_toArray, List.set_cons_zero, List.set_cons_succ]
          refine wpAnyH_take (i := 16) (v := ?_) rfl (by kernel_rfl) (by kernel_rfl) (by kernel_rfl) (fun _ _ _ h => h) (Or.inl ⟨by rfl, ?_⟩) (HS.out _ hb1) ?_
          rotate_left 1
          next => intro w hSw; rw [hSe] at hSw; obtain ⟨s1, s2, s3, s4, s5, s6, s7, s8, s9, s10, s11, s12, s13, s14, s15, s16⟩ := hSw; go_simp; try with_reducible rfl
          try simp only [Act.put, List.getElem_toArray, List.getElem_cons_zero, List.getElem_cons_succ, List.setIfInBounds_toArray, List.set_cons_zero, List.set_cons_succ]
          refine wpAnyH_take (i := 17) (v := ?_) rfl (by kernel_rfl) (by kernel_rfl) (by kernel_rfl) (fun _ _ _ h => h) (Or.inl ⟨by rfl, ?_⟩) (HS.out _ hb1) ?_
          rotate_left 1
          next => intro w hSw; rw [hSe] at hSw; obtain ⟨s1, s2, s3, s4, s5, s6, s7, s8, s9, s10, s11, s12, s13, s14, s15, s16⟩ := hSw; go_simp; try with_reducible rfl
          try simp only [Act.put, List.getElem_toArray, List.getElem_cons_zero, List.getElem_cons_succ, List.setIfInBounds_toArray, List.set_cons_zero, List.set_cons_succ]
          refine wpAnyH_take (i := 18) (v := ?_) rfl (by kernel_rfl) (by kernel_rfl) (by kernel_rfl) (fun _ _ _ h => h) (Or.inl ⟨by rfl, ?_⟩) (HS.out _ hb1) ?_
          rotate_left 1
          next => intro w hSw; rw [hSe] at hSw; obtain ⟨s1, s2, s3, s4, s5, s6, s7, s8, s9, s10, s11, s12, s13, s14, s15, s16⟩ := hSw; go_simp; try with_reducible rfl
          try simp only [Act.put, List.getElem_toArray, List.getElem_cons_zero, List.getElem_cons_succ, List.setIfInBounds_toArray, List.set_cons_zero, List.set_cons_succ]
          refine wpAnyH_take (i := 19) (v := ?_) rfl (by kernel_rfl) (by kernel_rfl) (by kernel_rfl) (fun _ _ _ h => h) (Or.inl ⟨by rfl, ?_⟩) (HS.out _ hb1) ?_
          rotate_left 1
          next => intro w hSw; rw [hSe] at hSw; obtain ⟨s1, s2, s3, s4, s5, s6, s7, s8, s9, s10, s11, s12, s13, s14, s15, s16⟩ := hSw; go_simp; try with_reducible rfl
          try simp only [Act.put, List.getElem_toArray, List.getElem_cons_zero, List.getElem_cons_succ, List.setIfInBounds_toArray, List.set_cons_zero, List.set_cons_succ]
          try simp only [Act.put, List.getElem_toArray, List.getElem_cons_zero, List.getElem_cons_succ, List.setIfInBounds_toArray, List.set_cons_zero, List.set_cons_succ]
          refine wpAnyH_ready (rs := [20]) (by kernel_rfl) (by simp) ?_
          refine AllReadyH.cons rfl (fun K hK => ?_) AllReadyH.nil
          go_simp
          refine (HMul.out _).mono ?_
          rintro e w2 ⟨rfl, hbc⟩
          have hb2 : Below y14.heap.size y14 w2 := hb1.trans (hbc.mono hb1.size)
          dsimp only
          refine hK.out _ _ (HS.out _ hb2) (fun _ => ?_)
          clear hK K hbc
          refine wpAnyH_take (i := 21) (v := ?_) rfl (by kernel_rfl) (by kernel_rfl) (by kernel_rfl) (fun _ _ _ h => h) (Or.inl ⟨by rfl, ?_⟩) (HS.out _ hb2) ?_
          rotate_left 1
          next => intro w hSw; rw [hSe] at hSw; obtain ⟨s1, s2, s3, s4, s5, s6, s7, s8, s9, s10, s11, s12, s13, s14, s15, s16⟩ := hSw; go_simp; try with_reducible rfl
          try simp only [Act.put, List.getElem_toArray, List.getElem_cons_zero, List.getElem_cons_succ, List.setIfInBounds_toArray, List.set_cons_zero, List.set_cons_succ]
          refine wpAnyH_take (i := 22) (v := ?_) rfl (by kernel_rfl) (by kernel_rfl) (by kernel_rfl) (fun _ _ _ h => h) (Or.inl ⟨by rfl, ?_⟩) (HS.out _ hb2) ?_
          rotate_left 1
          next => intro w hSw; rw [hSe] at hSw; obtain ⟨s1, s2, s3, s4, s5, s6, s7, s8, s9, s10, s11, s12, s13, s14, s15, s16⟩ := hSw; go_simp; try with_reducible rfl
          try simp only [Act.put, List.getElem_toArray, List.getElem_cons_zero, List.getElem_cons_succ, List.setIfInBounds_toArray, List.set_cons_zero, List.set_cons_succ]
          refine wpAnyH_take (i := 23) (v := ?_) rfl (by kernel_rfl) (by kernel_rfl) (by kernel_rfl) (fun _ _ _ h => h) (Or.inl ⟨by rfl, ?_⟩) (HS.out _ hb2) ?_
          rotate_left 1
          next => intro w hSw; rw [hSe] at hSw; obtain ⟨s1, s2, s3, s4, s5, s6, s7, s8, s9, s10, s11, s12, s13, s14, s15, s16⟩ := hSw; go_simp; try with_reducible rfl
          try simp only [Act.put, List.getElem_toArray, List.getElem_cons_zero, List.getElem_cons_succ, List.setIfInBounds_toArray, List.set_cons_zero, List.set_cons_succ]
          refine wpAnyH_take (i := 24) (v := ?_) rfl (by kernel_rfl) (by kernel_rfl) (by kernel_rfl) (fun _ _ _ h => h) (Or.inl ⟨by rfl, ?_⟩) (HS.out _ hb2) ?_
          rotate_left 1
          next => intro w hSw; rw [hSe] at hSw; obtain ⟨s1, s2, s3, s4, s5, s6, s7, s8, s9, s10, s11, s12, s13, s14, s15, s16⟩ := hSw; go_simp; try with_reducible rfl
          try simp only [Act.put, List.getElem_toArray, List.getElem_cons_zero, List.getElem_cons_succ, List.setIfInBounds_toArray, List.set_cons_zero, List.set_cons_succ]
          try simp only [Act.put, List.getElem_toArray, List.getElem_cons_zero, List.getElem_cons_succ, List.setIfInBounds_toArray, List.set_cons_zero, List.set_cons_succ]
          refine wpAnyH_ready (rs := [25]) (by kernel_rfl) (by simp) ?_
          refine AllReadyH.cons rfl (fun K hK => ?_) AllReadyH.nil
          go_simp
          refine (HChk.out _).mono ?_
          rintro e w3 ⟨rfl, hbc⟩
          have hb3 : Below y14.heap.size y14 w3 := hb2.trans (hbc.mono hb2.size)
          dsimp only
          refine hK.out _ _ (HS.out _ hb3) (fun _ => ?_)
          clear hK K hbc
          refine wpAnyH_take (i := 26) (v := ?_) rfl (by kernel_rfl) (by kernel_rfl) (by kernel_rfl) (fun _ _ _ h => h) (Or.inl ⟨by rfl, ?_⟩) (HS.out _ hb3) ?_
          rotate_left 1
          next => intro w hSw; rw [hSe] at hSw; obtain ⟨s1, s2, s3, s4, s5, s6, s7, s8, s9, s10, s11, s12, s13, s14, s15, s16⟩ := hSw; go_simp; try with_reducible rfl
          try simp only [Act.put, List.getElem_toArray, List.getElem_cons_zero, List.getElem_cons_succ, List.setIfInBounds_toArray, List.set_cons_zero, List.set_cons_succ]
          refine wpAnyH_take (i := 27) (v := ?_) rfl (by kernel_rfl) (by kernel_rfl) (by kernel_rfl) (fun _ _ _ h => h) (Or.inl ⟨by rfl, ?_⟩) (HS.out _ hb3) ?_
          rotate_left 1
          next => intro w hSw; rw [hSe] at hSw; obtain ⟨s1, s2, s3, s4, s5, s6, s7, s8, s9, s10, s11, s12, s13, s14, s15, s16⟩ := hSw; go_simp; try with_reducible rfl
          try simp only [Act.put, List.getElem_toArray, List.getElem_cons_zero, List.getElem_cons_succ, List.setIfInBounds_toArray, List.set_cons_zero, List.set_cons_succ]
          refine wpAnyH_take (i := 28) (v := ?_) rfl (by kernel_rfl) (by kernel_rfl) (by kernel_rfl) (fun _ _ _ h => h) (Or.inl ⟨by rfl, ?_⟩) (HS.out _ hb3) ?_
          rotate_left 1
          next => intro w hSw; rw [hSe] at hSw; obtain ⟨s1, s2, s3, s4, s5, s6, s7, s8, s9, s10, s11, s12, s13, s14, s15, s16⟩ := hSw; go_simp; try with_reducible rfl
          try simp only [Act.put, List.getElem_toArray, List.getElem_cons_zero, List.getElem_cons_succ, List.setIfInBounds_toArray, List.set_cons_zero, List.set_cons_succ]
          refine wpAnyH_take (i := 29) (v := ?_) rfl (by kernel_rfl) (by kernel_rfl) (by kernel_rfl) (fun _ _ _ h => h) (Or.inl ⟨by rfl, ?_⟩) (HS.out _ hb3) ?_
          rotate_left 1
          next => intro w hSw; rw [hSe] at hSw; obtain ⟨s1, s2, s3, s4, s5, s6, s7, s8, s9, s10, s11, s12, s13, s14, s15, s16⟩ := hSw; go_simp; try with_reducible rfl
          try simp only [Act.put, List.getElem_toArray, List.getElem_cons_zero, List.getElem_cons_succ, List.setIfInBounds_toArray, List.set_cons_zero, List.set_cons_succ]
          refine wpAnyH_take (i := 31) (v := ?_) rfl (by kernel_rfl) (by kernel_rfl) (by kernel_rfl) (fun _ _ _ h => h) (Or.inl ⟨by rfl, ?_⟩) (HS.out _ hb3) ?_
          rotate_left 1
          next => intro w hSw; rw [hSe] at hSw; obtain ⟨s1, s2, s3, s4, s5, s6, s7, s8, s9, s10, s11, s12, s13, s14, s15, s16⟩ := hSw; go_simp; try with_reducible rfl
          try simp only [Act.put, List.getElem_toArray, List.getElem_cons_zero, List.getElem_cons_succ, List.setIfInBounds_toArray, List.set_cons_zero, List.set_cons_succ]
          refine wpAnyH_take (i := 32) (v := ?_) rfl (by kernel_rfl) (by kernel_rfl) (by kernel_rfl) (fun _ _ _ h => h) (Or.inl ⟨by rfl, ?_⟩) (HS.out _ hb3) ?_
          rotate_left 1
          next => intro w hSw; rw [hSe] at hSw; obtain ⟨s1, s2, s3, s4, s5, s6, s7, s8, s9, s10, s11, s12, s13, s14, s15, s16⟩ := hSw; go_simp; try with_reducible rfl
          try simp only [Act.put, List.getElem_toArray, List.getElem_cons_zero, List.getElem_cons_succ, List.setIfInBounds_toArray, List.set_cons_zero, List.set_cons_succ]
          try simp only [Act.put, List.getElem_toArray, List.getElem_cons_zero, List.getElem_cons_succ, List.setIfInBounds_toArray, List.set_cons_zero, List.set_cons_succ]
          refine wpAnyH_ready (rs := [30]) (by kernel_rfl) (by simp) ?_
          refine AllReadyH.cons rfl (fun K hK => ?_) AllReadyH.nil
          go_simp
          refine (derI _ _ _ _ _ _ _ _ 56 16 ((ab_14.out.below hb3).pi (by decide)) ab_14.out.isp (by decide) (by decide)).mono ?_
          rintro e w4 ⟨dd, cdd, Fdd, rfl, hdd, ddd, hbc⟩
          have hb4 : Below y14.heap.size y14 w4 := hb3.trans (hbc.mono hb3.size)
          dsimp only
          have Hdd := Lib.hid (hdd.congr (HDe.out _ ddd))
          clear hdd ddd
          refine hK.out _ _ (HS.out _ hb4) (fun _ => ?_)
          clear hK K hbc
          try simp only [Act.put, List.getElem_toArray, List.getElem_cons_zero, List.getElem_cons_succ, List.setIfInBounds_toArray, List.set_cons_zero, List.set_cons_succ]
          refine wpAnyH_ready (rs := [33]) (by kernel_rfl) (by simp) ?_
          refine AllReadyH.cons rfl (fun K hK => ?_) AllReadyH.nil
          go_simp
          refine (addI _ _ _ _ _ _ _ _ _ _ _ 66 16 (((p1_14.out.below hb4).pi (by decide)).up (by decide) (by decide)) (((p2_14.out.below hb4).pi (by decide)).up (by decide) (by decide)) (by decide) (by decide)).mono ?_
          rintro e w5 ⟨ss, css, Nss, Fss, rfl, hss, hbc⟩
          have hb5 : Below y14.heap.size y14 w5 := hb4.trans (hbc.mono hb4.size)
          dsimp only
          have Hdd2 := Lib.hid (Hdd.out.below hbc)
          have Hss := Lib.hid hss
          clear hss
          refine hK.out _ _ (HS.out _ hb5) (fun _ => ?_)
          clear hK K hbc
          try simp only [Act.put, List.getElem_toArray, List.getElem_cons_zero, List.getElem_cons_succ, List.setIfInBounds_toArray, List.set_cons_zero, List.set_cons_succ]
          refine wpAnyH_ready (rs := [34]) (by kernel_rfl) (by simp) ?_
          refine AllReadyH.cons rfl (fun K hK => ?_) AllReadyH.nil
          go_simp
          refine (sameI _ _ _ _ _ _ _ _ _ _ _ _ _ _ Hdd2.out Hss.out (by decide)).mono ?_
          rintro e w6 ⟨rfl, hbc⟩
          have hb6 : Below y14.heap.size y14 w6 := hb5.trans (hbc.mono hb5.size)
          dsimp only
          refine hK.out _ _ (HS.out _ hb6) (fun _ => ?_)
          clear hK K hbc
          refine wpAnyH_take (i := 35) (v := ?_) rfl (by kernel_rfl) (by kernel_rfl) (by kernel_rfl) (fun _ _ _ h => h) (Or.inl ⟨by rfl, ?_⟩) (HS.out _ hb6) ?_
          rotate_left 1
          next => intro w hSw; rw [hSe] at hSw; obtain ⟨s1, s2, s3, s4, s5, s6, s7, s8, s9, s10, s11, s12, s13, s14, s15, s16⟩ := hSw; go_simp; try with_reducible rfl
          try simp only [Act.put, List.getElem_toArray, List.getElem_cons_zero, List.getElem_cons_succ, List.setIfInBounds_toArray, List.set_cons_zero, List.set_cons_succ]
          refine wpAnyH_take (i := 36) (v := ?_) rfl (by kernel_rfl) (by kernel_rfl) (by kernel_rfl) (fun _ _ _ h => h) (Or.inl ⟨by rfl, ?_⟩) (HS.out _ hb6) ?_
          rotate_left 1
          next => intro w hSw; rw [hSe] at hSw; obtain ⟨s1, s2, s3, s4, s5, s6, s7, s8, s9, s10, s11, s12, s13, s14, s15, s16⟩ := hSw; go_simp; try with_reducible rfl
          try simp only [Act.put, List.getElem_toArray, List.getElem_cons_zero, List.getElem_cons_succ, List.setIfInBounds_toArray, List.set_cons_zero, List.set_cons_succ]
          try simp only [Act.put, List.getElem_toArray, List.getElem_cons_zero, List.getElem_cons_succ, List.setIfInBounds_toArray, List.set_cons_zero, List.set_cons_succ]
          refine wpAnyH_ready (rs := [37]) (by kernel_rfl) (by simp) ?_
          refine AllReadyH.cons rfl (fun K hK => ?_) AllReadyH.nil
          go_simp
          refine (HAw.out _).mono ?_
          rintro e w7 ⟨rfl, hbc⟩
          have hb7 : Below y14.heap.size y14 w7 := hb6.trans (hbc.mono hb6.size)
          dsimp only
          refine hK.out _ _ (HS.out _ hb7) (fun _ => ?_)
          clear hK K hbc
          refine wpAnyH_take (i := 38) (v := ?_) rfl (by kernel_rfl) (by kernel_rfl) (by kernel_rfl) (fun _ _ _ h => h) (Or.inl ⟨by rfl, ?_⟩) (HS.out _ hb7) ?_
          rotate_left 1
          next => intro w hSw; rw [hSe] at hSw; obtain ⟨s1, s2, s3, s4, s5, s6, s7, s8, s9, s10, s11, s12, s13, s14, s15, s16⟩ := hSw; go_simp; try with_reducible rfl
          try simp only [Act.put, List.getElem_toArray, List.getElem_cons_zero, List.getElem_cons_succ, List.setIfInBounds_toArray, List.set_cons_zero, List.set_cons_succ]
          refine wpAnyH_take (i := 39) (v := ?_) rfl (by kernel_rfl) (by kernel_rfl) (by kernel_rfl) (fun _ _ _ h => h) (Or.inl ⟨by rfl, ?_⟩) (HS.out _ hb7) ?_
          rotate_left 1
          next => intro w hSw; rw [hSe] at hSw; obtain ⟨s1, s2, s3, s4, s5, s6, s7, s8, s9, s10, s11, s12, s13, s14, s15, s16⟩ := hSw; go_simp; try with_reducible rfl
          try simp only [Act.put, List.getElem_toArray, List.getElem_cons_zero, List.getElem_cons_succ, List.setIfInBounds_toArray, List.set_cons_zero, List.set_cons_succ]
          refine wpAnyH_done (by kernel_rfl) ?_ _
          go_wp2_with fail
          go_ret
          exact ⟨rfl, b_14.out.trans (hb7.mono b_14.out.size)⟩
        · go_simp
          have hbx := Box4.new (wq2) (.bool false) (.string ⟨#[]⟩) (.bool false) (.string ⟨#[]⟩) 41
          have hbc := (Below.refl (wq2).heap.size (wq2)).alloc (Nat.le_refl _) (.cells #[.bool false, .string ⟨#[]⟩, .bool false, .string ⟨#[]⟩] 41)
          have leN : y7.heap.size ≤ (wq2).heap.size := D_q2.out.size
          have D_q6 := Lib.hid (D_q2.out.trans (hbc.mono D_q2.out.size))
          have s_q6 := Lib.hid (s_q2.out.below hbc)
          refine hK.out _ _ (HS.out _ D_q6.out) (fun _ => ?_)
          clear hK K hbc
          obtain ⟨gN, hgN⟩ : ∃ k, (wq2).heap.size = k := ⟨_, rfl⟩
          have leoN := leN
          rw [hgN] at hbx ⊢
          have leN : y7.heap.size ≤ gN := by rw [← hgN]; exact leoN
          clear hgN leoN
          generalize (wq2).alloc (.cells #[.bool false, .string ⟨#[]⟩, .bool false, .string ⟨#[]⟩] 41) = Wq6 at *
          have N_q6 := Lib.hid hbx
          clear hbx
          try simp only [Act.put, List.getElem_toArray, List.getElem_cons_zero, List.getElem_cons_succ, List.setIfInBounds_toArray, List.set_cons_zero, List.set_cons_succ]
          refine wpAnyH_ready (rs := [4]) (by kernel_rfl) (by simp) ?_
          refine AllReadyH.cons rfl (fun K hK => ?_) AllReadyH.nil
          go_simp
          refine (HAt.out _ _ _ _ _ _ _ _ 25 8 (s_q6.out.pi (by decide)) s_q6.out.isp (by decide) (by decide)).mono ?_
          rintro e wq7 ⟨Ps, Qs, rfl, qs, vs, a_s, b_s, hbc⟩
          have D_q7 := Lib.hid (D_q6.out.trans (hbc.mono D_q6.out.size))
          have s_q7 := Lib.hid (s_q6.out.below hbc)
          have N_q7 := Lib.hid (N_q6.out.below hbc N_q6.out.2.2.2.2.2)
          have Ks := Lib.hid (And.intro qs (And.intro vs (And.intro a_s b_s)))
          clear qs vs a_s b_s
          unfold ratV
          obtain ⟨Cs, hCs⟩ : ∃ z, canon Ps = z := ⟨_, rfl⟩
          obtain ⟨Ds, hDs⟩ : ∃ z, canon Qs = z := ⟨_, rfl⟩
          rw [hCs, hDs]
          have Es := Lib.hid (And.intro hCs hDs)
          clear hCs hDs
          try dsimp only
          refine hK.out _ _ (HS.out _ D_q7.out) (fun _ => ?_)
          clear hK K hbc
          refine wpAnyH_take (i := 5) (v := ?_) rfl (by kernel_rfl) (by kernel_rfl) (by kernel_rfl) (fun _ _ _ h => h) (Or.inl ⟨by rfl, ?_⟩) (HS.out _ D_q7.out) ?_
          rotate_left 1
          next => intro w hSw; rw [hSe] at hSw; obtain ⟨u0, u1, u2, u3, _, _⟩ := hSw; go_simp; try with_reducible rfl
          try simp only [Act.put, List.getElem_toArray, List.getElem_cons_zero, List.getElem_cons_succ, List.setIfInBounds_toArray, List.set_cons_zero, List.set_cons_succ]
          refine wpAnyH_take (i := 6) (v := ?_) rfl (by kernel_rfl) (by kernel_rfl) (by kernel_rfl) (fun _ _ _ h => h) (Or.inl ⟨by rfl, ?_⟩) (HS.out _ D_q7.out) ?_
          rotate_left 1
          next => intro w hSw; rw [hSe] at hSw; obtain ⟨u0, u1, u2, u3, _, _⟩ := hSw; go_simp; try with_reducible rfl
          try simp only [Act.put, List.getElem_toArray, List.getElem_cons_zero, List.getElem_cons_succ, List.setIfInBounds_toArray, List.set_cons_zero, List.set_cons_succ]
          refine wpAnyH_take (i := 7) (v := ?_) rfl (by kernel_rfl) (by kernel_rfl) (by kernel_rfl) (fun _ _ _ h => h) (Or.inl ⟨by rfl, ?_⟩) (HS.out _ D_q7.out) ?_
          rotate_left 1
          next => intro w hSw; rw [hSe] at hSw; obtain ⟨u0, u1, u2, u3, _, _⟩ := hSw; go_simp; try with_reducible rfl
          try simp only [Act.put, List.getElem_toArray, List.getElem_cons_zero, List.getElem_cons_succ, List.setIfInBounds_toArray, List.set_cons_zero, List.set_cons_succ]
          try simp only [Act.put, List.getElem_toArray, List.getElem_cons_zero, List.getElem_cons_succ, List.setIfInBounds_toArray, List.set_cons_zero, List.set_cons_succ]
          refine wpAnyH_ready (rs := [9]) (by kernel_rfl) (by simp) ?_
          refine AllReadyH.cons rfl (fun K hK => ?_) AllReadyH.nil
          obtain ⟨z0, z1, z2, z3, zf, _⟩ := N_q7.out
          have zf0 := zf 0
          have zf1 := zf 1
          have zf2 := zf 2
          have zf3 := zf 3
          have D_q8 := Lib.hid (((((D_q7.out).setCell (p := ⟨gN, 0, none⟩) leN (.bool Cs.neg)).setCell (p := ⟨gN, 1, none⟩) leN (.string Cs.mag)).setCell (p := ⟨gN, 2, none⟩) leN (.bool Ds.neg)).setCell (p := ⟨gN, 3, none⟩) leN (.string Ds.mag))
          have N_q8 := Lib.hid (N_q7.out.set4 (.bool Cs.neg) (.string Cs.mag) (.bool Ds.neg) (.string Ds.mag))
          go_simp
          refine hK.out _ _ (HS.out _ D_q8.out) (fun _ => ?_)
          clear hK K z0 z1 z2 z3 zf zf0 zf1 zf2 zf3
          refine wpAnyH_take (i := 10) (v := ?_) rfl (by kernel_rfl) (by kernel_rfl) (by kernel_rfl) (fun _ _ _ h => h) (Or.inl ⟨by rfl, ?_⟩) (HS.out _ D_q8.out) ?_
          rotate_left 1
          next => intro w hSw; rw [hSe] at hSw; obtain ⟨u0, u1, u2, u3, _, _⟩ := hSw; go_simp; try with_reducible rfl
          try simp only [Act.put, List.getElem_toArray, List.getElem_cons_zero, List.getElem_cons_succ, List.setIfInBounds_toArray, List.set_cons_zero, List.set_cons_succ]
          refine wpAnyH_done (by kernel_rfl) ?_ _
          have hbc := D_q8.out
          have b_8 := Lib.hid (b_7.out.trans (hbc.mono b_7.out.size))
          have r_8 := Lib.hid (r_7.out.below hbc r_7.out.2.2.2.2.2)
          have A_8 := Lib.hid (A_7.out.below hbc)
          have B_8 := Lib.hid (B_7.out.below hbc)
          have ab_8 := Lib.hid (ab_7.out.below hbc)
          have xx_8 := Lib.hid (xx_7.out.below hbc xx_7.out.2.2.2.2.2)
          have xy_8 := Lib.hid (xy_7.out.below hbc xy_7.out.2.2.2.2.2)
          clear b_7 r_7 A_7 B_7 ab_7 xx_7 xy_7
          have xs_8 := N_q8
          clear hbc HS hSe HD leN
          skip
          obtain ⟨r0, r1, r2, r3, _, _⟩ := r_8.out
          go_wp2_with fail
          refine (HAt.out _ _ _ _ _ _ _ _ 56 16 (ab_8.out.pi (by decide)) ab_8.out.isp (by decide) (by decide)).mono ?_
          rintro e y9 ⟨Pt, Qt, rfl, qt, vt, at_, bt, hbc⟩
          dsimp only
          have b_9 := Lib.hid (b_8.out.trans (hbc.mono b_8.out.size))
          have r_9 := Lib.hid (r_8.out.below hbc r_8.out.2.2.2.2.2)
          have A_9 := Lib.hid (A_8.out.below hbc)
          have B_9 := Lib.hid (B_8.out.below hbc)
          have ab_9 := Lib.hid (ab_8.out.below hbc)
          have xx_9 := Lib.hid (xx_8.out.below hbc xx_8.out.2.2.2.2.2)
          have xy_9 := Lib.hid (xy_8.out.below hbc xy_8.out.2.2.2.2.2)
          have xs_9 := Lib.hid (xs_8.out.below hbc xs_8.out.2.2.2.2.2)
          clear b_8 r_8 A_8 B_8 ab_8 xx_8 xy_8 xs_8
          have Kt := Lib.hid (And.intro qt (And.intro vt (And.intro at_ bt)))
          clear qt vt at_ bt
          unfold ratV
          try dsimp only
          obtain ⟨Ct, hCt⟩ : ∃ z, canon Pt = z := ⟨_, rfl⟩
          obtain ⟨Dt, hDt⟩ : ∃ z, canon Qt = z := ⟨_, rfl⟩
          rw [hCt, hDt]
          have Et := Lib.hid (And.intro hCt hDt)
          clear hCt hDt
          go_upto_region 8 with (fail)
          have hbx := Box4.new y9 (.bool Ct.neg) (.string Ct.mag) (.bool Dt.neg) (.string Dt.mag) 41
          have hbc := (Below.refl y9.heap.size y9).alloc (Nat.le_refl _) (.cells #[.bool Ct.neg, .string Ct.mag, .bool Dt.neg, .string Dt.mag] 41)
          have b_10 := Lib.hid (b_9.out.trans (hbc.mono b_9.out.size))
          have r_10 := Lib.hid (r_9.out.below hbc r_9.out.2.2.2.2.2)
          have A_10 := Lib.hid (A_9.out.below hbc)
          have B_10 := Lib.hid (B_9.out.below hbc)
          have ab_10 := Lib.hid (ab_9.out.below hbc)
          have xx_10 := Lib.hid (xx_9.out.below hbc xx_9.out.2.2.2.2.2)
          have xy_10 := Lib.hid (xy_9.out.below hbc xy_9.out.2.2.2.2.2)
          have xs_10 := Lib.hid (xs_9.out.below hbc xs_9.out.2.2.2.2.2)
          clear b_9 r_9 A_9 B_9 ab_9 xx_9 xy_9 xs_9
          obtain ⟨gt, hgt⟩ : ∃ k, y9.heap.size = k := ⟨_, rfl⟩
          rw [hgt] at hbx ⊢
          clear hgt hbc
          generalize y9.alloc (.cells #[.bool Ct.neg, .string Ct.mag, .bool Dt.neg, .string Dt.mag] 41) = y10 at *
          have xt_10 := Lib.hid hbx
          clear hbx
          go_wp2_with fail
          refine (derI _ _ _ _ _ _ N F 24 8 A_10.out iA.out (by decide) (by decide)).mono ?_
          rintro e y11 ⟨da, cda, Fda, rfl, hda, dda, hbc⟩
          dsimp only
          have b_11 := Lib.hid (b_10.out.trans (hbc.mono b_10.out.size))
          have r_11 := Lib.hid (r_10.out.below hbc r_10.out.2.2.2.2.2)
          have A_11 := Lib.hid (A_10.out.below hbc)
          have B_11 := Lib.hid (B_10.out.below hbc)
          have ab_11 := Lib.hid (ab_10.out.below hbc)
          have xx_11 := Lib.hid (xx_10.out.below hbc xx_10.out.2.2.2.2.2)
          have xy_11 := Lib.hid (xy_10.out.below hbc xy_10.out.2.2.2.2.2)
          have xs_11 := Lib.hid (xs_10.out.below hbc xs_10.out.2.2.2.2.2)
          have xt_11 := Lib.hid (xt_10.out.below hbc xt_10.out.2.2.2.2.2)
          clear b_10 r_10 A_10 B_10 ab_10 xx_10 xy_10 xs_10 xt_10
          have da_11 := Lib.hid (hda)
          have Dda := Lib.hid dda
          clear dda hda
          go_wp2_with fail
          refine (mulI _ _ _ _ _ _ _ _ _ _ _ 34 24 8 8 (da_11.out.pi (by decide)) B_11.out (by decide) (by decide) (by decide)).mono ?_
          rintro e y12 ⟨p1, cp1, Np1, Fp1, rfl, hp1, hbc⟩
          dsimp only
          have b_12 := Lib.hid (b_11.out.trans (hbc.mono b_11.out.size))
          have r_12 := Lib.hid (r_11.out.below hbc r_11.out.2.2.2.2.2)
          have A_12 := Lib.hid (A_11.out.below hbc)
          have B_12 := Lib.hid (B_11.out.below hbc)
          have ab_12 := Lib.hid (ab_11.out.below hbc)
          have xx_12 := Lib.hid (xx_11.out.below hbc xx_11.out.2.2.2.2.2)
          have xy_12 := Lib.hid (xy_11.out.below hbc xy_11.out.2.2.2.2.2)
          have xs_12 := Lib.hid (xs_11.out.below hbc xs_11.out.2.2.2.2.2)
          have xt_12 := Lib.hid (xt_11.out.below hbc xt_11.out.2.2.2.2.2)
          clear b_11 r_11 A_11 B_11 ab_11 xx_11 xy_11 xs_11 xt_11 da_11
          have p1_12 := Lib.hid (hp1)
          go_wp2_with fail
          refine (derI _ _ _ _ _ _ M G 24 8 B_12.out iB.out (by decide) (by decide)).mono ?_
          rintro e y13 ⟨db, cdb, Fdb, rfl, hdb, ddb, hbc⟩
          dsimp only
          have b_13 := Lib.hid (b_12.out.trans (hbc.mono b_12.out.size))
          have r_13 := Lib.hid (r_12.out.below hbc r_12.out.2.2.2.2.2)
          have A_13 := Lib.hid (A_12.out.below hbc)
          have B_13 := Lib.hid (B_12.out.below hbc)
          have ab_13 := Lib.hid (ab_12.out.below hbc)
          have xx_13 := Lib.hid (xx_12.out.below hbc xx_12.out.2.2.2.2.2)
          have xy_13 := Lib.hid (xy_12.out.below hbc xy_12.out.2.2.2.2.2)
          have xs_13 := Lib.hid (xs_12.out.below hbc xs_12.out.2.2.2.2.2)
          have xt_13 := Lib.hid (xt_12.out.below hbc xt_12.out.2.2.2.2.2)
          have p1_13 := Lib.hid (p1_12.out.below hbc)
          clear b_12 r_12 A_12 B_12 ab_12 xx_12 xy_12 xs_12 xt_12 p1_12
          have db_13 := Lib.hid (hdb)
          have Ddb := Lib.hid ddb
          clear ddb hdb
          go_wp2_with fail
          refine (mulI _ _ _ _ _ _ _ _ _ _ _ 24 34 8 8 A_13.out (db_13.out.pi (by decide)) (by decide) (by decide) (by decide)).mono ?_
          rintro e y14 ⟨p2, cp2, Np2, Fp2, rfl, hp2, hbc⟩
          dsimp only
          have b_14 := Lib.hid (b_13.out.trans (hbc.mono b_13.out.size))
          have r_14 := Lib.hid (r_13.out.below hbc r_13.out.2.2.2.2.2)
          have A_14 := Lib.hid (A_13.out.below hbc)
          have B_14 := Lib.hid (B_13.out.below hbc)
          have ab_14 := Lib.hid (ab_13.out.below hbc)
          have xx_14 := Lib.hid (xx_13.out.below hbc xx_13.out.2.2.2.2.2)
          have xy_14 := Lib.hid (xy_13.out.below hbc xy_13.out.2.2.2.2.2)
          have xs_14 := Lib.hid (xs_13.out.below hbc xs_13.out.2.2.2.2.2)
          have xt_14 := Lib.hid (xt_13.out.below hbc xt_13.out.2.2.2.2.2)
          have p1_14 := Lib.hid (p1_13.out.below hbc)
          clear b_13 r_13 A_13 B_13 ab_13 xx_13 xy_13 xs_13 xt_13 p1_13 db_13
          have p2_14 := Lib.hid (hp2)
          have HAdd := Lib.hid (fun W => rAddV ea eb u v Px Qx Py Qy Ps Qs 2000 Hv0.out Kx.out.1 Ky.out.1 Ks.out.1 Kx.out.2.1 Ky.out.2.1 Ks.out.2.1 (by decide) (Kx.out.2.2.1.up (by decide)) (Kx.out.2.2.2.up (by decide)) (Ky.out.2.2.1.up (by decide)) (Ky.out.2.2.2.up (by decide)) W)
          have HMul := Lib.hid (fun W => rMulV ea eb u v Px Qx Py Qy Pt Qt 2000 Hv0.out Kx.out.1 Ky.out.1 Kt.out.1 Kx.out.2.1 Ky.out.2.1 Kt.out.2.1 (by decide) (Kx.out.2.2.1.up (by decide)) (Kx.out.2.2.2.up (by decide)) (Ky.out.2.2.1.up (by decide)) (Ky.out.2.2.2.up (by decide)) W)
          have HChk := Lib.hid (fun W => chkR_any Ps Qs (e := 2000) Ks.out.1 (Ks.out.2.2.1.up (by decide)) (Ks.out.2.2.2.up (by decide)) (by decide) W)
          unfold RetR ratV at HAdd HMul
          unfold ratV at HChk
          rw [Ex.out.1, Ex.out.2, Ey.out.1, Ey.out.2, Es.out.1, Es.out.2] at HAdd
          rw [Ex.out.1, Ex.out.2, Ey.out.1, Ey.out.2, Et.out.1, Et.out.2] at HMul
          rw [Es.out.1, Es.out.2] at HChk
          have q1 : (Cs.neg == Cs.neg) = true := beq_self_eq_true _
          have q2 : (Cs.mag.toList == Cs.mag.toList) = true := beq_self_eq_true _
          have q3 : (Ds.neg == Ds.neg) = true := beq_self_eq_true _
          have q4 : (Ds.mag.toList == Ds.mag.toList) = true := beq_self_eq_true _
          have q5 : (Ct.neg == Ct.neg) = true := beq_self_eq_true _
          have q6 : (Ct.mag.toList == Ct.mag.toList) = true := beq_self_eq_true _
          have q7 : (Dt.neg == Dt.neg) = true := beq_self_eq_true _
          have q8 : (Dt.mag.toList == Dt.mag.toList) = true := beq_self_eq_true _
          clear Kx Ky Ks Kt Ex Ey Es Et
          have HDe : Hid (∀ (h : Int → Int), Der (fun x => ea x * eb x) h → ∀ x, h x = ypol (deC F) (N - 1) x * eb x + ea x * ypol (deC G) (M - 1) x) := Lib.hid (fun h hd x => hd.unique (Dda.out.mul Ddb.out) x)
          clear Dda Ddb
          go_upto_region 10 with (fail)
          obtain ⟨SS, hSe⟩ : ∃ SS : World → Prop, SS = fun W => W.cell? ⟨gN, 0, none⟩ = some (.bool Cs.neg) ∧ W.cell? ⟨gN, 1, none⟩ = some (.string Cs.mag) ∧ W.cell? ⟨gN, 2, none⟩ = some (.bool Ds.neg) ∧ W.cell? ⟨gN, 3, none⟩ = some (.string Ds.mag) ∧ W.cell? ⟨gx, 0, none⟩ = some (.bool Cx.neg) ∧ W.cell? ⟨gx, 1, none⟩ = some (.string Cx.mag) ∧ W.cell? ⟨gx, 2, none⟩ = some (.bool Dx.neg) ∧ W.cell? ⟨gx, 3, none⟩ = some (.string Dx.mag) ∧ W.cell? ⟨gy, 0, none⟩ = some (.bool Cy.neg) ∧ W.cell? ⟨gy, 1, none⟩ = some (.string Cy.mag) ∧ W.cell? ⟨gy, 2, none⟩ = some (.bool Dy.neg) ∧ W.cell? ⟨gy, 3, none⟩ = some (.string Dy.mag) ∧ W.cell? ⟨gt, 0, none⟩ = some (.bool Ct.neg) ∧ W.cell? ⟨gt, 1, none⟩ = some (.string Ct.mag) ∧ W.cell? ⟨gt, 2, none⟩ = some (.bool Dt.neg) ∧ W.cell? ⟨gt, 3, none⟩ = some (.string Dt.mag) := ⟨_, rfl⟩
          have HS : Hid (∀ W, Below y14.heap.size y14 W → SS W) := Lib.hid (fun W hW => by
            have xs' := xs_14.out.below hW xs_14.out.2.2.2.2.2
            have xx' := xx_14.out.below hW xx_14.out.2.2.2.2.2
            have xy' := xy_14.out.below hW xy_14.out.2.2.2.2.2
            have xt' := xt_14.out.below hW xt_14.out.2.2.2.2.2
            rw [hSe]; exact ⟨xs'.1, xs'.2.1, xs'.2.2.1, xs'.2.2.2.1, xx'.1, xx'.2.1, xx'.2.2.1, xx'.2.2.2.1, xy'.1, xy'.2.1, xy'.2.2.1, xy'.2.2.2.1, xt'.1, xt'.2.1, xt'.2.2.1, xt'.2.2.2.1⟩)
          have hd : Below y14.heap.size y14 y14.drew := (Below.refl _ _).drew
          refine wp_region_held_drew (S := SS) (by kernel_rfl) (HS.out _ hd) (fun hSS => ?_)
          refine wpAnyH_take (i := 0) (v := ?_) rfl (by kernel_rfl) (by kernel_rfl) (by kernel_rfl) (fun _ _ _ h => h) (Or.inl ⟨by rfl, ?_⟩) (HS.out _ hd) ?_
          rotate_left 1
          next => intro w hSw; rw [hSe] at hSw; obtain ⟨s1, s2, s3, s4, s5, s6, s7, s8, s9, s10, s11, s12, s13, s14, s15, s16⟩ := hSw; go_simp; try with_reducible rfl
          try simp only [Act.put, List.getElem_toArray, List.getElem_cons_zero, List.getElem_cons_succ, List.setIfInBounds_toArray, List.set_cons_zero, List.set_cons_succ]
          refine wpAnyH_take (i := 1) (v := ?_) rfl (by kernel_rfl) (by kernel_rfl) (by kernel_rfl) (fun _ _ _ h => h) (Or.inl ⟨by rfl, ?_⟩) (HS.out _ hd) ?_
          rotate_left 1
          next => intro w hSw; rw [hSe] at hSw; obtain ⟨s1, s2, s3, s4, s5, s6, s7, s8, s9, s10, s11, s12, s13, s14, s15, s16⟩ := hSw; go_simp; try with_reducible rfl
          try simp only [Act.put, List.getElem_toArray, List.getElem_cons_zero, List.getElem_cons_succ, List.setIfInBounds_toArray, List.set_cons_zero, List.set_cons_succ]
          refine wpAnyH_take (i := 2) (v := ?_) rfl (by kernel_rfl) (by kernel_rfl) (by kernel_rfl) (fun _ _ _ h => h) (Or.inl ⟨by rfl, ?_⟩) (HS.out _ hd) ?_
          rotate_left 1
          next => intro w hSw; rw [hSe] at hSw; obtain ⟨s1, s2, s3, s4, s5, s6, s7, s8, s9, s10, s11, s12, s13, s14, s15, s16⟩ := hSw; go_simp; try with_reducible rfl
          try simp only [Act.put, List.getElem_toArray, List.getElem_cons_zero, List.getElem_cons_succ, List.setIfInBounds_toArray, List.set_cons_zero, List.set_cons_succ]
          refine wpAnyH_take (i := 3) (v := ?_) rfl (by kernel_rfl) (by kernel_rfl) (by kernel_rfl) (fun _ _ _ h => h) (Or.inl ⟨by rfl, ?_⟩) (HS.out _ hd) ?_
          rotate_left 1
          next => intro w hSw; rw [hSe] at hSw; obtain ⟨s1, s2, s3, s4, s5, s6, s7, s8, s9, s10, s11, s12, s13, s14, s15, s16⟩ := hSw; go_simp; try with_reducible rfl
          try simp only [Act.put, List.getElem_toArray, List.getElem_cons_zero, List.getElem_cons_succ, List.setIfInBounds_toArray, List.set_cons_zero, List.set_cons_succ]
          refine wpAnyH_take (i := 4) (v := ?_) rfl (by kernel_rfl) (by kernel_rfl) (by kernel_rfl) (fun _ _ _ h => h) (Or.inl ⟨by rfl, ?_⟩) (HS.out _ hd) ?_
          rotate_left 1
          next => intro w hSw; rw [hSe] at hSw; obtain ⟨s1, s2, s3, s4, s5, s6, s7, s8, s9, s10, s11, s12, s13, s14, s15, s16⟩ := hSw; go_simp; try with_reducible rfl
          try simp only [Act.put, List.getElem_toArray, List.getElem_cons_zero, List.getElem_cons_succ, List.setIfInBounds_toArray, List.set_cons_zero, List.set_cons_succ]
          refine wpAnyH_take (i := 5) (v := ?_) rfl (by kernel_rfl) (by kernel_rfl) (by kernel_rfl) (fun _ _ _ h => h) (Or.inl ⟨by rfl, ?_⟩) (HS.out _ hd) ?_
          rotate_left 1
          next => intro w hSw; rw [hSe] at hSw; obtain ⟨s1, s2, s3, s4, s5, s6, s7, s8, s9, s10, s11, s12, s13, s14, s15, s16⟩ := hSw; go_simp; try with_reducible rfl
          try simp only [Act.put, List.getElem_toArray, List.getElem_cons_zero, List.getElem_cons_succ, List.setIfInBounds_toArray, List.set_cons_zero, List.set_cons_succ]
          refine wpAnyH_take (i := 6) (v := ?_) rfl (by kernel_rfl) (by kernel_rfl) (by kernel_rfl) (fun _ _ _ h => h) (Or.inl ⟨by rfl, ?_⟩) (HS.out _ hd) ?_
          rotate_left 1
          next => intro w hSw; rw [hSe] at hSw; obtain ⟨s1, s2, s3, s4, s5, s6, s7, s8, s9, s10, s11, s12, s13, s14, s15, s16⟩ := hSw; go_simp; try with_reducible rfl
          try simp only [Act.put, List.getElem_toArray, List.getElem_cons_zero, List.getElem_cons_succ, List.setIfInBounds_toArray, List.set_cons_zero, List.set_cons_succ]
          refine wpAnyH_take (i := 7) (v := ?_) rfl (by kernel_rfl) (by kernel_rfl) (by kernel_rfl) (fun _ _ _ h => h) (Or.inl ⟨by rfl, ?_⟩) (HS.out _ hd) ?_
          rotate_left 1
          next => intro w hSw; rw [hSe] at hSw; obtain ⟨s1, s2, s3, s4, s5, s6, s7, s8, s9, s10, s11, s12, s13, s14, s15, s16⟩ := hSw; go_simp; try with_reducible rfl
          try simp only [Act.put, List.getElem_toArray, List.getElem_cons_zero, List.getElem_cons_succ, List.setIfInBounds_toArray, List.set_cons_zero, List.set_cons_succ]
          refine wpAnyH_take (i := 8) (v := ?_) rfl (by kernel_rfl) (by kernel_rfl) (by kernel_rfl) (fun _ _ _ h => h) (Or.inl ⟨by rfl, ?_⟩) (HS.out _ hd) ?_
          rotate_left 1
          next => intro w hSw; rw [hSe] at hSw; obtain ⟨s1, s2, s3, s4, s5, s6, s7, s8, s9, s10, s11, s12, s13, s14, s15, s16⟩ := hSw; go_simp; try with_reducible rfl
          try simp only [Act.put, List.getElem_toArray, List.getElem_cons_zero, List.getElem_cons_succ, List.setIfInBounds_toArray, List.set_cons_zero, List.set_cons_succ]
          refine wpAnyH_take (i := 9) (v := ?_) rfl (by kernel_rfl) (by kernel_rfl) (by kernel_rfl) (fun _ _ _ h => h) (Or.inl ⟨by rfl, ?_⟩) (HS.out _ hd) ?_
          rotate_left 1
          next => intro w hSw; rw [hSe] at hSw; obtain ⟨s1, s2, s3, s4, s5, s6, s7, s8, s9, s10, s11, s12, s13, s14, s15, s16⟩ := hSw; go_simp; try with_reducible rfl
          try simp only [Act.put, List.getElem_toArray, List.getElem_cons_zero, List.getElem_cons_succ, List.setIfInBounds_toArray, List.set_cons_zero, List.set_cons_succ]
          refine wpAnyH_take (i := 10) (v := ?_) rfl (by kernel_rfl) (by kernel_rfl) (by kernel_rfl) (fun _ _ _ h => h) (Or.inl ⟨by rfl, ?_⟩) (HS.out _ hd) ?_
          rotate_left 1
          next => intro w hSw; rw [hSe] at hSw; obtain ⟨s1, s2, s3, s4, s5, s6, s7, s8, s9, s10, s11, s12, s13, s14, s15, s16⟩ := hSw; go_simp; try with_reducible rfl
          try simp only [Act.put, List.getElem_toArray, List.getElem_cons_zero, List.getElem_cons_succ, List.setIfInBounds_toArray, List.set_cons_zero, List.set_cons_succ]
          refine wpAnyH_take (i := 11) (v := ?_) rfl (by kernel_rfl) (by kernel_rfl) (by kernel_rfl) (fun _ _ _ h => h) (Or.inl ⟨by rfl, ?_⟩) (HS.out _ hd) ?_
          rotate_left 1
          next => intro w hSw; rw [hSe] at hSw; obtain ⟨s1, s2, s3, s4, s5, s6, s7, s8, s9, s10, s11, s12, s13, s14, s15, s16⟩ := hSw; go_simp; try with_reducible rfl
          try simp only [Act.put, List.getElem_toArray, List.getElem_cons_zero, List.getElem_cons_succ, List.setIfInBounds_toArray, List.set_cons_zero, List.set_cons_succ]
          refine wpAnyH_take (i := 12) (v := ?_) rfl (by kernel_rfl) (by kernel_rfl) (by kernel_rfl) (fun _ _ _ h => h) (Or.inl ⟨by rfl, ?_⟩) (HS.out _ hd) ?_
          rotate_left 1
          next => intro w hSw; rw [hSe] at hSw; obtain ⟨s1, s2, s3, s4, s5, s6, s7, s8, s9, s10, s11, s12, s13, s14, s15, s16⟩ := hSw; go_simp; try with_reducible rfl
          try simp only [Act.put, List.getElem_toArray, List.getElem_cons_zero, List.getElem_cons_succ, List.setIfInBounds_toArray, List.set_cons_zero, List.set_cons_succ]
          try simp only [Act.put, List.getElem_toArray, List.getElem_cons_zero, List.getElem_cons_succ, List.setIfInBounds_toArray, List.set_cons_zero, List.set_cons_succ]
          refine wpAnyH_ready (rs := [13]) (by kernel_rfl) (by simp) ?_
          refine AllReadyH.cons rfl (fun K hK => ?_) AllReadyH.nil
          go_simp
          refine (HAdd.out _).mono ?_
          rintro e w8 ⟨rfl, hbc⟩
          have hb8 : Below y14.heap.size y14 w8 := hd.trans (hbc.mono hd.size)
          dsimp only
          refine hK.out _ _ (HS.out _ hb8) (fun _ => ?_)
          clear hK K hbc
          refine wpAnyH_take (i := 14) (v := ?_) rfl (by kernel_rfl) (by kernel_rfl) (by kernel_rfl) (fun _ _ _ h => h) (Or.inl ⟨by rfl, ?_⟩) (HS.out _ hb8) ?_
          rotate_left 1
          next => intro w hSw; rw [hSe] at hSw; obtain ⟨s1, s2, s3, s4, s5, s6, s7, s8, s9, s10, s11, s12, s13, s14, s15, s16⟩ := hSw; go_simp; try with_reducible rfl
          try simp only [Act.put, List.getElem_toArray, List.getElem_cons_zero, List.getElem_cons_succ, List.setIfInBounds_toArray, List.set_cons_zero, List.set_cons_succ]
          refine wpAnyH_take (i := 15) (v := ?_) rfl (by kernel_rfl) (by kernel_rfl) (by kernel_rfl) (fun _ _ _ h => h) (Or.inl ⟨by rfl, ?_⟩) (HS.out _ hb8) ?_
          rotate_left 1
          next => intro w hSw; rw [hSe] at hSw; obtain ⟨s1, s2, s3, s4, s5, s6, s7, s8, s9, s10, s11, s12, s13, s14, s15, s16⟩ := hSw; go_simp; try with_reducible rfl
          try simp only [Act.put, List.getElem_toArray, List.getElem_cons_zero, List.getElem_cons_succ, List.setIfInBounds_toArray, List.set_cons_zero, List.set_cons_succ]
          refine wpAnyH_take (i := 16) (v := ?_) rfl (by kernel_rfl) (by kernel_rfl) (by kernel_rfl) (fun _ _ _ h => h) (Or.inl ⟨by rfl, ?_⟩) (HS.out _ hb8) ?_
          rotate_left 1
          next => intro w hSw; rw [hSe] at hSw; obtain ⟨s1, s2, s3, s4, s5, s6, s7, s8, s9, s10, s11, s12, s13, s14, s15, s16⟩ := hSw; go_simp; try with_reducible rfl
          try simp only [Act.put, List.getElem_toArray, List.getElem_cons_zero, List.getElem_cons_succ, List.setIfInBounds_toArray, List.set_cons_zero, List.set_cons_succ]
          refine wpAnyH_take (i := 17) (v := ?_) rfl (by kernel_rfl) (by kernel_rfl) (by kernel_rfl) (fun _ _ _ h => h) (Or.inl ⟨by rfl, ?_⟩) (HS.out _ hb8) ?_
          rotate_left 1
          next => intro w hSw; rw [hSe] at hSw; obtain ⟨s1, s2, s3, s4, s5, s6, s7, s8, s9, s10, s11, s12, s13, s14, s15, s16⟩ := hSw; go_simp; try with_reducible rfl
          try simp only [Act.put, List.getElem_toArray, List.getElem_cons_zero, List.getElem_cons_succ, List.setIfInBounds_toArray, List.set_cons_zero, List.set_cons_succ]
          refine wpAnyH_take (i := 18) (v := ?_) rfl (by kernel_rfl) (by kernel_rfl) (by kernel_rfl) (fun _ _ _ h => h) (Or.inl ⟨by rfl, ?_⟩) (HS.out _ hb8) ?_
          rotate_left 1
          next => intro w hSw; rw [hSe] at hSw; obtain ⟨s1, s2, s3, s4, s5, s6, s7, s8, s9, s10, s11, s12, s13, s14, s15, s16⟩ := hSw; go_simp; try with_reducible rfl
          try simp only [Act.put, List.getElem_toArray, List.getElem_cons_zero, List.getElem_cons_succ, List.setIfInBounds_toArray, List.set_cons_zero, List.set_cons_succ]
          refine wpAnyH_take (i := 19) (v := ?_) rfl (by kernel_rfl) (by kernel_rfl) (by kernel_rfl) (fun _ _ _ h => h) (Or.inl ⟨by rfl, ?_⟩) (HS.out _ hb8) ?_
          rotate_left 1
          next => intro w hSw; rw [hSe] at hSw; obtain ⟨s1, s2, s3, s4, s5, s6, s7, s8, s9, s10, s11, s12, s13, s14, s15, s16⟩ := hSw; go_simp; try with_reducible rfl
          try simp only [Act.put, List.getElem_toArray, List.getElem_cons_zero, List.getElem_cons_succ, List.setIfInBounds_toArray, List.set_cons_zero, List.set_cons_succ]
          try simp only [Act.put, List.getElem_toArray, List.getElem_cons_zero, List.getElem_cons_succ, List.setIfInBounds_toArray, List.set_cons_zero, List.set_cons_succ]
          refine wpAnyH_ready (rs := [20]) (by kernel_rfl) (by simp) ?_
          refine AllReadyH.cons rfl (fun K hK => ?_) AllReadyH.nil
          go_simp
          refine (HMul.out _).mono ?_
          rintro e w9 ⟨rfl, hbc⟩
          have hb9 : Below y14.heap.size y14 w9 := hb8.trans (hbc.mono hb8.size)
          dsimp only
          refine hK.out _ _ (HS.out _ hb9) (fun _ => ?_)
          clear hK K hbc
          refine wpAnyH_take (i := 21) (v := ?_) rfl (by kernel_rfl) (by kernel_rfl) (by kernel_rfl) (fun _ _ _ h => h) (Or.inl ⟨by rfl, ?_⟩) (HS.out _ hb9) ?_
          rotate_left 1
          next => intro w hSw; rw [hSe] at hSw; obtain ⟨s1, s2, s3, s4, s5, s6, s7, s8, s9, s10, s11, s12, s13, s14, s15, s16⟩ := hSw; go_simp; try with_reducible rfl
          try simp only [Act.put, List.getElem_toArray, List.getElem_cons_zero, List.getElem_cons_succ, List.setIfInBounds_toArray, List.set_cons_zero, List.set_cons_succ]
          refine wpAnyH_take (i := 22) (v := ?_) rfl (by kernel_rfl) (by kernel_rfl) (by kernel_rfl) (fun _ _ _ h => h) (Or.inl ⟨by rfl, ?_⟩) (HS.out _ hb9) ?_
          rotate_left 1
          next => intro w hSw; rw [hSe] at hSw; obtain ⟨s1, s2, s3, s4, s5, s6, s7, s8, s9, s10, s11, s12, s13, s14, s15, s16⟩ := hSw; go_simp; try with_reducible rfl
          try simp only [Act.put, List.getElem_toArray, List.getElem_cons_zero, List.getElem_cons_succ, List.setIfInBounds_toArray, List.set_cons_zero, List.set_cons_succ]
          refine wpAnyH_take (i := 23) (v := ?_) rfl (by kernel_rfl) (by kernel_rfl) (by kernel_rfl) (fun _ _ _ h => h) (Or.inl ⟨by rfl, ?_⟩) (HS.out _ hb9) ?_
          rotate_left 1
          next => intro w hSw; rw [hSe] at hSw; obtain ⟨s1, s2, s3, s4, s5, s6, s7, s8, s9, s10, s11, s12, s13, s14, s15, s16⟩ := hSw; go_simp; try with_reducible rfl
          try simp only [Act.put, List.getElem_toArray, List.getElem_cons_zero, List.getElem_cons_succ, List.setIfInBounds_toArray, List.set_cons_zero, List.set_cons_succ]
          refine wpAnyH_take (i := 24) (v := ?_) rfl (by kernel_rfl) (by kernel_rfl) (by kernel_rfl) (fun _ _ _ h => h) (Or.inl ⟨by rfl, ?_⟩) (HS.out _ hb9) ?_
          rotate_left 1
          next => intro w hSw; rw [hSe] at hSw; obtain ⟨s1, s2, s3, s4, s5, s6, s7, s8, s9, s10, s11, s12, s13, s14, s15, s16⟩ := hSw; go_simp; try with_reducible rfl
          try simp only [Act.put, List.getElem_toArray, List.getElem_cons_zero, List.getElem_cons_succ, List.setIfInBounds_toArray, List.set_cons_zero, List.set_cons_succ]
          try simp only [Act.put, List.getElem_toArray, List.getElem_cons_zero, List.getElem_cons_succ, List.setIfInBounds_toArray, List.set_cons_zero, List.set_cons_succ]
          refine wpAnyH_ready (rs := [25]) (by kernel_rfl) (by simp) ?_
          refine AllReadyH.cons rfl (fun K hK => ?_) AllReadyH.nil
          go_simp
          refine (HChk.out _).mono ?_
          rintro e w10 ⟨rfl, hbc⟩
          have hb10 : Below y14.heap.size y14 w10 := hb9.trans (hbc.mono hb9.size)
          dsimp only
          refine hK.out _ _ (HS.out _ hb10) (fun _ => ?_)
          clear hK K hbc
          refine wpAnyH_take (i := 26) (v := ?_) rfl (by kernel_rfl) (by kernel_rfl) (by kernel_rfl) (fun _ _ _ h => h) (Or.inl ⟨by rfl, ?_⟩) (HS.out _ hb10) ?_
          rotate_left 1
          next => intro w hSw; rw [hSe] at hSw; obtain ⟨s1, s2, s3, s4, s5, s6, s7, s8, s9, s10, s11, s12, s13, s14, s15, s16⟩ := hSw; go_simp; try with_reducible rfl
          try simp only [Act.put, List.getElem_toArray, List.getElem_cons_zero, List.getElem_cons_succ, List.setIfInBounds_toArray, List.set_cons_zero, List.set_cons_succ]
          refine wpAnyH_take (i := 27) (v := ?_) rfl (by kernel_rfl) (by kernel_rfl) (by kernel_rfl) (fun _ _ _ h => h) (Or.inl ⟨by rfl, ?_⟩) (HS.out _ hb10) ?_
          rotate_left 1
          next => intro w hSw; rw [hSe] at hSw; obtain ⟨s1, s2, s3, s4, s5, s6, s7, s8, s9, s10, s11, s12, s13, s14, s15, s16⟩ := hSw; go_simp; try with_reducible rfl
          try simp only [Act.put, List.getElem_toArray, List.getElem_cons_zero, List.getElem_cons_succ, List.setIfInBounds_toArray, List.set_cons_zero, List.set_cons_succ]
          refine wpAnyH_take (i := 28) (v := ?_) rfl (by kernel_rfl) (by kernel_rfl) (by kernel_rfl) (fun _ _ _ h => h) (Or.inl ⟨by rfl, ?_⟩) (HS.out _ hb10) ?_
          rotate_left 1
          next => intro w hSw; rw [hSe] at hSw; obtain ⟨s1, s2, s3, s4, s5, s6, s7, s8, s9, s10, s11, s12, s13, s14, s15, s16⟩ := hSw; go_simp; try with_reducible rfl
          try simp only [Act.put, List.getElem_toArray, List.getElem_cons_zero, List.getElem_cons_succ, List.setIfInBounds_toArray, List.set_cons_zero, List.set_cons_succ]
          refine wpAnyH_take (i := 29) (v := ?_) rfl (by kernel_rfl) (by kernel_rfl) (by kernel_rfl) (fun _ _ _ h => h) (Or.inl ⟨by rfl, ?_⟩) (HS.out _ hb10) ?_
          rotate_left 1
          next => intro w hSw; rw [hSe] at hSw; obtain ⟨s1, s2, s3, s4, s5, s6, s7, s8, s9, s10, s11, s12, s13, s14, s15, s16⟩ := hSw; go_simp; try with_reducible rfl
          try simp only [Act.put, List.getElem_toArray, List.getElem_cons_zero, List.getElem_cons_succ, List.setIfInBounds_toArray, List.set_cons_zero, List.set_cons_succ]
          refine wpAnyH_take (i := 31) (v := ?_) rfl (by kernel_rfl) (by kernel_rfl) (by kernel_rfl) (fun _ _ _ h => h) (Or.inl ⟨by rfl, ?_⟩) (HS.out _ hb10) ?_
          rotate_left 1
          next => intro w hSw; rw [hSe] at hSw; obtain ⟨s1, s2, s3, s4, s5, s6, s7, s8, s9, s10, s11, s12, s13, s14, s15, s16⟩ := hSw; go_simp; try with_reducible rfl
          try simp only [Act.put, List.getElem_toArray, List.getElem_cons_zero, List.getElem_cons_succ, List.setIfInBounds_toArray, List.set_cons_zero, List.set_cons_succ]
          refine wpAnyH_take (i := 32) (v := ?_) rfl (by kernel_rfl) (by kernel_rfl) (by kernel_rfl) (fun _ _ _ h => h) (Or.inl ⟨by rfl, ?_⟩) (HS.out _ hb10) ?_
          rotate_left 1
          next => intro w hSw; rw [hSe] at hSw; obtain ⟨s1, s2, s3, s4, s5, s6, s7, s8, s9, s10, s11, s12, s13, s14, s15, s16⟩ := hSw; go_simp; try with_reducible rfl
          try simp only [Act.put, List.getElem_toArray, List.getElem_cons_zero, List.getElem_cons_succ, List.setIfInBounds_toArray, List.set_cons_zero, List.set_cons_succ]
          try simp only [Act.put, List.getElem_toArray, List.getElem_cons_zero, List.getElem_cons_succ, List.setIfInBounds_toArray, List.set_cons_zero, List.set_cons_succ]
          refine wpAnyH_ready (rs := [30]) (by kernel_rfl) (by simp) ?_
          refine AllReadyH.cons rfl (fun K hK => ?_) AllReadyH.nil
          go_simp
          refine (derI _ _ _ _ _ _ _ _ 56 16 ((ab_14.out.below hb10).pi (by decide)) ab_14.out.isp (by decide) (by decide)).mono ?_
          rintro e w11 ⟨dd, cdd, Fdd, rfl, hdd, ddd, hbc⟩
          have hb11 : Below y14.heap.size y14 w11 := hb10.trans (hbc.mono hb10.size)
          dsimp only
          have Hdd := Lib.hid (hdd.congr (HDe.out _ ddd))
          clear hdd ddd
          refine hK.out _ _ (HS.out _ hb11) (fun _ => ?_)
          clear hK K hbc
          try simp only [Act.put, List.getElem_toArray, List.getElem_cons_zero, List.getElem_cons_succ, List.setIfInBounds_toArray, List.set_cons_zero, List.set_cons_succ]
          refine wpAnyH_ready (rs := [33]) (by kernel_rfl) (by simp) ?_
          refine AllReadyH.cons rfl (fun K hK => ?_) AllReadyH.nil
          go_simp
          refine (addI _ _ _ _ _ _ _ _ _ _ _ 66 16 (((p1_14.out.below hb11).pi (by decide)).up (by decide) (by decide)) (((p2_14.out.below hb11).pi (by decide)).up (by decide) (by decide)) (by decide) (by decide)).mono ?_
          rintro e w12 ⟨ss, css, Nss, Fss, rfl, hss, hbc⟩
          have hb12 : Below y14.heap.size y14 w12 := hb11.trans (hbc.mono hb11.size)
          dsimp only
          have Hdd2 := Lib.hid (Hdd.out.below hbc)
          have Hss := Lib.hid hss
          clear hss
          refine hK.out _ _ (HS.out _ hb12) (fun _ => ?_)
          clear hK K hbc
          try simp only [Act.put, List.getElem_toArray, List.getElem_cons_zero, List.getElem_cons_succ, List.setIfInBounds_toArray, List.set_cons_zero, List.set_cons_succ]
          refine wpAnyH_ready (rs := [34]) (by kernel_rfl) (by simp) ?_
          refine AllReadyH.cons rfl (fun K hK => ?_) AllReadyH.nil
          go_simp
          refine (sameI _ _ _ _ _ _ _ _ _ _ _ _ _ _ Hdd2.out Hss.out (by decide)).mono ?_
          rintro e w13 ⟨rfl, hbc⟩
          have hb13 : Below y14.heap.size y14 w13 := hb12.trans (hbc.mono hb12.size)
          dsimp only
          refine hK.out _ _ (HS.out _ hb13) (fun _ => ?_)
          clear hK K hbc
          refine wpAnyH_take (i := 35) (v := ?_) rfl (by kernel_rfl) (by kernel_rfl) (by kernel_rfl) (fun _ _ _ h => h) (Or.inl ⟨by rfl, ?_⟩) (HS.out _ hb13) ?_
          rotate_left 1
          next => intro w hSw; rw [hSe] at hSw; obtain ⟨s1, s2, s3, s4, s5, s6, s7, s8, s9, s10, s11, s12, s13, s14, s15, s16⟩ := hSw; go_simp; try with_reducible rfl
          try simp only [Act.put, List.getElem_toArray, List.getElem_cons_zero, List.getElem_cons_succ, List.setIfInBounds_toArray, List.set_cons_zero, List.set_cons_succ]
          refine wpAnyH_take (i := 36) (v := ?_) rfl (by kernel_rfl) (by kernel_rfl) (by kernel_rfl) (fun _ _ _ h => h) (Or.inl ⟨by rfl, ?_⟩) (HS.out _ hb13) ?_
          rotate_left 1
          next => intro w hSw; rw [hSe] at hSw; obtain ⟨s1, s2, s3, s4, s5, s6, s7, s8, s9, s10, s11, s12, s13, s14, s15, s16⟩ := hSw; go_simp; try with_reducible rfl
          try simp only [Act.put, List.getElem_toArray, List.getElem_cons_zero, List.getElem_cons_succ, List.setIfInBounds_toArray, List.set_cons_zero, List.set_cons_succ]
          try simp only [Act.put, List.getElem_toArray, List.getElem_cons_zero, List.getElem_cons_succ, List.setIfInBounds_toArray, List.set_cons_zero, List.set_cons_succ]
          refine wpAnyH_ready (rs := [37]) (by kernel_rfl) (by simp) ?_
          refine AllReadyH.cons rfl (fun K hK => ?_) AllReadyH.nil
          go_simp
          refine (HAw.out _).mono ?_
          rintro e w14 ⟨rfl, hbc⟩
          have hb14 : Below y14.heap.size y14 w14 := hb13.trans (hbc.mono hb13.size)
          dsimp only
          refine hK.out _ _ (HS.out _ hb14) (fun _ => ?_)
          clear hK K hbc
          refine wpAnyH_take (i := 38) (v := ?_) rfl (by kernel_rfl) (by kernel_rfl) (by kernel_rfl) (fun _ _ _ h => h) (Or.inl ⟨by rfl, ?_⟩) (HS.out _ hb14) ?_
          rotate_left 1
          next => intro w hSw; rw [hSe] at hSw; obtain ⟨s1, s2, s3, s4, s5, s6, s7, s8, s9, s10, s11, s12, s13, s14, s15, s16⟩ := hSw; go_simp; try with_reducible rfl
          try simp only [Act.put, List.getElem_toArray, List.getElem_cons_zero, List.getElem_cons_succ, List.setIfInBounds_toArray, List.set_cons_zero, List.set_cons_succ]
          refine wpAnyH_take (i := 39) (v := ?_) rfl (by kernel_rfl) (by kernel_rfl) (by kernel_rfl) (fun _ _ _ h => h) (Or.inl ⟨by rfl, ?_⟩) (HS.out _ hb14) ?_
          rotate_left 1
          next => intro w hSw; rw [hSe] at hSw; obtain ⟨s1, s2, s3, s4, s5, s6, s7, s8, s9, s10, s11, s12, s13, s14, s15, s16⟩ := hSw; go_simp; try with_reducible rfl
          try simp only [Act.put, List.getElem_toArray, List.getElem_cons_zero, List.getElem_cons_succ, List.setIfInBounds_toArray, List.set_cons_zero, List.set_cons_succ]
          refine wpAnyH_done (by kernel_rfl) ?_ _
          go_wp2_with fail
          go_ret
          exact ⟨rfl, b_14.out.trans (hb14.mono b_14.out.size)⟩
      · go_simp
        have hbx : Box4 ((y7.alloc (.cells #[.bool false, .string ⟨#[]⟩, .bool false, .string ⟨#[]⟩] 41)).drew) y7.heap.size (.bool false) (.string ⟨#[]⟩) (.bool false) (.string ⟨#[]⟩) := Box4.drw (Box4.new y7 (.bool false) (.string ⟨#[]⟩) (.bool false) (.string ⟨#[]⟩) 41)
        have hbc : Below y7.heap.size y7 ((y7.alloc (.cells #[.bool false, .string ⟨#[]⟩, .bool false, .string ⟨#[]⟩] 41)).drew) := ((Below.refl y7.heap.size y7).alloc (Nat.le_refl _) (.cells #[.bool false, .string ⟨#[]⟩, .bool false, .string ⟨#[]⟩] 41)).drew
        have leN : y7.heap.size ≤ y7.heap.size := Nat.le_refl _
        have D_q9 := Lib.hid hbc
        refine hK.out _ _ (HS.out _ D_q9.out) (fun _ => ?_)
        clear hK K hbc
        obtain ⟨gN, hgN⟩ : ∃ k, y7.heap.size = k := ⟨_, rfl⟩
        have leoN := leN
        rw [hgN] at hbx ⊢
        have leN : y7.heap.size ≤ gN := by rw [← hgN]; exact leoN
        clear hgN leoN
        generalize (y7.alloc (.cells #[.bool false, .string ⟨#[]⟩, .bool false, .string ⟨#[]⟩] 41)).drew = Wq9 at *
        have N_q9 := Lib.hid hbx
        clear hbx
        try simp only [Act.put, List.getElem_toArray, List.getElem_cons_zero, List.getElem_cons_succ, List.setIfInBounds_toArray, List.set_cons_zero, List.set_cons_succ]
        refine wpAnyH_ready (rs := [2]) (by kernel_rfl) (by simp) ?_
        refine AllReadyH.cons rfl (fun K hK => ?_) AllReadyH.nil
        go_simp
        refine (addI _ _ _ _ _ _ _ _ _ _ _ 24 8 (A_7.out.below D_q9.out) (B_7.out.below D_q9.out) (by decide) (by decide)).mono ?_
        rintro e wq10 ⟨sp, csp, Nsp, Fsp, rfl, hsp, hbc⟩
        have D_q10 := Lib.hid (D_q9.out.trans (hbc.mono D_q9.out.size))
        have N_q10 := Lib.hid (N_q9.out.below hbc N_q9.out.2.2.2.2.2)
        have s_q10 := Lib.hid (hsp)
        dsimp only
        refine hK.out _ _ (HS.out _ D_q10.out) (fun _ => ?_)
        clear hK K hbc
        try simp only [Act.put, List.getElem_toArray, List.getElem_cons_zero, List.getElem_cons_succ, List.setIfInBounds_toArray, List.set_cons_zero, List.set_cons_succ]
        refine wpAnyH_ready (rs := [4]) (by kernel_rfl) (by simp) ?_
        refine AllReadyH.cons rfl (fun K hK => ?_) AllReadyH.nil
        go_simp
        refine (HAt.out _ _ _ _ _ _ _ _ 25 8 (s_q10.out.pi (by decide)) s_q10.out.isp (by decide) (by decide)).mono ?_
        rintro e wq11 ⟨Ps, Qs, rfl, qs, vs, a_s, b_s, hbc⟩
        have D_q11 := Lib.hid (D_q10.out.trans (hbc.mono D_q10.out.size))
        have N_q11 := Lib.hid (N_q10.out.below hbc N_q10.out.2.2.2.2.2)
        have s_q11 := Lib.hid (s_q10.out.below hbc)
        have Ks := Lib.hid (And.intro qs (And.intro vs (And.intro a_s b_s)))
        clear qs vs a_s b_s
        unfold ratV
        obtain ⟨Cs, hCs⟩ : ∃ z, canon Ps = z := ⟨_, rfl⟩
        obtain ⟨Ds, hDs⟩ : ∃ z, canon Qs = z := ⟨_, rfl⟩
        rw [hCs, hDs]
        have Es := Lib.hid (And.intro hCs hDs)
        clear hCs hDs
        try dsimp only
        refine hK.out _ _ (HS.out _ D_q11.out) (fun _ => ?_)
        clear hK K hbc
        refine wpAnyH_take (i := 5) (v := ?_) rfl (by kernel_rfl) (by kernel_rfl) (by kernel_rfl) (fun _ _ _ h => h) (Or.inl ⟨by rfl, ?_⟩) (HS.out _ D_q11.out) ?_
        rotate_left 1
        next => intro w hSw; rw [hSe] at hSw; obtain ⟨u0, u1, u2, u3, _, _⟩ := hSw; go_simp; try with_reducible rfl
        try simp only [Act.put, List.getElem_toArray, List.getElem_cons_zero, List.getElem_cons_succ, List.setIfInBounds_toArray, List.set_cons_zero, List.set_cons_succ]
        refine wpAnyH_take (i := 6) (v := ?_) rfl (by kernel_rfl) (by kernel_rfl) (by kernel_rfl) (fun _ _ _ h => h) (Or.inl ⟨by rfl, ?_⟩) (HS.out _ D_q11.out) ?_
        rotate_left 1
        next => intro w hSw; rw [hSe] at hSw; obtain ⟨u0, u1, u2, u3, _, _⟩ := hSw; go_simp; try with_reducible rfl
        try simp only [Act.put, List.getElem_toArray, List.getElem_cons_zero, List.getElem_cons_succ, List.setIfInBounds_toArray, List.set_cons_zero, List.set_cons_succ]
        refine wpAnyH_take (i := 7) (v := ?_) rfl (by kernel_rfl) (by kernel_rfl) (by kernel_rfl) (fun _ _ _ h => h) (Or.inl ⟨by rfl, ?_⟩) (HS.out _ D_q11.out) ?_
        rotate_left 1
        next => intro w hSw; rw [hSe] at hSw; obtain ⟨u0, u1, u2, u3, _, _⟩ := hSw; go_simp; try with_reducible rfl
        try simp only [Act.put, List.getElem_toArray, List.getElem_cons_zero, List.getElem_cons_succ, List.setIfInBounds_toArray, List.set_cons_zero, List.set_cons_succ]
        try simp only [Act.put, List.getElem_toArray, List.getElem_cons_zero, List.getElem_cons_succ, List.setIfInBounds_toArray, List.set_cons_zero, List.set_cons_succ]
        refine wpAnyH_ready (rs := [9]) (by kernel_rfl) (by simp) ?_
        refine AllReadyH.cons rfl (fun K hK => ?_) AllReadyH.nil
        obtain ⟨z0, z1, z2, z3, zf, _⟩ := N_q11.out
        have zf0 := zf 0
        have zf1 := zf 1
        have zf2 := zf 2
        have zf3 := zf 3
        have D_q12 := Lib.hid (((((D_q11.out).setCell (p := ⟨gN, 0, none⟩) leN (.bool Cs.neg)).setCell (p := ⟨gN, 1, none⟩) leN (.string Cs.mag)).setCell (p := ⟨gN, 2, none⟩) leN (.bool Ds.neg)).setCell (p := ⟨gN, 3, none⟩) leN (.string Ds.mag))
        have N_q12 := Lib.hid (N_q11.out.set4 (.bool Cs.neg) (.string Cs.mag) (.bool Ds.neg) (.string Ds.mag))
        go_simp
        refine hK.out _ _ (HS.out _ D_q12.out) (fun _ => ?_)
        clear hK K z0 z1 z2 z3 zf zf0 zf1 zf2 zf3
        refine wpAnyH_take (i := 10) (v := ?_) rfl (by kernel_rfl) (by kernel_rfl) (by kernel_rfl) (fun _ _ _ h => h) (Or.inl ⟨by rfl, ?_⟩) (HS.out _ D_q12.out) ?_
        rotate_left 1
        next => intro w hSw; rw [hSe] at hSw; obtain ⟨u0, u1, u2, u3, _, _⟩ := hSw; go_simp; try with_reducible rfl
        try simp only [Act.put, List.getElem_toArray, List.getElem_cons_zero, List.getElem_cons_succ, List.setIfInBounds_toArray, List.set_cons_zero, List.set_cons_succ]
        refine wpAnyH_done (by kernel_rfl) ?_ _
        have hbc := D_q12.out
        have b_8 := Lib.hid (b_7.out.trans (hbc.mono b_7.out.size))
        have r_8 := Lib.hid (r_7.out.below hbc r_7.out.2.2.2.2.2)
        have A_8 := Lib.hid (A_7.out.below hbc)
        have B_8 := Lib.hid (B_7.out.below hbc)
        have ab_8 := Lib.hid (ab_7.out.below hbc)
        have xx_8 := Lib.hid (xx_7.out.below hbc xx_7.out.2.2.2.2.2)
        have xy_8 := Lib.hid (xy_7.out.below hbc xy_7.out.2.2.2.2.2)
        clear b_7 r_7 A_7 B_7 ab_7 xx_7 xy_7
        have xs_8 := N_q12
        clear hbc HS hSe HD leN
        skip
        obtain ⟨r0, r1, r2, r3, _, _⟩ := r_8.out
        go_wp2_with fail
        refine (HAt.out _ _ _ _ _ _ _ _ 56 16 (ab_8.out.pi (by decide)) ab_8.out.isp (by decide) (by decide)).mono ?_
        rintro e y9 ⟨Pt, Qt, rfl, qt, vt, at_, bt, hbc⟩
        dsimp only
        have b_9 := Lib.hid (b_8.out.trans (hbc.mono b_8.out.size))
        have r_9 := Lib.hid (r_8.out.below hbc r_8.out.2.2.2.2.2)
        have A_9 := Lib.hid (A_8.out.below hbc)
        have B_9 := Lib.hid (B_8.out.below hbc)
        have ab_9 := Lib.hid (ab_8.out.below hbc)
        have xx_9 := Lib.hid (xx_8.out.below hbc xx_8.out.2.2.2.2.2)
        have xy_9 := Lib.hid (xy_8.out.below hbc xy_8.out.2.2.2.2.2)
        have xs_9 := Lib.hid (xs_8.out.below hbc xs_8.out.2.2.2.2.2)
        clear b_8 r_8 A_8 B_8 ab_8 xx_8 xy_8 xs_8
        have Kt := Lib.hid (And.intro qt (And.intro vt (And.intro at_ bt)))
        clear qt vt at_ bt
        unfold ratV
        try dsimp only
        obtain ⟨Ct, hCt⟩ : ∃ z, canon Pt = z := ⟨_, rfl⟩
        obtain ⟨Dt, hDt⟩ : ∃ z, canon Qt = z := ⟨_, rfl⟩
        rw [hCt, hDt]
        have Et := Lib.hid (And.intro hCt hDt)
        clear hCt hDt
        go_upto_region 8 with (fail)
        have hbx := Box4.new y9 (.bool Ct.neg) (.string Ct.mag) (.bool Dt.neg) (.string Dt.mag) 41
        have hbc := (Below.refl y9.heap.size y9).alloc (Nat.le_refl _) (.cells #[.bool Ct.neg, .string Ct.mag, .bool Dt.neg, .string Dt.mag] 41)
        have b_10 := Lib.hid (b_9.out.trans (hbc.mono b_9.out.size))
        have r_10 := Lib.hid (r_9.out.below hbc r_9.out.2.2.2.2.2)
        have A_10 := Lib.hid (A_9.out.below hbc)
        have B_10 := Lib.hid (B_9.out.below hbc)
        have ab_10 := Lib.hid (ab_9.out.below hbc)
        have xx_10 := Lib.hid (xx_9.out.below hbc xx_9.out.2.2.2.2.2)
        have xy_10 := Lib.hid (xy_9.out.below hbc xy_9.out.2.2.2.2.2)
        have xs_10 := Lib.hid (xs_9.out.below hbc xs_9.out.2.2.2.2.2)
        clear b_9 r_9 A_9 B_9 ab_9 xx_9 xy_9 xs_9
        obtain ⟨gt, hgt⟩ : ∃ k, y9.heap.size = k := ⟨_, rfl⟩
        rw [hgt] at hbx ⊢
        clear hgt hbc
        generalize y9.alloc (.cells #[.bool Ct.neg, .string Ct.mag, .bool Dt.neg, .string Dt.mag] 41) = y10 at *
        have xt_10 := Lib.hid hbx
        clear hbx
        go_wp2_with fail
        refine (derI _ _ _ _ _ _ N F 24 8 A_10.out iA.out (by decide) (by decide)).mono ?_
        rintro e y11 ⟨da, cda, Fda, rfl, hda, dda, hbc⟩
        dsimp only
        have b_11 := Lib.hid (b_10.out.trans (hbc.mono b_10.out.size))
        have r_11 := Lib.hid (r_10.out.below hbc r_10.out.2.2.2.2.2)
        have A_11 := Lib.hid (A_10.out.below hbc)
        have B_11 := Lib.hid (B_10.out.below hbc)
        have ab_11 := Lib.hid (ab_10.out.below hbc)
        have xx_11 := Lib.hid (xx_10.out.below hbc xx_10.out.2.2.2.2.2)
        have xy_11 := Lib.hid (xy_10.out.below hbc xy_10.out.2.2.2.2.2)
        have xs_11 := Lib.hid (xs_10.out.below hbc xs_10.out.2.2.2.2.2)
        have xt_11 := Lib.hid (xt_10.out.below hbc xt_10.out.2.2.2.2.2)
        clear b_10 r_10 A_10 B_10 ab_10 xx_10 xy_10 xs_10 xt_10
        have da_11 := Lib.hid (hda)
        have Dda := Lib.hid dda
        clear dda hda
        go_wp2_with fail
        refine (mulI _ _ _ _ _ _ _ _ _ _ _ 34 24 8 8 (da_11.out.pi (by decide)) B_11.out (by decide) (by decide) (by decide)).mono ?_
        rintro e y12 ⟨p1, cp1, Np1, Fp1, rfl, hp1, hbc⟩
        dsimp only
        have b_12 := Lib.hid (b_11.out.trans (hbc.mono b_11.out.size))
        have r_12 := Lib.hid (r_11.out.below hbc r_11.out.2.2.2.2.2)
        have A_12 := Lib.hid (A_11.out.below hbc)
        have B_12 := Lib.hid (B_11.out.below hbc)
        have ab_12 := Lib.hid (ab_11.out.below hbc)
        have xx_12 := Lib.hid (xx_11.out.below hbc xx_11.out.2.2.2.2.2)
        have xy_12 := Lib.hid (xy_11.out.below hbc xy_11.out.2.2.2.2.2)
        have xs_12 := Lib.hid (xs_11.out.below hbc xs_11.out.2.2.2.2.2)
        have xt_12 := Lib.hid (xt_11.out.below hbc xt_11.out.2.2.2.2.2)
        clear b_11 r_11 A_11 B_11 ab_11 xx_11 xy_11 xs_11 xt_11 da_11
        have p1_12 := Lib.hid (hp1)
        go_wp2_with fail
        refine (derI _ _ _ _ _ _ M G 24 8 B_12.out iB.out (by decide) (by decide)).mono ?_
        rintro e y13 ⟨db, cdb, Fdb, rfl, hdb, ddb, hbc⟩
        dsimp only
        have b_13 := Lib.hid (b_12.out.trans (hbc.mono b_12.out.size))
        have r_13 := Lib.hid (r_12.out.below hbc r_12.out.2.2.2.2.2)
        have A_13 := Lib.hid (A_12.out.below hbc)
        have B_13 := Lib.hid (B_12.out.below hbc)
        have ab_13 := Lib.hid (ab_12.out.below hbc)
        have xx_13 := Lib.hid (xx_12.out.below hbc xx_12.out.2.2.2.2.2)
        have xy_13 := Lib.hid (xy_12.out.below hbc xy_12.out.2.2.2.2.2)
        have xs_13 := Lib.hid (xs_12.out.below hbc xs_12.out.2.2.2.2.2)
        have xt_13 := Lib.hid (xt_12.out.below hbc xt_12.out.2.2.2.2.2)
        have p1_13 := Lib.hid (p1_12.out.below hbc)
        clear b_12 r_12 A_12 B_12 ab_12 xx_12 xy_12 xs_12 xt_12 p1_12
        have db_13 := Lib.hid (hdb)
        have Ddb := Lib.hid ddb
        clear ddb hdb
        go_wp2_with fail
        refine (mulI _ _ _ _ _ _ _ _ _ _ _ 24 34 8 8 A_13.out (db_13.out.pi (by decide)) (by decide) (by decide) (by decide)).mono ?_
        rintro e y14 ⟨p2, cp2, Np2, Fp2, rfl, hp2, hbc⟩
        dsimp only
        have b_14 := Lib.hid (b_13.out.trans (hbc.mono b_13.out.size))
        have r_14 := Lib.hid (r_13.out.below hbc r_13.out.2.2.2.2.2)
        have A_14 := Lib.hid (A_13.out.below hbc)
        have B_14 := Lib.hid (B_13.out.below hbc)
        have ab_14 := Lib.hid (ab_13.out.below hbc)
        have xx_14 := Lib.hid (xx_13.out.below hbc xx_13.out.2.2.2.2.2)
        have xy_14 := Lib.hid (xy_13.out.below hbc xy_13.out.2.2.2.2.2)
        have xs_14 := Lib.hid (xs_13.out.below hbc xs_13.out.2.2.2.2.2)
        have xt_14 := Lib.hid (xt_13.out.below hbc xt_13.out.2.2.2.2.2)
        have p1_14 := Lib.hid (p1_13.out.below hbc)
        clear b_13 r_13 A_13 B_13 ab_13 xx_13 xy_13 xs_13 xt_13 p1_13 db_13
        have p2_14 := Lib.hid (hp2)
        have HAdd := Lib.hid (fun W => rAddV ea eb u v Px Qx Py Qy Ps Qs 2000 Hv0.out Kx.out.1 Ky.out.1 Ks.out.1 Kx.out.2.1 Ky.out.2.1 Ks.out.2.1 (by decide) (Kx.out.2.2.1.up (by decide)) (Kx.out.2.2.2.up (by decide)) (Ky.out.2.2.1.up (by decide)) (Ky.out.2.2.2.up (by decide)) W)
        have HMul := Lib.hid (fun W => rMulV ea eb u v Px Qx Py Qy Pt Qt 2000 Hv0.out Kx.out.1 Ky.out.1 Kt.out.1 Kx.out.2.1 Ky.out.2.1 Kt.out.2.1 (by decide) (Kx.out.2.2.1.up (by decide)) (Kx.out.2.2.2.up (by decide)) (Ky.out.2.2.1.up (by decide)) (Ky.out.2.2.2.up (by decide)) W)
        have HChk := Lib.hid (fun W => chkR_any Ps Qs (e := 2000) Ks.out.1 (Ks.out.2.2.1.up (by decide)) (Ks.out.2.2.2.up (by decide)) (by decide) W)
        unfold RetR ratV at HAdd HMul
        unfold ratV at HChk
        rw [Ex.out.1, Ex.out.2, Ey.out.1, Ey.out.2, Es.out.1, Es.out.2] at HAdd
        rw [Ex.out.1, Ex.out.2, Ey.out.1, Ey.out.2, Et.out.1, Et.out.2] at HMul
        rw [Es.out.1, Es.out.2] at HChk
        have q1 : (Cs.neg == Cs.neg) = true := beq_self_eq_true _
        have q2 : (Cs.mag.toList == Cs.mag.toList) = true := beq_self_eq_true _
        have q3 : (Ds.neg == Ds.neg) = true := beq_self_eq_true _
        have q4 : (Ds.mag.toList == Ds.mag.toList) = true := beq_self_eq_true _
        have q5 : (Ct.neg == Ct.neg) = true := beq_self_eq_true _
        have q6 : (Ct.mag.toList == Ct.mag.toList) = true := beq_self_eq_true _
        have q7 : (Dt.neg == Dt.neg) = true := beq_self_eq_true _
        have q8 : (Dt.mag.toList == Dt.mag.toList) = true := beq_self_eq_true _
        clear Kx Ky Ks Kt Ex Ey Es Et
        have HDe : Hid (∀ (h : Int → Int), Der (fun x => ea x * eb x) h → ∀ x, h x = ypol (deC F) (N - 1) x * eb x + ea x * ypol (deC G) (M - 1) x) := Lib.hid (fun h hd x => hd.unique (Dda.out.mul Ddb.out) x)
        clear Dda Ddb
        go_upto_region 10 with (fail)
        obtain ⟨SS, hSe⟩ : ∃ SS : World → Prop, SS = fun W => W.cell? ⟨gN, 0, none⟩ = some (.bool Cs.neg) ∧ W.cell? ⟨gN, 1, none⟩ = some (.string Cs.mag) ∧ W.cell? ⟨gN, 2, none⟩ = some (.bool Ds.neg) ∧ W.cell? ⟨gN, 3, none⟩ = some (.string Ds.mag) ∧ W.cell? ⟨gx, 0, none⟩ = some (.bool Cx.neg) ∧ W.cell? ⟨gx, 1, none⟩ = some (.string Cx.mag) ∧ W.cell? ⟨gx, 2, none⟩ = some (.bool Dx.neg) ∧ W.cell? ⟨gx, 3, none⟩ = some (.string Dx.mag) ∧ W.cell? ⟨gy, 0, none⟩ = some (.bool Cy.neg) ∧ W.cell? ⟨gy, 1, none⟩ = some (.string Cy.mag) ∧ W.cell? ⟨gy, 2, none⟩ = some (.bool Dy.neg) ∧ W.cell? ⟨gy, 3, none⟩ = some (.string Dy.mag) ∧ W.cell? ⟨gt, 0, none⟩ = some (.bool Ct.neg) ∧ W.cell? ⟨gt, 1, none⟩ = some (.string Ct.mag) ∧ W.cell? ⟨gt, 2, none⟩ = some (.bool Dt.neg) ∧ W.cell? ⟨gt, 3, none⟩ = some (.string Dt.mag) := ⟨_, rfl⟩
        have HS : Hid (∀ W, Below y14.heap.size y14 W → SS W) := Lib.hid (fun W hW => by
          have xs' := xs_14.out.below hW xs_14.out.2.2.2.2.2
          have xx' := xx_14.out.below hW xx_14.out.2.2.2.2.2
          have xy' := xy_14.out.below hW xy_14.out.2.2.2.2.2
          have xt' := xt_14.out.below hW xt_14.out.2.2.2.2.2
          rw [hSe]; exact ⟨xs'.1, xs'.2.1, xs'.2.2.1, xs'.2.2.2.1, xx'.1, xx'.2.1, xx'.2.2.1, xx'.2.2.2.1, xy'.1, xy'.2.1, xy'.2.2.1, xy'.2.2.2.1, xt'.1, xt'.2.1, xt'.2.2.1, xt'.2.2.2.1⟩)
        have hd : Below y14.heap.size y14 y14.drew := (Below.refl _ _).drew
        refine wp_region_held_drew (S := SS) (by kernel_rfl) (HS.out _ hd) (fun hSS => ?_)
        refine wpAnyH_take (i := 0) (v := ?_) rfl (by kernel_rfl) (by kernel_rfl) (by kernel_rfl) (fun _ _ _ h => h) (Or.inl ⟨by rfl, ?_⟩) (HS.out _ hd) ?_
        rotate_left 1
        next => intro w hSw; rw [hSe] at hSw; obtain ⟨s1, s2, s3, s4, s5, s6, s7, s8, s9, s10, s11, s12, s13, s14, s15, s16⟩ := hSw; go_simp; try with_reducible rfl
        try simp only [Act.put, List.getElem_toArray, List.getElem_cons_zero, List.getElem_cons_succ, List.setIfInBounds_toArray, List.set_cons_zero, List.set_cons_succ]
        refine wpAnyH_take (i := 1) (v := ?_) rfl (by kernel_rfl) (by kernel_rfl) (by kernel_rfl) (fun _ _ _ h => h) (Or.inl ⟨by rfl, ?_⟩) (HS.out _ hd) ?_
        rotate_left 1
        next => intro w hSw; rw [hSe] at hSw; obtain ⟨s1, s2, s3, s4, s5, s6, s7, s8, s9, s10, s11, s12, s13, s14, s15, s16⟩ := hSw; go_simp; try with_reducible rfl
        try simp only [Act.put, List.getElem_toArray, List.getElem_cons_zero, List.getElem_cons_succ, List.setIfInBounds_toArray, List.set_cons_zero, List.set_cons_succ]
        refine wpAnyH_take (i := 2) (v := ?_) rfl (by kernel_rfl) (by kernel_rfl) (by kernel_rfl) (fun _ _ _ h => h) (Or.inl ⟨by rfl, ?_⟩) (HS.out _ hd) ?_
        rotate_left 1
        next => intro w hSw; rw [hSe] at hSw; obtain ⟨s1, s2, s3, s4, s5, s6, s7, s8, s9, s10, s11, s12, s13, s14, s15, s16⟩ := hSw; go_simp; try with_reducible rfl
        try simp only [Act.put, List.getElem_toArray, List.getElem_cons_zero, List.getElem_cons_succ, List.setIfInBounds_toArray, List.set_cons_zero, List.set_cons_succ]
        refine wpAnyH_take (i := 3) (v := ?_) rfl (by kernel_rfl) (by kernel_rfl) (by kernel_rfl) (fun _ _ _ h => h) (Or.inl ⟨by rfl, ?_⟩) (HS.out _ hd) ?_
        rotate_left 1
        next => intro w hSw; rw [hSe] at hSw; obtain ⟨s1, s2, s3, s4, s5, s6, s7, s8, s9, s10, s11, s12, s13, s14, s15, s16⟩ := hSw; go_simp; try with_reducible rfl
        try simp only [Act.put, List.getElem_toArray, List.getElem_cons_zero, List.getElem_cons_succ, List.setIfInBounds_toArray, List.set_cons_zero, List.set_cons_succ]
        refine wpAnyH_take (i := 4) (v := ?_) rfl (by kernel_rfl) (by kernel_rfl) (by kernel_rfl) (fun _ _ _ h => h) (Or.inl ⟨by rfl, ?_⟩) (HS.out _ hd) ?_
        rotate_left 1
        next => intro w hSw; rw [hSe] at hSw; obtain ⟨s1, s2, s3, s4, s5, s6, s7, s8, s9, s10, s11, s12, s13, s14, s15, s16⟩ := hSw; go_simp; try with_reducible rfl
        try simp only [Act.put, List.getElem_toArray, List.getElem_cons_zero, List.getElem_cons_succ, List.setIfInBounds_toArray, List.set_cons_zero, List.set_cons_succ]
        refine wpAnyH_take (i := 5) (v := ?_) rfl (by kernel_rfl) (by kernel_rfl) (by kernel_rfl) (fun _ _ _ h => h) (Or.inl ⟨by rfl, ?_⟩) (HS.out _ hd) ?_
        rotate_left 1
        next => intro w hSw; rw [hSe] at hSw; obtain ⟨s1, s2, s3, s4, s5, s6, s7, s8, s9, s10, s11, s12, s13, s14, s15, s16⟩ := hSw; go_simp; try with_reducible rfl
        try simp only [Act.put, List.getElem_toArray, List.getElem_cons_zero, List.getElem_cons_succ, List.setIfInBounds_toArray, List.set_cons_zero, List.set_cons_succ]
        refine wpAnyH_take (i := 6) (v := ?_) rfl (by kernel_rfl) (by kernel_rfl) (by kernel_rfl) (fun _ _ _ h => h) (Or.inl ⟨by rfl, ?_⟩) (HS.out _ hd) ?_
        rotate_left 1
        next => intro w hSw; rw [hSe] at hSw; obtain ⟨s1, s2, s3, s4, s5, s6, s7, s8, s9, s10, s11, s12, s13, s14, s15, s16⟩ := hSw; go_simp; try with_reducible rfl
        try simp only [Act.put, List.getElem_toArray, List.getElem_cons_zero, List.getElem_cons_succ, List.setIfInBounds_toArray, List.set_cons_zero, List.set_cons_succ]
        refine wpAnyH_take (i := 7) (v := ?_) rfl (by kernel_rfl) (by kernel_rfl) (by kernel_rfl) (fun _ _ _ h => h) (Or.inl ⟨by rfl, ?_⟩) (HS.out _ hd) ?_
        rotate_left 1
        next => intro w hSw; rw [hSe] at hSw; obtain ⟨s1, s2, s3, s4, s5, s6, s7, s8, s9, s10, s11, s12, s13, s14, s15, s16⟩ := hSw; go_simp; try with_reducible rfl
        try simp only [Act.put, List.getElem_toArray, List.getElem_cons_zero, List.getElem_cons_succ, List.setIfInBounds_toArray, List.set_cons_zero, List.set_cons_succ]
        refine wpAnyH_take (i := 8) (v := ?_) rfl (by kernel_rfl) (by kernel_rfl) (by kernel_rfl) (fun _ _ _ h => h) (Or.inl ⟨by rfl, ?_⟩) (HS.out _ hd) ?_
        rotate_left 1
        next => intro w hSw; rw [hSe] at hSw; obtain ⟨s1, s2, s3, s4, s5, s6, s7, s8, s9, s10, s11, s12, s13, s14, s15, s16⟩ := hSw; go_simp; try with_reducible rfl
        try simp only [Act.put, List.getElem_toArray, List.getElem_cons_zero, List.getElem_cons_succ, List.setIfInBounds_toArray, List.set_cons_zero, List.set_cons_succ]
        refine wpAnyH_take (i := 9) (v := ?_) rfl (by kernel_rfl) (by kernel_rfl) (by kernel_rfl) (fun _ _ _ h => h) (Or.inl ⟨by rfl, ?_⟩) (HS.out _ hd) ?_
        rotate_left 1
        next => intro w hSw; rw [hSe] at hSw; obtain ⟨s1, s2, s3, s4, s5, s6, s7, s8, s9, s10, s11, s12, s13, s14, s15, s16⟩ := hSw; go_simp; try with_reducible rfl
        try simp only [Act.put, List.getElem_toArray, List.getElem_cons_zero, List.getElem_cons_succ, List.setIfInBounds_toArray, List.set_cons_zero, List.set_cons_succ]
        refine wpAnyH_take (i := 10) (v := ?_) rfl (by kernel_rfl) (by kernel_rfl) (by kernel_rfl) (fun _ _ _ h => h) (Or.inl ⟨by rfl, ?_⟩) (HS.out _ hd) ?_
        rotate_left 1
        next => intro w hSw; rw [hSe] at hSw; obtain ⟨s1, s2, s3, s4, s5, s6, s7, s8, s9, s10, s11, s12, s13, s14, s15, s16⟩ := hSw; go_simp; try with_reducible rfl
        try simp only [Act.put, List.getElem_toArray, List.getElem_cons_zero, List.getElem_cons_succ, List.setIfInBounds_toArray, List.set_cons_zero, List.set_cons_succ]
        refine wpAnyH_take (i := 11) (v := ?_) rfl (by kernel_rfl) (by kernel_rfl) (by kernel_rfl) (fun _ _ _ h => h) (Or.inl ⟨by rfl, ?_⟩) (HS.out _ hd) ?_
        rotate_left 1
        next => intro w hSw; rw [hSe] at hSw; obtain ⟨s1, s2, s3, s4, s5, s6, s7, s8, s9, s10, s11, s12, s13, s14, s15, s16⟩ := hSw; go_simp; try with_reducible rfl
        try simp only [Act.put, List.getElem_toArray, List.getElem_cons_zero, List.getElem_cons_succ, List.setIfInBounds_toArray, List.set_cons_zero, List.set_cons_succ]
        refine wpAnyH_take (i := 12) (v := ?_) rfl (by kernel_rfl) (by kernel_rfl) (by kernel_rfl) (fun _ _ _ h => h) (Or.inl ⟨by rfl, ?_⟩) (HS.out _ hd) ?_
        rotate_left 1
        next => intro w hSw; rw [hSe] at hSw; obtain ⟨s1, s2, s3, s4, s5, s6, s7, s8, s9, s10, s11, s12, s13, s14, s15, s16⟩ := hSw; go_simp; try with_reducible rfl
        try simp only [Act.put, List.getElem_toArray, List.getElem_cons_zero, List.getElem_cons_succ, List.setIfInBounds_toArray, List.set_cons_zero, List.set_cons_succ]
        try simp only [Act.put, List.getElem_toArray, List.getElem_cons_zero, List.getElem_cons_succ, List.setIfInBounds_toArray, List.set_cons_zero, List.set_cons_succ]
        refine wpAnyH_ready (rs := [13]) (by kernel_rfl) (by simp) ?_
        refine AllReadyH.cons rfl (fun K hK => ?_) AllReadyH.nil
        go_simp
        refine (HAdd.out _).mono ?_
        rintro e w15 ⟨rfl, hbc⟩
        have hb15 : Below y14.heap.size y14 w15 := hd.trans (hbc.mono hd.size)
        dsimp only
        refine hK.out _ _ (HS.out _ hb15) (fun _ => ?_)
        clear hK K hbc
        refine wpAnyH_take (i := 14) (v := ?_) rfl (by kernel_rfl) (by kernel_rfl) (by kernel_rfl) (fun _ _ _ h => h) (Or.inl ⟨by rfl, ?_⟩) (HS.out _ hb15) ?_
        rotate_left 1
        next => intro w hSw; rw [hSe] at hSw; obtain ⟨s1, s2, s3, s4, s5, s6, s7, s8, s9, s10, s11, s12, s13, s14, s15, s16⟩ := hSw; go_simp; try with_reducible rfl
        try simp only [Act.put, List.getElem_toArray, List.getElem_cons_zero, List.getElem_cons_succ, List.setIfInBounds_toArray, List.set_cons_zero, List.set_cons_succ]
        refine wpAnyH_take (i := 15) (v := ?_) rfl (by kernel_rfl) (by kernel_rfl) (by kernel_rfl) (fun _ _ _ h => h) (Or.inl ⟨by rfl, ?_⟩) (HS.out _ hb15) ?_
        rotate_left 1
        next => intro w hSw; rw [hSe] at hSw; obtain ⟨s1, s2, s3, s4, s5, s6, s7, s8, s9, s10, s11, s12, s13, s14, s15, s16⟩ := hSw; go_simp; try with_reducible rfl
        try simp only [Act.put, List.getElem_toArray, List.getElem_cons_zero, List.getElem_cons_succ, List.setIfInBounds_toArray, List.set_cons_zero, List.set_cons_succ]
        refine wpAnyH_take (i := 16) (v := ?_) rfl (by kernel_rfl) (by kernel_rfl) (by kernel_rfl) (fun _ _ _ h => h) (Or.inl ⟨by rfl, ?_⟩) (HS.out _ hb15) ?_
        rotate_left 1
        next => intro w hSw; rw [hSe] at hSw; obtain ⟨s1, s2, s3, s4, s5, s6, s7, s8, s9, s10, s11, s12, s13, s14, s15, s16⟩ := hSw; go_simp; try with_reducible rfl
        try simp only [Act.put, List.getElem_toArray, List.getElem_cons_zero, List.getElem_cons_succ, List.setIfInBounds_toArray, List.set_cons_zero, List.set_cons_succ]
        refine wpAnyH_take (i := 17) (v := ?_) rfl (by kernel_rfl) (by kernel_rfl) (by kernel_rfl) (fun _ _ _ h => h) (Or.inl ⟨by rfl, ?_⟩) (HS.out _ hb15) ?_
        rotate_left 1
        next => intro w hSw; rw [hSe] at hSw; obtain ⟨s1, s2, s3, s4, s5, s6, s7, s8, s9, s10, s11, s12, s13, s14, s15, s16⟩ := hSw; go_simp; try with_reducible rfl
        try simp only [Act.put, List.getElem_toArray, List.getElem_cons_zero, List.getElem_cons_succ, List.setIfInBounds_toArray, List.set_cons_zero, List.set_cons_succ]
        refine wpAnyH_take (i := 18) (v := ?_) rfl (by kernel_rfl) (by kernel_rfl) (by kernel_rfl) (fun _ _ _ h => h) (Or.inl ⟨by rfl, ?_⟩) (HS.out _ hb15) ?_
        rotate_left 1
        next => intro w hSw; rw [hSe] at hSw; obtain ⟨s1, s2, s3, s4, s5, s6, s7, s8, s9, s10, s11, s12, s13, s14, s15, s16⟩ := hSw; go_simp; try with_reducible rfl
        try simp only [Act.put, List.getElem_toArray, List.getElem_cons_zero, List.getElem_cons_succ, List.setIfInBounds_toArray, List.set_cons_zero, List.set_cons_succ]
        refine wpAnyH_take (i := 19) (v := ?_) rfl (by kernel_rfl) (by kernel_rfl) (by kernel_rfl) (fun _ _ _ h => h) (Or.inl ⟨by rfl, ?_⟩) (HS.out _ hb15) ?_
        rotate_left 1
        next => intro w hSw; rw [hSe] at hSw; obtain ⟨s1, s2, s3, s4, s5, s6, s7, s8, s9, s10, s11, s12, s13, s14, s15, s16⟩ := hSw; go_simp; try with_reducible rfl
        try simp only [Act.put, List.getElem_toArray, List.getElem_cons_zero, List.getElem_cons_succ, List.setIfInBounds_toArray, List.set_cons_zero, List.set_cons_succ]
        try simp only [Act.put, List.getElem_toArray, List.getElem_cons_zero, List.getElem_cons_succ, List.setIfInBounds_toArray, List.set_cons_zero, List.set_cons_succ]
        refine wpAnyH_ready (rs := [20]) (by kernel_rfl) (by simp) ?_
        refine AllReadyH.cons rfl (fun K hK => ?_) AllReadyH.nil
        go_simp
        refine (HMul.out _).mono ?_
        rintro e w16 ⟨rfl, hbc⟩
        have hb16 : Below y14.heap.size y14 w16 := hb15.trans (hbc.mono hb15.size)
        dsimp only
        refine hK.out _ _ (HS.out _ hb16) (fun _ => ?_)
        clear hK K hbc
        refine wpAnyH_take (i := 21) (v := ?_) rfl (by kernel_rfl) (by kernel_rfl) (by kernel_rfl) (fun _ _ _ h => h) (Or.inl ⟨by rfl, ?_⟩) (HS.out _ hb16) ?_
        rotate_left 1
        next => intro w hSw; rw [hSe] at hSw; obtain ⟨s1, s2, s3, s4, s5, s6, s7, s8, s9, s10, s11, s12, s13, s14, s15, s16⟩ := hSw; go_simp; try with_reducible rfl
        try simp only [Act.put, List.getElem_toArray, List.getElem_cons_zero, List.getElem_cons_succ, List.setIfInBounds_toArray, List.set_cons_zero, List.set_cons_succ]
        refine wpAnyH_take (i := 22) (v := ?_) rfl (by kernel_rfl) (by kernel_rfl) (by kernel_rfl) (fun _ _ _ h => h) (Or.inl ⟨by rfl, ?_⟩) (HS.out _ hb16) ?_
        rotate_left 1
        next => intro w hSw; rw [hSe] at hSw; obtain ⟨s1, s2, s3, s4, s5, s6, s7, s8, s9, s10, s11, s12, s13, s14, s15, s16⟩ := hSw; go_simp; try with_reducible rfl
        try simp only [Act.put, List.getElem_toArray, List.getElem_cons_zero, List.getElem_cons_succ, List.setIfInBounds_toArray, List.set_cons_zero, List.set_cons_succ]
        refine wpAnyH_take (i := 23) (v := ?_) rfl (by kernel_rfl) (by kernel_rfl) (by kernel_rfl) (fun _ _ _ h => h) (Or.inl ⟨by rfl, ?_⟩) (HS.out _ hb16) ?_
        rotate_left 1
        next => intro w hSw; rw [hSe] at hSw; obtain ⟨s1, s2, s3, s4, s5, s6, s7, s8, s9, s10, s11, s12, s13, s14, s15, s16⟩ := hSw; go_simp; try with_reducible rfl
        try simp only [Act.put, List.getElem_toArray, List.getElem_cons_zero, List.getElem_cons_succ, List.setIfInBounds_toArray, List.set_cons_zero, List.set_cons_succ]
        refine wpAnyH_take (i := 24) (v := ?_) rfl (by kernel_rfl) (by kernel_rfl) (by kernel_rfl) (fun _ _ _ h => h) (Or.inl ⟨by rfl, ?_⟩) (HS.out _ hb16) ?_
        rotate_left 1
        next => intro w hSw; rw [hSe] at hSw; obtain ⟨s1, s2, s3, s4, s5, s6, s7, s8, s9, s10, s11, s12, s13, s14, s15, s16⟩ := hSw; go_simp; try with_reducible rfl
        try simp only [Act.put, List.getElem_toArray, List.getElem_cons_zero, List.getElem_cons_succ, List.setIfInBounds_toArray, List.set_cons_zero, List.set_cons_succ]
        try simp only [Act.put, List.getElem_toArray, List.getElem_cons_zero, List.getElem_cons_succ, List.setIfInBounds_toArray, List.set_cons_zero, List.set_cons_succ]
        refine wpAnyH_ready (rs := [25]) (by kernel_rfl) (by simp) ?_
        refine AllReadyH.cons rfl (fun K hK => ?_) AllReadyH.nil
        go_simp
        refine (HChk.out _).mono ?_
        rintro e w17 ⟨rfl, hbc⟩
        have hb17 : Below y14.heap.size y14 w17 := hb16.trans (hbc.mono hb16.size)
        dsimp only
        refine hK.out _ _ (HS.out _ hb17) (fun _ => ?_)
        clear hK K hbc
        refine wpAnyH_take (i := 26) (v := ?_) rfl (by kernel_rfl) (by kernel_rfl) (by kernel_rfl) (fun _ _ _ h => h) (Or.inl ⟨by rfl, ?_⟩) (HS.out _ hb17) ?_
        rotate_left 1
        next => intro w hSw; rw [hSe] at hSw; obtain ⟨s1, s2, s3, s4, s5, s6, s7, s8, s9, s10, s11, s12, s13, s14, s15, s16⟩ := hSw; go_simp; try with_reducible rfl
        try simp only [Act.put, List.getElem_toArray, List.getElem_cons_zero, List.getElem_cons_succ, List.setIfInBounds_toArray, List.set_cons_zero, List.set_cons_succ]
        refine wpAnyH_take (i := 27) (v := ?_) rfl (by kernel_rfl) (by kernel_rfl) (by kernel_rfl) (fun _ _ _ h => h) (Or.inl ⟨by rfl, ?_⟩) (HS.out _ hb17) ?_
        rotate_left 1
        next => intro w hSw; rw [hSe] at hSw; obtain ⟨s1, s2, s3, s4, s5, s6, s7, s8, s9, s10, s11, s12, s13, s14, s15, s16⟩ := hSw; go_simp; try with_reducible rfl
        try simp only [Act.put, List.getElem_toArray, List.getElem_cons_zero, List.getElem_cons_succ, List.setIfInBounds_toArray, List.set_cons_zero, List.set_cons_succ]
        refine wpAnyH_take (i := 28) (v := ?_) rfl (by kernel_rfl) (by kernel_rfl) (by kernel_rfl) (fun _ _ _ h => h) (Or.inl ⟨by rfl, ?_⟩) (HS.out _ hb17) ?_
        rotate_left 1
        next => intro w hSw; rw [hSe] at hSw; obtain ⟨s1, s2, s3, s4, s5, s6, s7, s8, s9, s10, s11, s12, s13, s14, s15, s16⟩ := hSw; go_simp; try with_reducible rfl
        try simp only [Act.put, List.getElem_toArray, List.getElem_cons_zero, List.getElem_cons_succ, List.setIfInBounds_toArray, List.set_cons_zero, List.set_cons_succ]
        refine wpAnyH_take (i := 29) (v := ?_) rfl (by kernel_rfl) (by kernel_rfl) (by kernel_rfl) (fun _ _ _ h => h) (Or.inl ⟨by rfl, ?_⟩) (HS.out _ hb17) ?_
        rotate_left 1
        next => intro w hSw; rw [hSe] at hSw; obtain ⟨s1, s2, s3, s4, s5, s6, s7, s8, s9, s10, s11, s12, s13, s14, s15, s16⟩ := hSw; go_simp; try with_reducible rfl
        try simp only [Act.put, List.getElem_toArray, List.getElem_cons_zero, List.getElem_cons_succ, List.setIfInBounds_toArray, List.set_cons_zero, List.set_cons_succ]
        refine wpAnyH_take (i := 31) (v := ?_) rfl (by kernel_rfl) (by kernel_rfl) (by kernel_rfl) (fun _ _ _ h => h) (Or.inl ⟨by rfl, ?_⟩) (HS.out _ hb17) ?_
        rotate_left 1
        next => intro w hSw; rw [hSe] at hSw; obtain ⟨s1, s2, s3, s4, s5, s6, s7, s8, s9, s10, s11, s12, s13, s14, s15, s16⟩ := hSw; go_simp; try with_reducible rfl
        try simp only [Act.put, List.getElem_toArray, List.getElem_cons_zero, List.getElem_cons_succ, List.setIfInBounds_toArray, List.set_cons_zero, List.set_cons_succ]
        refine wpAnyH_take (i := 32) (v := ?_) rfl (by kernel_rfl) (by kernel_rfl) (by kernel_rfl) (fun _ _ _ h => h) (Or.inl ⟨by rfl, ?_⟩) (HS.out _ hb17) ?_
        rotate_left 1
        next => intro w hSw; rw [hSe] at hSw; obtain ⟨s1, s2, s3, s4, s5, s6, s7, s8, s9, s10, s11, s12, s13, s14, s15, s16⟩ := hSw; go_simp; try with_reducible rfl
        try simp only [Act.put, List.getElem_toArray, List.getElem_cons_zero, List.getElem_cons_succ, List.setIfInBounds_toArray, List.set_cons_zero, List.set_cons_succ]
        try simp only [Act.put, List.getElem_toArray, List.getElem_cons_zero, List.getElem_cons_succ, List.setIfInBounds_toArray, List.set_cons_zero, List.set_cons_succ]
        refine wpAnyH_ready (rs := [30]) (by kernel_rfl) (by simp) ?_
        refine AllReadyH.cons rfl (fun K hK => ?_) AllReadyH.nil
        go_simp
        refine (derI _ _ _ _ _ _ _ _ 56 16 ((ab_14.out.below hb17).pi (by decide)) ab_14.out.isp (by decide) (by decide)).mono ?_
        rintro e w18 ⟨dd, cdd, Fdd, rfl, hdd, ddd, hbc⟩
        have hb18 : Below y14.heap.size y14 w18 := hb17.trans (hbc.mono hb17.size)
        dsimp only
        have Hdd := Lib.hid (hdd.congr (HDe.out _ ddd))
        clear hdd ddd
        refine hK.out _ _ (HS.out _ hb18) (fun _ => ?_)
        clear hK K hbc
        try simp only [Act.put, List.getElem_toArray, List.getElem_cons_zero, List.getElem_cons_succ, List.setIfInBounds_toArray, List.set_cons_zero, List.set_cons_succ]
        refine wpAnyH_ready (rs := [33]) (by kernel_rfl) (by simp) ?_
        refine AllReadyH.cons rfl (fun K hK => ?_) AllReadyH.nil
        go_simp
        refine (addI _ _ _ _ _ _ _ _ _ _ _ 66 16 (((p1_14.out.below hb18).pi (by decide)).up (by decide) (by decide)) (((p2_14.out.below hb18).pi (by decide)).up (by decide) (by decide)) (by decide) (by decide)).mono ?_
        rintro e w19 ⟨ss, css, Nss, Fss, rfl, hss, hbc⟩
        have hb19 : Below y14.heap.size y14 w19 := hb18.trans (hbc.mono hb18.size)
        dsimp only
        have Hdd2 := Lib.hid (Hdd.out.below hbc)
        have Hss := Lib.hid hss
        clear hss
        refine hK.out _ _ (HS.out _ hb19) (fun _ => ?_)
        clear hK K hbc
        try simp only [Act.put, List.getElem_toArray, List.getElem_cons_zero, List.getElem_cons_succ, List.setIfInBounds_toArray, List.set_cons_zero, List.set_cons_succ]
        refine wpAnyH_ready (rs := [34]) (by kernel_rfl) (by simp) ?_
        refine AllReadyH.cons rfl (fun K hK => ?_) AllReadyH.nil
        go_simp
        refine (sameI _ _ _ _ _ _ _ _ _ _ _ _ _ _ Hdd2.out Hss.out (by decide)).mono ?_
        rintro e w20 ⟨rfl, hbc⟩
        have hb20 : Below y14.heap.size y14 w20 := hb19.trans (hbc.mono hb19.size)
        dsimp only
        refine hK.out _ _ (HS.out _ hb20) (fun _ => ?_)
        clear hK K hbc
        refine wpAnyH_take (i := 35) (v := ?_) rfl (by kernel_rfl) (by kernel_rfl) (by kernel_rfl) (fun _ _ _ h => h) (Or.inl ⟨by rfl, ?_⟩) (HS.out _ hb20) ?_
        rotate_left 1
        next => intro w hSw; rw [hSe] at hSw; obtain ⟨s1, s2, s3, s4, s5, s6, s7, s8, s9, s10, s11, s12, s13, s14, s15, s16⟩ := hSw; go_simp; try with_reducible rfl
        try simp only [Act.put, List.getElem_toArray, List.getElem_cons_zero, List.getElem_cons_succ, List.setIfInBounds_toArray, List.set_cons_zero, List.set_cons_succ]
        refine wpAnyH_take (i := 36) (v := ?_) rfl (by kernel_rfl) (by kernel_rfl) (by kernel_rfl) (fun _ _ _ h => h) (Or.inl ⟨by rfl, ?_⟩) (HS.out _ hb20) ?_
        rotate_left 1
        next => intro w hSw; rw [hSe] at hSw; obtain ⟨s1, s2, s3, s4, s5, s6, s7, s8, s9, s10, s11, s12, s13, s14, s15, s16⟩ := hSw; go_simp; try with_reducible rfl
        try simp only [Act.put, List.getElem_toArray, List.getElem_cons_zero, List.getElem_cons_succ, List.setIfInBounds_toArray, List.set_cons_zero, List.set_cons_succ]
        try simp only [Act.put, List.getElem_toArray, List.getElem_cons_zero, List.getElem_cons_succ, List.setIfInBounds_toArray, List.set_cons_zero, List.set_cons_succ]
        refine wpAnyH_ready (rs := [37]) (by kernel_rfl) (by simp) ?_
        refine AllReadyH.cons rfl (fun K hK => ?_) AllReadyH.nil
        go_simp
        refine (HAw.out _).mono ?_
        rintro e w21 ⟨rfl, hbc⟩
        have hb21 : Below y14.heap.size y14 w21 := hb20.trans (hbc.mono hb20.size)
        dsimp only
        refine hK.out _ _ (HS.out _ hb21) (fun _ => ?_)
        clear hK K hbc
        refine wpAnyH_take (i := 38) (v := ?_) rfl (by kernel_rfl) (by kernel_rfl) (by kernel_rfl) (fun _ _ _ h => h) (Or.inl ⟨by rfl, ?_⟩) (HS.out _ hb21) ?_
        rotate_left 1
        next => intro w hSw; rw [hSe] at hSw; obtain ⟨s1, s2, s3, s4, s5, s6, s7, s8, s9, s10, s11, s12, s13, s14, s15, s16⟩ := hSw; go_simp; try with_reducible rfl
        try simp only [Act.put, List.getElem_toArray, List.getElem_cons_zero, List.getElem_cons_succ, List.setIfInBounds_toArray, List.set_cons_zero, List.set_cons_succ]
        refine wpAnyH_take (i := 39) (v := ?_) rfl (by kernel_rfl) (by kernel_rfl) (by kernel_rfl) (fun _ _ _ h => h) (Or.inl ⟨by rfl, ?_⟩) (HS.out _ hb21) ?_
        rotate_left 1
        next => intro w hSw; rw [hSe] at hSw; obtain ⟨s1, s2, s3, s4, s5, s6, s7, s8, s9, s10, s11, s12, s13, s14, s15, s16⟩ := hSw; go_simp; try with_reducible rfl
        try simp only [Act.put, List.getElem_toArray, List.getElem_cons_zero, List.getElem_cons_succ, List.setIfInBounds_toArray, List.set_cons_zero, List.set_cons_succ]
        refine wpAnyH_done (by kernel_rfl) ?_ _
        go_wp2_with fail
        go_ret
        exact ⟨rfl, b_14.out.trans (hb21.mono b_14.out.size)⟩
    · clear hX hY hX0 hY0 hbw hbr hsm hlg hn hm hra hrb _hz _hy
      go_enter Tryd.func10, Tryd.ntmps10
      go_upto_region 1 with (fail)
      try rw [hw0]
      try rw [hgr]
      clear hgr hw0
      go_wp2_with fail
      refine (HSm.out _ HX.out HY.out).mono ?_
      rintro e y1 ⟨rfl, hbc⟩
      dsimp only
      have b_1 := Lib.hid (Hb.out.trans (hbc.mono Hb.out.size))
      have X_1 := Lib.hid (SlAt.mono HX.out (Nat.le_refl _) hbc)
      have Y_1 := Lib.hid (SlAt.mono HY.out (Nat.le_refl _) hbc)
      have r_1 := Lib.hid (HR.out.below hbc HR.out.2.2.2.2.2)
      clear Hb HX HY HR
      obtain ⟨r0, r1, r2, r3, _, _⟩ := r_1.out
      go_wp2_with fail
      refine (HLg.out _).mono ?_
      rintro e y2 ⟨rfl, hbc⟩
      dsimp only
      have b_2 := Lib.hid (b_1.out.trans (hbc.mono b_1.out.size))
      have X_2 := Lib.hid (SlAt.mono X_1.out (Nat.le_refl _) hbc)
      have Y_2 := Lib.hid (SlAt.mono Y_1.out (Nat.le_refl _) hbc)
      have r_2 := Lib.hid (r_1.out.below hbc r_1.out.2.2.2.2.2)
      clear b_1 X_1 Y_1 r_1
      go_wp2_with fail
      refine (HAw.out _).mono ?_
      rintro e y3 ⟨rfl, hbc⟩
      dsimp only
      have b_3 := Lib.hid (b_2.out.trans (hbc.mono b_2.out.size))
      have X_3 := Lib.hid (SlAt.mono X_2.out (Nat.le_refl _) hbc)
      have Y_3 := Lib.hid (SlAt.mono Y_2.out (Nat.le_refl _) hbc)
      have r_3 := Lib.hid (r_2.out.below hbc r_2.out.2.2.2.2.2)
      clear b_2 X_2 Y_2 r_2
      go_wp2_with fail
      go_ret
      exact ⟨rfl, b_3.out⟩
end Go.Proofs.YteoemijgdcpopaaDoor
