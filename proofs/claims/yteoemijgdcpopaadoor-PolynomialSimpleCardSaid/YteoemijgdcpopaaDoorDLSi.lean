/- PolynomialSimple: the walk. -/
import Derived.Test.YteoemijgdcpopaaDoorDYsi
import Derived.Test.YteoemijgdcpopaaDoorDLRu
namespace Go.Proofs.YteoemijgdcpopaaDoor
open Go.RowKit Go.Shelf
theorem ymax8c {P : Program} (ts : Array TypeId) (t : TypeId) (w : World) : (Builtin.max_ ts t #[.int .i64 0, .int .i64 0, .int .i64 0, .int .i64 0, .int .i64 0, .int .i64 0, .int .i64 0, .int .i64 0]).run P w = .ok (.int .i64 0) w := by rfl
theorem cmpI_zero (P : Int) : (cmpI P 0 == 0) = decide (P = 0) := by
  unfold cmpI
  by_cases h : P = 0
  · rw [h]; rfl
  · rw [decide_eq_false h, beq_eq_false_iff_ne]
    split
    · decide
    · split
      · decide
      · omega
set_option maxRecDepth 100000 in
set_option maxHeartbeats 8000000 in
theorem lawSimple (p : Option Addr) (n c : Nat) (Z : Nat → ZI) (ra rb : ZI) (w : World) (hX : GRow w p n Z) (hn : n ≤ maxLen) (_hz : ∀ k, k < n → (Z k).mag.size ≤ maxLen) (hra : ra.mag.size ≤ maxLen) (hrb : rb.mag.size ≤ maxLen) :
    Calls Tryd.prog 9 #[.slice p n c, .agg #[.bool ra.neg, .string ra.mag, .bool rb.neg, .string rb.mag]] w (RetB true w) := by
  have hAw := fun W => awake_any W
  obtain ⟨w0, hw0⟩ : ∃ W, w.alloc (.cells #[.bool ra.neg, .string ra.mag, .bool rb.neg, .string rb.mag] 41) = W := ⟨_, rfl⟩
  have hbw : Below w.heap.size w w0 := by rw [← hw0]; exact (Below.refl _ _).alloc (Nat.le_refl _) _
  have hbr : Box4 w0 w.heap.size (.bool ra.neg) (.string ra.mag) (.bool rb.neg) (.string rb.mag) := by rw [← hw0]; exact Box4.new _ _ _ _ _ _
  have hX0 : GRow w0 p n Z := SlAt.mono hX (Nat.le_refl _) hbw
  have HX := Lib.hid hX0
  have Hb := Lib.hid hbw
  have HR := Lib.hid hbr
  have HAw := Lib.hid hAw
  have HSm := Lib.hid (fun W h1 => small1_any W p n c Z h1 hn)
  have HLg := Lib.hid (fun W => long1R W ra rb hra hrb)
  obtain ⟨sm, hsm⟩ : ∃ b, (!gtP n Z && !decide (8 < n)) = b := ⟨_, rfl⟩
  obtain ⟨lg, hlg⟩ : ∃ b, lgB ra rb = b := ⟨_, rfl⟩
  rw [hsm] at HSm
  rw [hlg] at HLg
  obtain ⟨gr, hgr⟩ : ∃ k, w.heap.size = k := ⟨_, rfl⟩
  have hgl : w.heap.size ≤ gr := by omega
  rw [hgr] at HR
  cases sm
  · clear hX hX0 hbw hbr hsm hlg hn hra hrb _hz
    go_enter Tryd.func9, Tryd.ntmps9
    go_upto_region 1 with (fail)
    try rw [hw0]
    try rw [hgr]
    clear hgr hw0
    go_wp2_with fail
    refine (HSm.out _ HX.out).mono ?_
    rintro e y1 ⟨rfl, hbc⟩
    dsimp only
    have b_1 := Lib.hid (Hb.out.trans (hbc.mono Hb.out.size))
    have X_1 := Lib.hid (SlAt.mono HX.out (Nat.le_refl _) hbc)
    have r_1 := Lib.hid (HR.out.below hbc HR.out.2.2.2.2.2)
    clear Hb HX HR
    go_wp2_with fail
    refine (HAw.out _).mono ?_
    rintro e y2 ⟨rfl, hbc⟩
    dsimp only
    have b_2 := Lib.hid (b_1.out.trans (hbc.mono b_1.out.size))
    have X_2 := Lib.hid (SlAt.mono X_1.out (Nat.le_refl _) hbc)
    have r_2 := Lib.hid (r_1.out.below hbc r_1.out.2.2.2.2.2)
    clear b_1 X_1 r_1
    go_wp2_with fail
    go_ret
    exact ⟨rfl, b_2.out⟩
  · obtain ⟨n8, z3⟩ := small1F hsm
    by_cases h6 : 6 < n
    · have t6 : (6 : Int) < (n : Int) := by omega
      clear hX hX0 hbw hbr hsm hlg hn hra hrb _hz n8 z3 h6
      go_enter Tryd.func9, Tryd.ntmps9
      go_upto_region 1 with (fail)
      try rw [hw0]
      try rw [hgr]
      clear hgr hw0
      go_wp2_with fail
      refine (HSm.out _ HX.out).mono ?_
      rintro e y1 ⟨rfl, hbc⟩
      dsimp only
      have b_1 := Lib.hid (Hb.out.trans (hbc.mono Hb.out.size))
      have X_1 := Lib.hid (SlAt.mono HX.out (Nat.le_refl _) hbc)
      have r_1 := Lib.hid (HR.out.below hbc HR.out.2.2.2.2.2)
      clear Hb HX HR
      go_wp2_with fail
      refine (HAw.out _).mono ?_
      rintro e y2 ⟨rfl, hbc⟩
      dsimp only
      have b_2 := Lib.hid (b_1.out.trans (hbc.mono b_1.out.size))
      have X_2 := Lib.hid (SlAt.mono X_1.out (Nat.le_refl _) hbc)
      have r_2 := Lib.hid (r_1.out.below hbc r_1.out.2.2.2.2.2)
      clear b_1 X_1 r_1
      go_wp2_with fail
      go_ret
      exact ⟨rfl, b_2.out⟩
    · have t6 : ¬ (6 : Int) < (n : Int) := by omega
      cases lg
      · have hlg2 : ra.mag.size ≤ 4 ∧ rb.mag.size ≤ 4 := by
          unfold lgB at hlg
          rw [Bool.or_eq_false_iff, decide_eq_false_iff_not, decide_eq_false_iff_not] at hlg
          omega
        have hA := PI.of (L := 6) hX0 z3 (by omega)
        obtain ⟨ea, hea⟩ : ∃ e : Int → Int, (fun x => ypol (fun k => valZ (Z k)) n x) = e := ⟨_, rfl⟩
        rw [hea] at hA
        have iA0 := hA.deg
        have hN6 := dgN_le (fun k => valZ (zx Z n k)) n
        generalize dgN (fun k => valZ (zx Z n k)) n = N at iA0 hN6
        generalize ctN (fun k => valZ (zx Z n k)) N = F at iA0
        have HN6 := Lib.hid (show N ≤ 6 by omega)
        have iA := Lib.hid iA0
        have HA := Lib.hid hA
        have Hrs := Lib.hid (show ra.mag.size ≤ 100000000 ∧ rb.mag.size ≤ 100000000 by omega)
        have Hrb := Lib.hid (And.intro (bn_four hlg2.1) (bn_four hlg2.2))
        have Hv0 : Hid (0 < rloD (valZ ra) (valZ rb)) := Lib.hid (rlo_qc _ _).pos
        obtain ⟨u, hu⟩ : ∃ u, rloN (valZ ra) (valZ rb) = u := ⟨_, rfl⟩
        obtain ⟨v, hv⟩ : ∃ u, rloD (valZ ra) (valZ rb) = u := ⟨_, rfl⟩
        have HAt : Hid (∀ (W : World) (p : Option Addr) (n c : Nat) (Z : Nat → ZI) (e : Int → Int) (N : Nat) (F : Nat → Int) (B L : Nat), PI W p n Z e B L → IsP N F e → L ≤ 65 → B ≤ 1000000 → Calls Tryd.prog 37 #[.slice p n c, .agg #[.bool ra.neg, .string ra.mag, .bool rb.neg, .string rb.mag]] W (RetAtI e u v (B + 33 * L) W)) := Lib.hid (fun W p n c Z e N F B L h1 h2 h3 h4 => by
          rw [← hu, ← hv]
          exact atI W p n c Z e N F B L 32 ra rb h1 h2 h3 h4 Hrs.out.1 Hrs.out.2 Hrb.out.1 Hrb.out.2 (by decide))
        rw [hv] at Hv0
        have hmax := @ymax8c Tryd.prog
        clear hX hX0 hbw hbr hsm hlg hn hra hrb _hz n8 z3 h6 hlg2 hea iA0 hA hN6 hu hv
        rcases Nat.eq_zero_or_pos N with h0 | h0
        · subst h0
          go_enter Tryd.func9, Tryd.ntmps9
          go_upto_region 1 with (fail)
          try rw [hw0]
          try rw [hgr]
          clear hgr hw0
          go_wp2_with fail
          refine (HSm.out _ HX.out).mono ?_
          rintro e y1 ⟨rfl, hbc⟩
          dsimp only
          have b_1 := Lib.hid (Hb.out.trans (hbc.mono Hb.out.size))
          have r_1 := Lib.hid (HR.out.below hbc HR.out.2.2.2.2.2)
          have A_1 := Lib.hid (HA.out.below hbc)
          clear Hb HX HR HA
          obtain ⟨r0, r1, r2, r3, _, _⟩ := r_1.out
          go_wp2_with fail
          refine (HLg.out _).mono ?_
          rintro e y2 ⟨rfl, hbc⟩
          dsimp only
          have b_2 := Lib.hid (b_1.out.trans (hbc.mono b_1.out.size))
          have r_2 := Lib.hid (r_1.out.below hbc r_1.out.2.2.2.2.2)
          have A_2 := Lib.hid (A_1.out.below hbc)
          clear b_1 r_1 A_1
          go_wp2_with fail
          refine (sq0I _ _ _ _ _ _ F 24 6 A_2.out iA.out (by decide) (by decide)).mono ?_
          rintro e y3 ⟨sq, csq, rfl, hbc⟩
          dsimp only
          have b_3 := Lib.hid (b_2.out.trans (hbc.mono b_2.out.size))
          have r_3 := Lib.hid (r_2.out.below hbc r_2.out.2.2.2.2.2)
          have A_3 := Lib.hid (A_2.out.below hbc)
          clear b_2 r_2 A_2
          go_wp2_with fail
          refine (degF _ _ _ _ _ _ 24 6 0 F iA.out A_3.out (by decide)).mono ?_
          rintro e y4 ⟨rfl, hbc⟩
          dsimp only
          have b_4 := Lib.hid (b_3.out.trans (hbc.mono b_3.out.size))
          have r_4 := Lib.hid (r_3.out.below hbc r_3.out.2.2.2.2.2)
          have A_4 := Lib.hid (A_3.out.below hbc)
          clear b_3 r_3 A_3
          go_wp2_with fail
          refine (HAw.out _).mono ?_
          rintro e y5 ⟨rfl, hbc⟩
          dsimp only
          have b_5 := Lib.hid (b_4.out.trans (hbc.mono b_4.out.size))
          have r_5 := Lib.hid (r_4.out.below hbc r_4.out.2.2.2.2.2)
          have A_5 := Lib.hid (A_4.out.below hbc)
          clear b_4 r_4 A_4
          go_wp2_with fail
          go_ret
          exact ⟨rfl, b_5.out⟩
        · have HN0 := Lib.hid h0
          have Hp0 : Hid (¬ ∀ x, ea x = 0) := Lib.hid (fun h => by have := iA.out.zero_iff.2 h; omega)
          obtain ⟨ja, hja⟩ : ∃ j : Int, (N : Int) - 1 = j := ⟨_, rfl⟩
          have tj : ¬ ja < 0 := by omega
          have Hja := Lib.hid hja
          clear h0 hja
          go_enter Tryd.func9, Tryd.ntmps9
          go_upto_region 1 with (fail)
          try rw [hw0]
          try rw [hgr]
          clear hgr hw0
          go_wp2_with fail
          refine (HSm.out _ HX.out).mono ?_
          rintro e y1 ⟨rfl, hbc⟩
          dsimp only
          have b_1 := Lib.hid (Hb.out.trans (hbc.mono Hb.out.size))
          have r_1 := Lib.hid (HR.out.below hbc HR.out.2.2.2.2.2)
          have A_1 := Lib.hid (HA.out.below hbc)
          clear Hb HX HR HA
          obtain ⟨r0, r1, r2, r3, _, _⟩ := r_1.out
          go_wp2_with fail
          refine (HLg.out _).mono ?_
          rintro e y2 ⟨rfl, hbc⟩
          dsimp only
          have b_2 := Lib.hid (b_1.out.trans (hbc.mono b_1.out.size))
          have r_2 := Lib.hid (r_1.out.below hbc r_1.out.2.2.2.2.2)
          have A_2 := Lib.hid (A_1.out.below hbc)
          clear b_1 r_1 A_1
          go_wp2_with fail
          refine (sqfI _ _ _ _ _ _ N F 24 6 6 25515 17034 A_2.out iA.out HN0.out HN6.out (by decide) (by decide) (by decide) (by decide) (by decide) (by decide) (by decide)).mono ?_
          rintro e y3 ⟨sp, csp, Ns, Fs, es, rfl, hsp, ssp, hbc⟩
          dsimp only
          have b_3 := Lib.hid (b_2.out.trans (hbc.mono b_2.out.size))
          have r_3 := Lib.hid (r_2.out.below hbc r_2.out.2.2.2.2.2)
          have A_3 := Lib.hid (A_2.out.below hbc)
          clear b_2 r_2 A_2
          have s_3 := Lib.hid (hsp)
          have Ss := Lib.hid ssp
          clear ssp hsp
          have HNs := Lib.hid (show 0 < Ns ∧ Ns ≤ 6 from ⟨Ss.out.prim.pos, s_3.out.len⟩)
          go_wp2_with fail
          refine (degF _ _ _ _ _ _ 24 6 N F iA.out A_3.out (by decide)).mono ?_
          rintro e y4 ⟨rfl, hbc⟩
          dsimp only
          have b_4 := Lib.hid (b_3.out.trans (hbc.mono b_3.out.size))
          have r_4 := Lib.hid (r_3.out.below hbc r_3.out.2.2.2.2.2)
          have A_4 := Lib.hid (A_3.out.below hbc)
          have s_4 := Lib.hid (s_3.out.below hbc)
          clear b_3 r_3 A_3 s_3
          rw [Hja.out]
          go_wp2_with fail
          refine (derI _ _ _ _ _ _ _ _ 17034 6 (s_4.out.pi (by decide)) s_4.out.isp (by decide) (by decide)).mono ?_
          rintro e y5 ⟨ds, cds, Fds, rfl, hds, dds, hbc⟩
          dsimp only
          have b_5 := Lib.hid (b_4.out.trans (hbc.mono b_4.out.size))
          have r_5 := Lib.hid (r_4.out.below hbc r_4.out.2.2.2.2.2)
          have A_5 := Lib.hid (A_4.out.below hbc)
          have s_5 := Lib.hid (s_4.out.below hbc)
          clear b_4 r_4 A_4 s_4
          have ds_5 := Lib.hid (hds)
          have Dds := Lib.hid dds
          clear dds hds
          go_wp2_with fail
          refine (gcdI _ _ _ _ _ _ _ _ _ _ _ 17044 6 40000000 ((s_5.out.pi (by decide)).up (by decide) (by decide)) (ds_5.out.pi (by decide)) (by decide) (by decide) (by decide)).mono ?_
          rintro e y6 ⟨gg, cgg, Ngg, Fgg, egg, rfl, hgg, ggg, hbc⟩
          dsimp only
          have b_6 := Lib.hid (b_5.out.trans (hbc.mono b_5.out.size))
          have r_6 := Lib.hid (r_5.out.below hbc r_5.out.2.2.2.2.2)
          have A_6 := Lib.hid (A_5.out.below hbc)
          have s_6 := Lib.hid (s_5.out.below hbc)
          clear b_5 r_5 A_5 s_5 ds_5
          have gg_6 := Lib.hid (hgg)
          have Hs0 : ¬ ((∀ x, es x = 0) ∧ ∀ x, ypol (deC Fs) (Ns - 1) x = 0) := fun h => by
            have := s_6.out.isp.zero_iff.2 h.1
            have := HNs.out.1
            omega
          obtain rfl : Ngg = 1 := by
            have h1 := Ss.out.free iA.out.pf Hp0.out Dds.out gg_6.out.isp (ggg.cd Hs0)
            have h2 := (ggg.prim Hs0).pos
            omega
          clear ggg hgg Hs0 Dds
          go_wp2_with fail
          refine (divI _ _ _ _ _ _ _ _ _ _ _ _ _ _ _ 17034 6 6 (A_6.out.up (by decide) (by decide)) (s_6.out.pi (by decide)) iA.out s_6.out.isp HNs.out.1 (by decide) (by decide) (by decide)).mono ?_
          rintro e y7 ⟨dx, cdx, dy, cdy, NQ, FQ, NR, FR, eq, er, rfl, hdx, hdy, hex, hlx, hbc⟩
          dsimp only
          have b_7 := Lib.hid (b_6.out.trans (hbc.mono b_6.out.size))
          have r_7 := Lib.hid (r_6.out.below hbc r_6.out.2.2.2.2.2)
          have A_7 := Lib.hid (A_6.out.below hbc)
          have s_7 := Lib.hid (s_6.out.below hbc)
          have gg_7 := Lib.hid (gg_6.out.below hbc)
          clear b_6 r_6 A_6 s_6 gg_6
          obtain rfl : NR = 0 := dv_none Ss.out.dvd s_7.out.isp hdy.isp hdx.isp.pf hex hlx
          clear hex hlx hdx hdy
          go_wp2_with fail
          refine (sqfI _ _ _ _ _ _ Ns Fs 17034 6 6 12425805 100000000 (s_7.out.pi (by decide)) s_7.out.isp HNs.out.1 HNs.out.2 (by decide) (by decide) (by decide) (by decide) (by decide) (by decide) (by decide)).mono ?_
          rintro e y8 ⟨s2, cs2, Ns2, Fs2, es2, rfl, hs2, ss2, hbc⟩
          dsimp only
          have b_8 := Lib.hid (b_7.out.trans (hbc.mono b_7.out.size))
          have r_8 := Lib.hid (r_7.out.below hbc r_7.out.2.2.2.2.2)
          have A_8 := Lib.hid (A_7.out.below hbc)
          have s_8 := Lib.hid (s_7.out.below hbc)
          have gg_8 := Lib.hid (gg_7.out.below hbc)
          clear b_7 r_7 A_7 s_7 gg_7
          have s2_8 := Lib.hid (hs2)
          have Es2 := Lib.hid (Ss.out.again iA.out.pf Hp0.out ss2)
          clear ss2 hs2
          go_wp2_with fail
          refine (mulI _ _ _ _ _ _ _ _ _ _ _ 24 24 6 6 A_8.out A_8.out (by decide) (by decide) (by decide)).mono ?_
          rintro e y9 ⟨qq, cqq, Nqq, Fqq, rfl, hqq, hbc⟩
          dsimp only
          have b_9 := Lib.hid (b_8.out.trans (hbc.mono b_8.out.size))
          have r_9 := Lib.hid (r_8.out.below hbc r_8.out.2.2.2.2.2)
          have A_9 := Lib.hid (A_8.out.below hbc)
          have s_9 := Lib.hid (s_8.out.below hbc)
          have gg_9 := Lib.hid (gg_8.out.below hbc)
          have s2_9 := Lib.hid (s2_8.out.below hbc)
          clear b_8 r_8 A_8 s_8 gg_8 s2_8
          have qq_9 := Lib.hid (hqq)
          have HNq := Lib.hid (show 0 < Nqq ∧ Nqq ≤ 11 from by
            have h1 := (iA.out.deg iA.out qq_9.out.isp).2 HN0.out HN0.out
            have := HN0.out
            have := HN6.out
            omega)
          clear hqq
          go_wp2_with fail
          refine (sqfI _ _ _ _ _ _ Nqq Fqq 54 12 11 11514555 100000000 (qq_9.out.pi (by decide)) qq_9.out.isp HNq.out.1 HNq.out.2 (by decide) (by decide) (by decide) (by decide) (by decide) (by decide) (by decide)).mono ?_
          rintro e y10 ⟨s3, cs3, Ns3, Fs3, es3, rfl, hs3, ss3, hbc⟩
          dsimp only
          have b_10 := Lib.hid (b_9.out.trans (hbc.mono b_9.out.size))
          have r_10 := Lib.hid (r_9.out.below hbc r_9.out.2.2.2.2.2)
          have A_10 := Lib.hid (A_9.out.below hbc)
          have s_10 := Lib.hid (s_9.out.below hbc)
          have gg_10 := Lib.hid (gg_9.out.below hbc)
          have s2_10 := Lib.hid (s2_9.out.below hbc)
          clear b_9 r_9 A_9 s_9 gg_9 s2_9 qq_9
          have s3_10 := Lib.hid (hs3)
          have Es3 := Lib.hid (Ss.out.square iA.out.pf Hp0.out ss3)
          clear ss3 hs3
          obtain ⟨r0, r1, r2, r3, _, _⟩ := r_10.out
          go_wp2_with fail
          refine (HAt.out _ _ _ _ _ _ _ _ 24 6 A_10.out iA.out (by decide) (by decide)).mono ?_
          rintro e y11 ⟨Px, Qx, rfl, qx, vx, ax, bex, hbc⟩
          dsimp only
          have b_11 := Lib.hid (b_10.out.trans (hbc.mono b_10.out.size))
          have r_11 := Lib.hid (r_10.out.below hbc r_10.out.2.2.2.2.2)
          have A_11 := Lib.hid (A_10.out.below hbc)
          have s_11 := Lib.hid (s_10.out.below hbc)
          have gg_11 := Lib.hid (gg_10.out.below hbc)
          have s2_11 := Lib.hid (s2_10.out.below hbc)
          have s3_11 := Lib.hid (s3_10.out.below hbc)
          clear b_10 r_10 A_10 s_10 gg_10 s2_10 s3_10
          have Kx := Lib.hid (And.intro qx (And.intro vx (And.intro ax bex)))
          clear qx vx ax bex
          unfold ratV
          try dsimp only
          obtain ⟨Cx, hCx⟩ : ∃ z, canon Px = z := ⟨_, rfl⟩
          obtain ⟨Dx, hDx⟩ : ∃ z, canon Qx = z := ⟨_, rfl⟩
          rw [hCx, hDx]
          have Ex := Lib.hid (And.intro hCx hDx)
          clear hCx hDx
          go_upto_region 12 with (fail)
          have hbx := Box4.new y11 (.bool Cx.neg) (.string Cx.mag) (.bool Dx.neg) (.string Dx.mag) 41
          have hbc := (Below.refl y11.heap.size y11).alloc (Nat.le_refl _) (.cells #[.bool Cx.neg, .string Cx.mag, .bool Dx.neg, .string Dx.mag] 41)
          have b_12 := Lib.hid (b_11.out.trans (hbc.mono b_11.out.size))
          have r_12 := Lib.hid (r_11.out.below hbc r_11.out.2.2.2.2.2)
          have A_12 := Lib.hid (A_11.out.below hbc)
          have s_12 := Lib.hid (s_11.out.below hbc)
          have gg_12 := Lib.hid (gg_11.out.below hbc)
          have s2_12 := Lib.hid (s2_11.out.below hbc)
          have s3_12 := Lib.hid (s3_11.out.below hbc)
          clear b_11 r_11 A_11 s_11 gg_11 s2_11 s3_11
          obtain ⟨gx, hgx⟩ : ∃ k, y11.heap.size = k := ⟨_, rfl⟩
          rw [hgx] at hbx ⊢
          clear hgx hbc
          generalize y11.alloc (.cells #[.bool Cx.neg, .string Cx.mag, .bool Dx.neg, .string Dx.mag] 41) = y12 at *
          have xx_12 := Lib.hid hbx
          clear hbx
          obtain ⟨r0, r1, r2, r3, _, _⟩ := r_12.out
          go_wp2_with fail
          refine (HAt.out _ _ _ _ _ _ _ _ 17034 6 (s_12.out.pi (by decide)) s_12.out.isp (by decide) (by decide)).mono ?_
          rintro e y13 ⟨Py, Qy, rfl, qy, vy, ay, bey, hbc⟩
          dsimp only
          have b_13 := Lib.hid (b_12.out.trans (hbc.mono b_12.out.size))
          have r_13 := Lib.hid (r_12.out.below hbc r_12.out.2.2.2.2.2)
          have A_13 := Lib.hid (A_12.out.below hbc)
          have s_13 := Lib.hid (s_12.out.below hbc)
          have gg_13 := Lib.hid (gg_12.out.below hbc)
          have s2_13 := Lib.hid (s2_12.out.below hbc)
          have s3_13 := Lib.hid (s3_12.out.below hbc)
          have xx_13 := Lib.hid (xx_12.out.below hbc xx_12.out.2.2.2.2.2)
          clear b_12 r_12 A_12 s_12 gg_12 s2_12 s3_12 xx_12
          have Ky := Lib.hid (And.intro qy (And.intro vy (And.intro ay bey)))
          clear qy vy ay bey
          unfold ratV
          try dsimp only
          obtain ⟨Cy, hCy⟩ : ∃ z, canon Py = z := ⟨_, rfl⟩
          obtain ⟨Dy, hDy⟩ : ∃ z, canon Qy = z := ⟨_, rfl⟩
          rw [hCy, hDy]
          have Ey := Lib.hid (And.intro hCy hDy)
          clear hCy hDy
          go_upto_region 13 with (fail)
          have hbx := Box4.new y13 (.bool Cy.neg) (.string Cy.mag) (.bool Dy.neg) (.string Dy.mag) 41
          have hbc := (Below.refl y13.heap.size y13).alloc (Nat.le_refl _) (.cells #[.bool Cy.neg, .string Cy.mag, .bool Dy.neg, .string Dy.mag] 41)
          have b_14 := Lib.hid (b_13.out.trans (hbc.mono b_13.out.size))
          have r_14 := Lib.hid (r_13.out.below hbc r_13.out.2.2.2.2.2)
          have A_14 := Lib.hid (A_13.out.below hbc)
          have s_14 := Lib.hid (s_13.out.below hbc)
          have gg_14 := Lib.hid (gg_13.out.below hbc)
          have s2_14 := Lib.hid (s2_13.out.below hbc)
          have s3_14 := Lib.hid (s3_13.out.below hbc)
          have xx_14 := Lib.hid (xx_13.out.below hbc xx_13.out.2.2.2.2.2)
          clear b_13 r_13 A_13 s_13 gg_13 s2_13 s3_13 xx_13
          obtain ⟨gy, hgy⟩ : ∃ k, y13.heap.size = k := ⟨_, rfl⟩
          rw [hgy] at hbx ⊢
          clear hgy hbc
          generalize y13.alloc (.cells #[.bool Cy.neg, .string Cy.mag, .bool Dy.neg, .string Dy.mag] 41) = y14 at *
          have xy_14 := Lib.hid hbx
          clear hbx
          go_wp2_with fail
          refine (primI _ _ _ _ _ _ 17034 6 s_14.out Ss.out.prim (by decide) (by decide)).mono ?_
          rintro e y15 ⟨rfl, hbc⟩
          dsimp only
          have b_15 := Lib.hid (b_14.out.trans (hbc.mono b_14.out.size))
          have r_15 := Lib.hid (r_14.out.below hbc r_14.out.2.2.2.2.2)
          have A_15 := Lib.hid (A_14.out.below hbc)
          have s_15 := Lib.hid (s_14.out.below hbc)
          have gg_15 := Lib.hid (gg_14.out.below hbc)
          have s2_15 := Lib.hid (s2_14.out.below hbc)
          have s3_15 := Lib.hid (s3_14.out.below hbc)
          have xx_15 := Lib.hid (xx_14.out.below hbc xx_14.out.2.2.2.2.2)
          have xy_15 := Lib.hid (xy_14.out.below hbc xy_14.out.2.2.2.2.2)
          clear b_14 r_14 A_14 s_14 gg_14 s2_14 s3_14 xx_14 xy_14
          go_wp2_with fail
          refine (degF _ _ _ _ _ _ 40000000 6 1 Fgg gg_15.out.isp (gg_15.out.pi (by decide)) (by decide)).mono ?_
          rintro e y16 ⟨rfl, hbc⟩
          dsimp only
          have b_16 := Lib.hid (b_15.out.trans (hbc.mono b_15.out.size))
          have r_16 := Lib.hid (r_15.out.below hbc r_15.out.2.2.2.2.2)
          have A_16 := Lib.hid (A_15.out.below hbc)
          have s_16 := Lib.hid (s_15.out.below hbc)
          have s2_16 := Lib.hid (s2_15.out.below hbc)
          have s3_16 := Lib.hid (s3_15.out.below hbc)
          have xx_16 := Lib.hid (xx_15.out.below hbc xx_15.out.2.2.2.2.2)
          have xy_16 := Lib.hid (xy_15.out.below hbc xy_15.out.2.2.2.2.2)
          clear b_15 r_15 A_15 s_15 gg_15 s2_15 s3_15 xx_15 xy_15
          have HCx := Lib.hid (fun W => cmpR0_any Px Qx (e := 20000) Kx.out.1 (Kx.out.2.2.1.up (by decide)) (Kx.out.2.2.2.up (by decide)) (by decide) W)
          have HCy := Lib.hid (fun W => cmpR0_any Py Qy (e := 20000) Ky.out.1 (Ky.out.2.2.1.up (by decide)) (Ky.out.2.2.2.up (by decide)) (by decide) W)
          have hroot : decide (Px = 0) = decide (Py = 0) := by
            have h1 := Kx.out.2.1.root iA.out.pf Hv0.out (by have := Kx.out.1.pos; omega)
            have h2 := Ky.out.2.1.root s_16.out.isp.pf Hv0.out (by have := Ky.out.1.pos; omega)
            have h3 := Ss.out.prime iA.out.pf Hp0.out (lin_prime u (show v ≠ 0 by have := Hv0.out; omega))
            have h4 : Px = 0 ↔ Py = 0 := by rw [h1, h2, h3]
            by_cases h5 : Px = 0
            · rw [decide_eq_true h5, decide_eq_true (h4.1 h5)]
            · rw [decide_eq_false h5, decide_eq_false fun h => h5 (h4.2 h)]
          have hcx := cmpI_zero Px
          have hcy := cmpI_zero Py
          rw [← hroot] at hcy
          obtain ⟨bb, hbb⟩ : ∃ b, decide (Px = 0) = b := ⟨_, rfl⟩
          rw [hbb] at hcx hcy
          unfold ratV at HCx HCy
          rw [Ex.out.1, Ex.out.2] at HCx
          rw [Ey.out.1, Ey.out.2] at HCy
          obtain ⟨cx, hcxe⟩ : ∃ c, cmpI Px 0 = c := ⟨_, rfl⟩
          obtain ⟨cy, hcye⟩ : ∃ c, cmpI Py 0 = c := ⟨_, rfl⟩
          rw [hcxe] at HCx hcx
          rw [hcye] at HCy hcy
          clear Kx Ky Ex Ey hroot hbb hcxe hcye
          go_upto_region 15 with (fail)
          obtain ⟨SS, hSe⟩ : ∃ SS : World → Prop, SS = fun W => W.cell? ⟨gx, 0, none⟩ = some (.bool Cx.neg) ∧ W.cell? ⟨gx, 1, none⟩ = some (.string Cx.mag) ∧ W.cell? ⟨gx, 2, none⟩ = some (.bool Dx.neg) ∧ W.cell? ⟨gx, 3, none⟩ = some (.string Dx.mag) ∧ W.cell? ⟨gy, 0, none⟩ = some (.bool Cy.neg) ∧ W.cell? ⟨gy, 1, none⟩ = some (.string Cy.mag) ∧ W.cell? ⟨gy, 2, none⟩ = some (.bool Dy.neg) ∧ W.cell? ⟨gy, 3, none⟩ = some (.string Dy.mag) := ⟨_, rfl⟩
          have HS : Hid (∀ W, Below y16.heap.size y16 W → SS W) := Lib.hid (fun W hW => by
            have xx' := xx_16.out.below hW xx_16.out.2.2.2.2.2
            have xy' := xy_16.out.below hW xy_16.out.2.2.2.2.2
            rw [hSe]; exact ⟨xx'.1, xx'.2.1, xx'.2.2.1, xx'.2.2.2.1, xy'.1, xy'.2.1, xy'.2.2.1, xy'.2.2.2.1⟩)
          have hd : Below y16.heap.size y16 y16.drew := (Below.refl _ _).drew
          cases bb
          · refine wp_region_held_drew (S := SS) (by kernel_rfl) (HS.out _ hd) (fun hSS => ?_)
            refine wpAnyH_take (i := 0) (v := ?_) rfl (by kernel_rfl) (by kernel_rfl) (by kernel_rfl) (fun _ _ _ h => h) (Or.inl ⟨by rfl, ?_⟩) (HS.out _ hd) ?_
            rotate_left 1
            next => intro w hSw; rw [hSe] at hSw; obtain ⟨s1, s2, s3, s4, s5, s6, s7, s8⟩ := hSw; go_simp; try with_reducible rfl
            try simp only [Act.put, List.getElem_toArray, List.getElem_cons_zero, List.getElem_cons_succ, List.setIfInBounds_toArray, List.set_cons_zero, List.set_cons_succ]
            refine wpAnyH_take (i := 1) (v := ?_) rfl (by kernel_rfl) (by kernel_rfl) (by kernel_rfl) (fun _ _ _ h => h) (Or.inl ⟨by rfl, ?_⟩) (HS.out _ hd) ?_
            rotate_left 1
            next => intro w hSw; rw [hSe] at hSw; obtain ⟨s1, s2, s3, s4, s5, s6, s7, s8⟩ := hSw; go_simp; try with_reducible rfl
            try simp only [Act.put, List.getElem_toArray, List.getElem_cons_zero, List.getElem_cons_succ, List.setIfInBounds_toArray, List.set_cons_zero, List.set_cons_succ]
            try simp only [Act.put, List.getElem_toArray, List.getElem_cons_zero, List.getElem_cons_succ, List.setIfInBounds_toArray, List.set_cons_zero, List.set_cons_succ]
            refine wpAnyH_ready (rs := [2]) (by kernel_rfl) (by simp) ?_
            refine AllReadyH.cons rfl (fun K hK => ?_) AllReadyH.nil
            go_simp
            refine (sameI _ _ _ _ _ _ _ _ _ _ _ _ _ _ ((s2_16.out.below hd).congr Es2.out) (s_16.out.below hd) (by decide)).mono ?_
            rintro e w1 ⟨rfl, hbc⟩
            have hb1 : Below y16.heap.size y16 w1 := hd.trans (hbc.mono hd.size)
            dsimp only
            refine hK.out _ _ (HS.out _ hb1) (fun _ => ?_)
            clear hK K hbc
            refine wpAnyH_take (i := 3) (v := ?_) rfl (by kernel_rfl) (by kernel_rfl) (by kernel_rfl) (fun _ _ _ h => h) (Or.inl ⟨by rfl, ?_⟩) (HS.out _ hb1) ?_
            rotate_left 1
            next => intro w hSw; rw [hSe] at hSw; obtain ⟨s1, s2, s3, s4, s5, s6, s7, s8⟩ := hSw; go_simp; try with_reducible rfl
            try simp only [Act.put, List.getElem_toArray, List.getElem_cons_zero, List.getElem_cons_succ, List.setIfInBounds_toArray, List.set_cons_zero, List.set_cons_succ]
            refine wpAnyH_take (i := 4) (v := ?_) rfl (by kernel_rfl) (by kernel_rfl) (by kernel_rfl) (fun _ _ _ h => h) (Or.inl ⟨by rfl, ?_⟩) (HS.out _ hb1) ?_
            rotate_left 1
            next => intro w hSw; rw [hSe] at hSw; obtain ⟨s1, s2, s3, s4, s5, s6, s7, s8⟩ := hSw; go_simp; try with_reducible rfl
            try simp only [Act.put, List.getElem_toArray, List.getElem_cons_zero, List.getElem_cons_succ, List.setIfInBounds_toArray, List.set_cons_zero, List.set_cons_succ]
            refine wpAnyH_take (i := 5) (v := ?_) rfl (by kernel_rfl) (by kernel_rfl) (by kernel_rfl) (fun _ _ _ h => h) (Or.inl ⟨by rfl, ?_⟩) (HS.out _ hb1) ?_
            rotate_left 1
            next => intro w hSw; rw [hSe] at hSw; obtain ⟨s1, s2, s3, s4, s5, s6, s7, s8⟩ := hSw; go_simp; try with_reducible rfl
            try simp only [Act.put, List.getElem_toArray, List.getElem_cons_zero, List.getElem_cons_succ, List.setIfInBounds_toArray, List.set_cons_zero, List.set_cons_succ]
            try simp only [Act.put, List.getElem_toArray, List.getElem_cons_zero, List.getElem_cons_succ, List.setIfInBounds_toArray, List.set_cons_zero, List.set_cons_succ]
            refine wpAnyH_ready (rs := [6]) (by kernel_rfl) (by simp) ?_
            refine AllReadyH.cons rfl (fun K hK => ?_) AllReadyH.nil
            go_simp
            refine (sameI _ _ _ _ _ _ _ _ _ _ _ _ _ _ ((s3_16.out.below hb1).congr Es3.out) (s_16.out.below hb1) (by decide)).mono ?_
            rintro e w2 ⟨rfl, hbc⟩
            have hb2 : Below y16.heap.size y16 w2 := hb1.trans (hbc.mono hb1.size)
            dsimp only
            refine hK.out _ _ (HS.out _ hb2) (fun _ => ?_)
            clear hK K hbc
            refine wpAnyH_take (i := 7) (v := ?_) rfl (by kernel_rfl) (by kernel_rfl) (by kernel_rfl) (fun _ _ _ h => h) (Or.inl ⟨by rfl, ?_⟩) (HS.out _ hb2) ?_
            rotate_left 1
            next => intro w hSw; rw [hSe] at hSw; obtain ⟨s1, s2, s3, s4, s5, s6, s7, s8⟩ := hSw; go_simp; try with_reducible rfl
            try simp only [Act.put, List.getElem_toArray, List.getElem_cons_zero, List.getElem_cons_succ, List.setIfInBounds_toArray, List.set_cons_zero, List.set_cons_succ]
            refine wpAnyH_take (i := 8) (v := ?_) rfl (by kernel_rfl) (by kernel_rfl) (by kernel_rfl) (fun _ _ _ h => h) (Or.inl ⟨by rfl, ?_⟩) (HS.out _ hb2) ?_
            rotate_left 1
            next => intro w hSw; rw [hSe] at hSw; obtain ⟨s1, s2, s3, s4, s5, s6, s7, s8⟩ := hSw; go_simp; try with_reducible rfl
            try simp only [Act.put, List.getElem_toArray, List.getElem_cons_zero, List.getElem_cons_succ, List.setIfInBounds_toArray, List.set_cons_zero, List.set_cons_succ]
            refine wpAnyH_take (i := 9) (v := ?_) rfl (by kernel_rfl) (by kernel_rfl) (by kernel_rfl) (fun _ _ _ h => h) (Or.inl ⟨by rfl, ?_⟩) (HS.out _ hb2) ?_
            rotate_left 1
            next => intro w hSw; rw [hSe] at hSw; obtain ⟨s1, s2, s3, s4, s5, s6, s7, s8⟩ := hSw; go_simp; try with_reducible rfl
            try simp only [Act.put, List.getElem_toArray, List.getElem_cons_zero, List.getElem_cons_succ, List.setIfInBounds_toArray, List.set_cons_zero, List.set_cons_succ]
            refine wpAnyH_take (i := 10) (v := ?_) rfl (by kernel_rfl) (by kernel_rfl) (by kernel_rfl) (fun _ _ _ h => h) (Or.inl ⟨by rfl, ?_⟩) (HS.out _ hb2) ?_
            rotate_left 1
            next => intro w hSw; rw [hSe] at hSw; obtain ⟨s1, s2, s3, s4, s5, s6, s7, s8⟩ := hSw; go_simp; try with_reducible rfl
            try simp only [Act.put, List.getElem_toArray, List.getElem_cons_zero, List.getElem_cons_succ, List.setIfInBounds_toArray, List.set_cons_zero, List.set_cons_succ]
            refine wpAnyH_take (i := 13) (v := ?_) rfl (by kernel_rfl) (by kernel_rfl) (by kernel_rfl) (fun _ _ _ h => h) (Or.inl ⟨by rfl, ?_⟩) (HS.out _ hb2) ?_
            rotate_left 1
            next => intro w hSw; rw [hSe] at hSw; obtain ⟨s1, s2, s3, s4, s5, s6, s7, s8⟩ := hSw; go_simp; try with_reducible rfl
            try simp only [Act.put, List.getElem_toArray, List.getElem_cons_zero, List.getElem_cons_succ, List.setIfInBounds_toArray, List.set_cons_zero, List.set_cons_succ]
            refine wpAnyH_take (i := 14) (v := ?_) rfl (by kernel_rfl) (by kernel_rfl) (by kernel_rfl) (fun _ _ _ h => h) (Or.inl ⟨by rfl, ?_⟩) (HS.out _ hb2) ?_
            rotate_left 1
            next => intro w hSw; rw [hSe] at hSw; obtain ⟨s1, s2, s3, s4, s5, s6, s7, s8⟩ := hSw; go_simp; try with_reducible rfl
            try simp only [Act.put, List.getElem_toArray, List.getElem_cons_zero, List.getElem_cons_succ, List.setIfInBounds_toArray, List.set_cons_zero, List.set_cons_succ]
            try simp only [Act.put, List.getElem_toArray, List.getElem_cons_zero, List.getElem_cons_succ, List.setIfInBounds_toArray, List.set_cons_zero, List.set_cons_succ]
            refine wpAnyH_ready (rs := [11]) (by kernel_rfl) (by simp) ?_
            refine AllReadyH.cons rfl (fun K hK => ?_) AllReadyH.nil
            go_simp
            refine (HCx.out _).mono ?_
            rintro e w3 ⟨rfl, hbc⟩
            have hb3 : Below y16.heap.size y16 w3 := hb2.trans (hbc.mono hb2.size)
            dsimp only
            refine hK.out _ _ (HS.out _ hb3) (fun _ => ?_)
            clear hK K hbc
            refine wpAnyH_take (i := 12) (v := ?_) rfl (by kernel_rfl) (by kernel_rfl) (by kernel_rfl) (fun _ _ _ h => h) (Or.inl ⟨by rfl, ?_⟩) (HS.out _ hb3) ?_
            rotate_left 1
            next => intro w hSw; rw [hSe] at hSw; obtain ⟨s1, s2, s3, s4, s5, s6, s7, s8⟩ := hSw; go_simp; try with_reducible rfl
            try simp only [Act.put, List.getElem_toArray, List.getElem_cons_zero, List.getElem_cons_succ, List.setIfInBounds_toArray, List.set_cons_zero, List.set_cons_succ]
            try simp only [Act.put, List.getElem_toArray, List.getElem_cons_zero, List.getElem_cons_succ, List.setIfInBounds_toArray, List.set_cons_zero, List.set_cons_succ]
            refine wpAnyH_ready (rs := [15]) (by kernel_rfl) (by simp) ?_
            refine AllReadyH.cons rfl (fun K hK => ?_) AllReadyH.nil
            go_simp
            refine (HCy.out _).mono ?_
            rintro e w4 ⟨rfl, hbc⟩
            have hb4 : Below y16.heap.size y16 w4 := hb3.trans (hbc.mono hb3.size)
            dsimp only
            refine hK.out _ _ (HS.out _ hb4) (fun _ => ?_)
            clear hK K hbc
            refine wpAnyH_take (i := 16) (v := ?_) rfl (by kernel_rfl) (by kernel_rfl) (by kernel_rfl) (fun _ _ _ h => h) (Or.inl ⟨by rfl, ?_⟩) (HS.out _ hb4) ?_
            rotate_left 1
            next => intro w hSw; rw [hSe] at hSw; obtain ⟨s1, s2, s3, s4, s5, s6, s7, s8⟩ := hSw; go_simp; try with_reducible rfl
            try simp only [Act.put, List.getElem_toArray, List.getElem_cons_zero, List.getElem_cons_succ, List.setIfInBounds_toArray, List.set_cons_zero, List.set_cons_succ]
            refine wpAnyH_take (i := 17) (v := ?_) rfl (by kernel_rfl) (by kernel_rfl) (by kernel_rfl) (fun _ _ _ h => h) (Or.inl ⟨by rfl, ?_⟩) (HS.out _ hb4) ?_
            rotate_left 1
            next => intro w hSw; rw [hSe] at hSw; obtain ⟨s1, s2, s3, s4, s5, s6, s7, s8⟩ := hSw; go_simp; try with_reducible rfl
            try simp only [Act.put, List.getElem_toArray, List.getElem_cons_zero, List.getElem_cons_succ, List.setIfInBounds_toArray, List.set_cons_zero, List.set_cons_succ]
            refine wpAnyH_take (i := 18) (v := ?_) rfl (by kernel_rfl) (by kernel_rfl) (by kernel_rfl) (fun _ _ _ h => h) (Or.inl ⟨by rfl, ?_⟩) (HS.out _ hb4) ?_
            rotate_left 1
            next => intro w hSw; rw [hSe] at hSw; obtain ⟨s1, s2, s3, s4, s5, s6, s7, s8⟩ := hSw; go_simp; try with_reducible rfl
            try simp only [Act.put, List.getElem_toArray, List.getElem_cons_zero, List.getElem_cons_succ, List.setIfInBounds_toArray, List.set_cons_zero, List.set_cons_succ]
            refine wpAnyH_take (i := 19) (v := ?_) rfl (by kernel_rfl) (by kernel_rfl) (by kernel_rfl) (fun _ _ _ h => h) (Or.inl ⟨by rfl, ?_⟩) (HS.out _ hb4) ?_
            rotate_left 1
            next => intro w hSw; rw [hSe] at hSw; obtain ⟨s1, s2, s3, s4, s5, s6, s7, s8⟩ := hSw; go_simp; try with_reducible rfl
            try simp only [Act.put, List.getElem_toArray, List.getElem_cons_zero, List.getElem_cons_succ, List.setIfInBounds_toArray, List.set_cons_zero, List.set_cons_succ]
            try simp only [Act.put, List.getElem_toArray, List.getElem_cons_zero, List.getElem_cons_succ, List.setIfInBounds_toArray, List.set_cons_zero, List.set_cons_succ]
            refine wpAnyH_ready (rs := [20]) (by kernel_rfl) (by simp) ?_
            refine AllReadyH.cons rfl (fun K hK => ?_) AllReadyH.nil
            go_simp
            refine (HAw.out _).mono ?_
            rintro e w5 ⟨rfl, hbc⟩
            have hb5 : Below y16.heap.size y16 w5 := hb4.trans (hbc.mono hb4.size)
            dsimp only
            refine hK.out _ _ (HS.out _ hb5) (fun _ => ?_)
            clear hK K hbc
            refine wpAnyH_take (i := 21) (v := ?_) rfl (by kernel_rfl) (by kernel_rfl) (by kernel_rfl) (fun _ _ _ h => h) (Or.inl ⟨by rfl, ?_⟩) (HS.out _ hb5) ?_
            rotate_left 1
            next => intro w hSw; rw [hSe] at hSw; obtain ⟨s1, s2, s3, s4, s5, s6, s7, s8⟩ := hSw; go_simp; try with_reducible rfl
            try simp only [Act.put, List.getElem_toArray, List.getElem_cons_zero, List.getElem_cons_succ, List.setIfInBounds_toArray, List.set_cons_zero, List.set_cons_succ]
            refine wpAnyH_take (i := 22) (v := ?_) rfl (by kernel_rfl) (by kernel_rfl) (by kernel_rfl) (fun _ _ _ h => h) (Or.inl ⟨by rfl, ?_⟩) (HS.out _ hb5) ?_
            rotate_left 1
            next => intro w hSw; rw [hSe] at hSw; obtain ⟨s1, s2, s3, s4, s5, s6, s7, s8⟩ := hSw; go_simp; try with_reducible rfl
            try simp only [Act.put, List.getElem_toArray, List.getElem_cons_zero, List.getElem_cons_succ, List.setIfInBounds_toArray, List.set_cons_zero, List.set_cons_succ]
            refine wpAnyH_done (by kernel_rfl) ?_ _
            go_wp2_with fail
            go_ret
            exact ⟨rfl, b_16.out.trans (hb5.mono b_16.out.size)⟩
          · refine wp_region_held_drew (S := SS) (by kernel_rfl) (HS.out _ hd) (fun hSS => ?_)
            refine wpAnyH_take (i := 0) (v := ?_) rfl (by kernel_rfl) (by kernel_rfl) (by kernel_rfl) (fun _ _ _ h => h) (Or.inl ⟨by rfl, ?_⟩) (HS.out _ hd) ?_
            rotate_left 1
            next => intro w hSw; rw [hSe] at hSw; obtain ⟨s1, s2, s3, s4, s5, s6, s7, s8⟩ := hSw; go_simp; try with_reducible rfl
            try simp only [Act.put, List.getElem_toArray, List.getElem_cons_zero, List.getElem_cons_succ, List.setIfInBounds_toArray, List.set_cons_zero, List.set_cons_succ]
            refine wpAnyH_take (i := 1) (v := ?_) rfl (by kernel_rfl) (by kernel_rfl) (by kernel_rfl) (fun _ _ _ h => h) (Or.inl ⟨by rfl, ?_⟩) (HS.out _ hd) ?_
            rotate_left 1
            next => intro w hSw; rw [hSe] at hSw; obtain ⟨s1, s2, s3, s4, s5, s6, s7, s8⟩ := hSw; go_simp; try with_reducible rfl
            try simp only [Act.put, List.getElem_toArray, List.getElem_cons_zero, List.getElem_cons_succ, List.setIfInBounds_toArray, List.set_cons_zero, List.set_cons_succ]
            try simp only [Act.put, List.getElem_toArray, List.getElem_cons_zero, List.getElem_cons_succ, List.setIfInBounds_toArray, List.set_cons_zero, List.set_cons_succ]
            refine wpAnyH_ready (rs := [2]) (by kernel_rfl) (by simp) ?_
            refine AllReadyH.cons rfl (fun K hK => ?_) AllReadyH.nil
            go_simp
            refine (sameI _ _ _ _ _ _ _ _ _ _ _ _ _ _ ((s2_16.out.below hd).congr Es2.out) (s_16.out.below hd) (by decide)).mono ?_
            rintro e w6 ⟨rfl, hbc⟩
            have hb6 : Below y16.heap.size y16 w6 := hd.trans (hbc.mono hd.size)
            dsimp only
            refine hK.out _ _ (HS.out _ hb6) (fun _ => ?_)
            clear hK K hbc
            refine wpAnyH_take (i := 3) (v := ?_) rfl (by kernel_rfl) (by kernel_rfl) (by kernel_rfl) (fun _ _ _ h => h) (Or.inl ⟨by rfl, ?_⟩) (HS.out _ hb6) ?_
            rotate_left 1
            next => intro w hSw; rw [hSe] at hSw; obtain ⟨s1, s2, s3, s4, s5, s6, s7, s8⟩ := hSw; go_simp; try with_reducible rfl
            try simp only [Act.put, List.getElem_toArray, List.getElem_cons_zero, List.getElem_cons_succ, List.setIfInBounds_toArray, List.set_cons_zero, List.set_cons_succ]
            refine wpAnyH_take (i := 4) (v := ?_) rfl (by kernel_rfl) (by kernel_rfl) (by kernel_rfl) (fun _ _ _ h => h) (Or.inl ⟨by rfl, ?_⟩) (HS.out _ hb6) ?_
            rotate_left 1
            next => intro w hSw; rw [hSe] at hSw; obtain ⟨s1, s2, s3, s4, s5, s6, s7, s8⟩ := hSw; go_simp; try with_reducible rfl
            try simp only [Act.put, List.getElem_toArray, List.getElem_cons_zero, List.getElem_cons_succ, List.setIfInBounds_toArray, List.set_cons_zero, List.set_cons_succ]
            refine wpAnyH_take (i := 5) (v := ?_) rfl (by kernel_rfl) (by kernel_rfl) (by kernel_rfl) (fun _ _ _ h => h) (Or.inl ⟨by rfl, ?_⟩) (HS.out _ hb6) ?_
            rotate_left 1
            next => intro w hSw; rw [hSe] at hSw; obtain ⟨s1, s2, s3, s4, s5, s6, s7, s8⟩ := hSw; go_simp; try with_reducible rfl
            try simp only [Act.put, List.getElem_toArray, List.getElem_cons_zero, List.getElem_cons_succ, List.setIfInBounds_toArray, List.set_cons_zero, List.set_cons_succ]
            try simp only [Act.put, List.getElem_toArray, List.getElem_cons_zero, List.getElem_cons_succ, List.setIfInBounds_toArray, List.set_cons_zero, List.set_cons_succ]
            refine wpAnyH_ready (rs := [6]) (by kernel_rfl) (by simp) ?_
            refine AllReadyH.cons rfl (fun K hK => ?_) AllReadyH.nil
            go_simp
            refine (sameI _ _ _ _ _ _ _ _ _ _ _ _ _ _ ((s3_16.out.below hb6).congr Es3.out) (s_16.out.below hb6) (by decide)).mono ?_
            rintro e w7 ⟨rfl, hbc⟩
            have hb7 : Below y16.heap.size y16 w7 := hb6.trans (hbc.mono hb6.size)
            dsimp only
            refine hK.out _ _ (HS.out _ hb7) (fun _ => ?_)
            clear hK K hbc
            refine wpAnyH_take (i := 7) (v := ?_) rfl (by kernel_rfl) (by kernel_rfl) (by kernel_rfl) (fun _ _ _ h => h) (Or.inl ⟨by rfl, ?_⟩) (HS.out _ hb7) ?_
            rotate_left 1
            next => intro w hSw; rw [hSe] at hSw; obtain ⟨s1, s2, s3, s4, s5, s6, s7, s8⟩ := hSw; go_simp; try with_reducible rfl
            try simp only [Act.put, List.getElem_toArray, List.getElem_cons_zero, List.getElem_cons_succ, List.setIfInBounds_toArray, List.set_cons_zero, List.set_cons_succ]
            refine wpAnyH_take (i := 8) (v := ?_) rfl (by kernel_rfl) (by kernel_rfl) (by kernel_rfl) (fun _ _ _ h => h) (Or.inl ⟨by rfl, ?_⟩) (HS.out _ hb7) ?_
            rotate_left 1
            next => intro w hSw; rw [hSe] at hSw; obtain ⟨s1, s2, s3, s4, s5, s6, s7, s8⟩ := hSw; go_simp; try with_reducible rfl
            try simp only [Act.put, List.getElem_toArray, List.getElem_cons_zero, List.getElem_cons_succ, List.setIfInBounds_toArray, List.set_cons_zero, List.set_cons_succ]
            refine wpAnyH_take (i := 9) (v := ?_) rfl (by kernel_rfl) (by kernel_rfl) (by kernel_rfl) (fun _ _ _ h => h) (Or.inl ⟨by rfl, ?_⟩) (HS.out _ hb7) ?_
            rotate_left 1
            next => intro w hSw; rw [hSe] at hSw; obtain ⟨s1, s2, s3, s4, s5, s6, s7, s8⟩ := hSw; go_simp; try with_reducible rfl
            try simp only [Act.put, List.getElem_toArray, List.getElem_cons_zero, List.getElem_cons_succ, List.setIfInBounds_toArray, List.set_cons_zero, List.set_cons_succ]
            refine wpAnyH_take (i := 10) (v := ?_) rfl (by kernel_rfl) (by kernel_rfl) (by kernel_rfl) (fun _ _ _ h => h) (Or.inl ⟨by rfl, ?_⟩) (HS.out _ hb7) ?_
            rotate_left 1
            next => intro w hSw; rw [hSe] at hSw; obtain ⟨s1, s2, s3, s4, s5, s6, s7, s8⟩ := hSw; go_simp; try with_reducible rfl
            try simp only [Act.put, List.getElem_toArray, List.getElem_cons_zero, List.getElem_cons_succ, List.setIfInBounds_toArray, List.set_cons_zero, List.set_cons_succ]
            refine wpAnyH_take (i := 13) (v := ?_) rfl (by kernel_rfl) (by kernel_rfl) (by kernel_rfl) (fun _ _ _ h => h) (Or.inl ⟨by rfl, ?_⟩) (HS.out _ hb7) ?_
            rotate_left 1
            next => intro w hSw; rw [hSe] at hSw; obtain ⟨s1, s2, s3, s4, s5, s6, s7, s8⟩ := hSw; go_simp; try with_reducible rfl
            try simp only [Act.put, List.getElem_toArray, List.getElem_cons_zero, List.getElem_cons_succ, List.setIfInBounds_toArray, List.set_cons_zero, List.set_cons_succ]
            refine wpAnyH_take (i := 14) (v := ?_) rfl (by kernel_rfl) (by kernel_rfl) (by kernel_rfl) (fun _ _ _ h => h) (Or.inl ⟨by rfl, ?_⟩) (HS.out _ hb7) ?_
            rotate_left 1
            next => intro w hSw; rw [hSe] at hSw; obtain ⟨s1, s2, s3, s4, s5, s6, s7, s8⟩ := hSw; go_simp; try with_reducible rfl
            try simp only [Act.put, List.getElem_toArray, List.getElem_cons_zero, List.getElem_cons_succ, List.setIfInBounds_toArray, List.set_cons_zero, List.set_cons_succ]
            try simp only [Act.put, List.getElem_toArray, List.getElem_cons_zero, List.getElem_cons_succ, List.setIfInBounds_toArray, List.set_cons_zero, List.set_cons_succ]
            refine wpAnyH_ready (rs := [11]) (by kernel_rfl) (by simp) ?_
            refine AllReadyH.cons rfl (fun K hK => ?_) AllReadyH.nil
            go_simp
            refine (HCx.out _).mono ?_
            rintro e w8 ⟨rfl, hbc⟩
            have hb8 : Below y16.heap.size y16 w8 := hb7.trans (hbc.mono hb7.size)
            dsimp only
            refine hK.out _ _ (HS.out _ hb8) (fun _ => ?_)
            clear hK K hbc
            refine wpAnyH_take (i := 12) (v := ?_) rfl (by kernel_rfl) (by kernel_rfl) (by kernel_rfl) (fun _ _ _ h => h) (Or.inl ⟨by rfl, ?_⟩) (HS.out _ hb8) ?_
            rotate_left 1
            next => intro w hSw; rw [hSe] at hSw; obtain ⟨s1, s2, s3, s4, s5, s6, s7, s8⟩ := hSw; go_simp; try with_reducible rfl
            try simp only [Act.put, List.getElem_toArray, List.getElem_cons_zero, List.getElem_cons_succ, List.setIfInBounds_toArray, List.set_cons_zero, List.set_cons_succ]
            try simp only [Act.put, List.getElem_toArray, List.getElem_cons_zero, List.getElem_cons_succ, List.setIfInBounds_toArray, List.set_cons_zero, List.set_cons_succ]
            refine wpAnyH_ready (rs := [15]) (by kernel_rfl) (by simp) ?_
            refine AllReadyH.cons rfl (fun K hK => ?_) AllReadyH.nil
            go_simp
            refine (HCy.out _).mono ?_
            rintro e w9 ⟨rfl, hbc⟩
            have hb9 : Below y16.heap.size y16 w9 := hb8.trans (hbc.mono hb8.size)
            dsimp only
            refine hK.out _ _ (HS.out _ hb9) (fun _ => ?_)
            clear hK K hbc
            refine wpAnyH_take (i := 16) (v := ?_) rfl (by kernel_rfl) (by kernel_rfl) (by kernel_rfl) (fun _ _ _ h => h) (Or.inl ⟨by rfl, ?_⟩) (HS.out _ hb9) ?_
            rotate_left 1
            next => intro w hSw; rw [hSe] at hSw; obtain ⟨s1, s2, s3, s4, s5, s6, s7, s8⟩ := hSw; go_simp; try with_reducible rfl
            try simp only [Act.put, List.getElem_toArray, List.getElem_cons_zero, List.getElem_cons_succ, List.setIfInBounds_toArray, List.set_cons_zero, List.set_cons_succ]
            refine wpAnyH_take (i := 17) (v := ?_) rfl (by kernel_rfl) (by kernel_rfl) (by kernel_rfl) (fun _ _ _ h => h) (Or.inl ⟨by rfl, ?_⟩) (HS.out _ hb9) ?_
            rotate_left 1
            next => intro w hSw; rw [hSe] at hSw; obtain ⟨s1, s2, s3, s4, s5, s6, s7, s8⟩ := hSw; go_simp; try with_reducible rfl
            try simp only [Act.put, List.getElem_toArray, List.getElem_cons_zero, List.getElem_cons_succ, List.setIfInBounds_toArray, List.set_cons_zero, List.set_cons_succ]
            refine wpAnyH_take (i := 18) (v := ?_) rfl (by kernel_rfl) (by kernel_rfl) (by kernel_rfl) (fun _ _ _ h => h) (Or.inl ⟨by rfl, ?_⟩) (HS.out _ hb9) ?_
            rotate_left 1
            next => intro w hSw; rw [hSe] at hSw; obtain ⟨s1, s2, s3, s4, s5, s6, s7, s8⟩ := hSw; go_simp; try with_reducible rfl
            try simp only [Act.put, List.getElem_toArray, List.getElem_cons_zero, List.getElem_cons_succ, List.setIfInBounds_toArray, List.set_cons_zero, List.set_cons_succ]
            refine wpAnyH_take (i := 19) (v := ?_) rfl (by kernel_rfl) (by kernel_rfl) (by kernel_rfl) (fun _ _ _ h => h) (Or.inl ⟨by rfl, ?_⟩) (HS.out _ hb9) ?_
            rotate_left 1
            next => intro w hSw; rw [hSe] at hSw; obtain ⟨s1, s2, s3, s4, s5, s6, s7, s8⟩ := hSw; go_simp; try with_reducible rfl
            try simp only [Act.put, List.getElem_toArray, List.getElem_cons_zero, List.getElem_cons_succ, List.setIfInBounds_toArray, List.set_cons_zero, List.set_cons_succ]
            try simp only [Act.put, List.getElem_toArray, List.getElem_cons_zero, List.getElem_cons_succ, List.setIfInBounds_toArray, List.set_cons_zero, List.set_cons_succ]
            refine wpAnyH_ready (rs := [20]) (by kernel_rfl) (by simp) ?_
            refine AllReadyH.cons rfl (fun K hK => ?_) AllReadyH.nil
            go_simp
            refine (HAw.out _).mono ?_
            rintro e w10 ⟨rfl, hbc⟩
            have hb10 : Below y16.heap.size y16 w10 := hb9.trans (hbc.mono hb9.size)
            dsimp only
            refine hK.out _ _ (HS.out _ hb10) (fun _ => ?_)
            clear hK K hbc
            refine wpAnyH_take (i := 21) (v := ?_) rfl (by kernel_rfl) (by kernel_rfl) (by kernel_rfl) (fun _ _ _ h => h) (Or.inl ⟨by rfl, ?_⟩) (HS.out _ hb10) ?_
            rotate_left 1
            next => intro w hSw; rw [hSe] at hSw; obtain ⟨s1, s2, s3, s4, s5, s6, s7, s8⟩ := hSw; go_simp; try with_reducible rfl
            try simp only [Act.put, List.getElem_toArray, List.getElem_cons_zero, List.getElem_cons_succ, List.setIfInBounds_toArray, List.set_cons_zero, List.set_cons_succ]
            refine wpAnyH_take (i := 22) (v := ?_) rfl (by kernel_rfl) (by kernel_rfl) (by kernel_rfl) (fun _ _ _ h => h) (Or.inl ⟨by rfl, ?_⟩) (HS.out _ hb10) ?_
            rotate_left 1
            next => intro w hSw; rw [hSe] at hSw; obtain ⟨s1, s2, s3, s4, s5, s6, s7, s8⟩ := hSw; go_simp; try with_reducible rfl
            try simp only [Act.put, List.getElem_toArray, List.getElem_cons_zero, List.getElem_cons_succ, List.setIfInBounds_toArray, List.set_cons_zero, List.set_cons_succ]
            refine wpAnyH_done (by kernel_rfl) ?_ _
            go_wp2_with fail
            go_ret
            exact ⟨rfl, b_16.out.trans (hb10.mono b_16.out.size)⟩
      · clear hX hX0 hbw hbr hsm hlg hn hra hrb _hz n8 z3 h6
        go_enter Tryd.func9, Tryd.ntmps9
        go_upto_region 1 with (fail)
        try rw [hw0]
        try rw [hgr]
        clear hgr hw0
        go_wp2_with fail
        refine (HSm.out _ HX.out).mono ?_
        rintro e y1 ⟨rfl, hbc⟩
        dsimp only
        have b_1 := Lib.hid (Hb.out.trans (hbc.mono Hb.out.size))
        have X_1 := Lib.hid (SlAt.mono HX.out (Nat.le_refl _) hbc)
        have r_1 := Lib.hid (HR.out.below hbc HR.out.2.2.2.2.2)
        clear Hb HX HR
        obtain ⟨r0, r1, r2, r3, _, _⟩ := r_1.out
        go_wp2_with fail
        refine (HLg.out _).mono ?_
        rintro e y2 ⟨rfl, hbc⟩
        dsimp only
        have b_2 := Lib.hid (b_1.out.trans (hbc.mono b_1.out.size))
        have X_2 := Lib.hid (SlAt.mono X_1.out (Nat.le_refl _) hbc)
        have r_2 := Lib.hid (r_1.out.below hbc r_1.out.2.2.2.2.2)
        clear b_1 X_1 r_1
        go_wp2_with fail
        refine (HAw.out _).mono ?_
        rintro e y3 ⟨rfl, hbc⟩
        dsimp only
        have b_3 := Lib.hid (b_2.out.trans (hbc.mono b_2.out.size))
        have X_3 := Lib.hid (SlAt.mono X_2.out (Nat.le_refl _) hbc)
        have r_3 := Lib.hid (r_2.out.below hbc r_2.out.2.2.2.2.2)
        clear b_2 X_2 r_2
        go_wp2_with fail
        go_ret
        exact ⟨rfl, b_3.out⟩
end Go.Proofs.YteoemijgdcpopaaDoor
