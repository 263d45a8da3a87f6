/- PolynomialCommon: the walk. -/
import Derived.Test.YteoemijgdcpopaaDoorD43
namespace Go.Proofs.YteoemijgdcpopaaDoor
open Go.RowKit Go.Shelf
theorem ymax3d {P : Program} (ts : Array TypeId) (t : TypeId) (w : World) : (Builtin.max_ ts t #[.int .i64 0, .int .i64 0, .int .i64 0]).run P w = .ok (.int .i64 0) w := by rfl
theorem CD.scaleG {a b g g' : Int → Int} {k c : Int} (h : CD a b g) (hk : k ≠ 0) (hc : c ≠ 0) (he : ∀ x, k * g x = c * g' x) : CD a b g' := by
  obtain ⟨⟨k1, s1, hk1, hs1, e1⟩, ⟨k2, s2, hk2, hs2, e2⟩, k0, u, v, hk0, hu, hv, e3⟩ := h
  refine ⟨⟨k * k1, fun x => c * s1 x, mul_ne hk hk1, hs1.smul c, fun x => ?_⟩, ⟨k * k2, fun x => c * s2 x, mul_ne hk hk2, hs2.smul c, fun x => ?_⟩, k0 * c, fun x => k * u x, fun x => k * v x, mul_ne hk0 hc, hu.smul k, hv.smul k, fun x => ?_⟩
  · have h1 := e1 x; have h2 := he x
    rw [Int.mul_assoc, h1]; grind
  · have h1 := e2 x; have h2 := he x
    rw [Int.mul_assoc, h1]; grind
  · have h1 := e3 x; have h2 := he x
    rw [Int.mul_assoc, ← h2, show k0 * (k * g x) = k * (k0 * g x) from by grind, h1]; grind
theorem PI.cut {w : World} {p : Option Addr} {n : Nat} {Z : Nat → ZI} {e : Int → Int} {B L L' : Nat} (h : PI w p n Z e B L) (hn : n ≤ L') : PI w p n Z e B L' := ⟨h.row, hn, h.sz, h.bn, h.ev⟩
theorem PI.nil (w : World) (p : Option Addr) (B L : Nat) : PI w p 0 (fun _ => canon 0) (fun _ => 0) B L :=
  ⟨.inl rfl, Nat.zero_le _, fun k hk => by omega, fun k => by rw [valZ_canon]; exact Bn.zero _, fun x => rfl⟩
theorem primI (w : World) (p : Option Addr) (N c : Nat) (F : Nat → Int) (e : Int → Int) (B L : Nat) (h : PR w p N F e B L) (hp : Prim N F) (hL : L ≤ 1000) (hB : B ≤ 100000000) :
    Calls Tryd.prog 33 #[.slice p N c] w (RetB true w) := by
  have := h.len
  exact primLaw_any N F p c (e := B) (by omega) hB h.bn hp w h.row
theorem dv_none {ea eb eq er : Int → Int} {N M : Nat} {F G : Nat → Int} {c : Int} (hd : Dvd eb ea) (hG : IsP M G eb) (hF : IsP N F er) (hq : PF eq) (he : ∀ x, c * ea x = eq x * eb x + er x) (hlt : N < M) : N = 0 := by
  obtain ⟨l, s, hl, hs, e⟩ := hd
  refine hF.rest0 (l := l) (s := fun x => c * s x - l * eq x) hG ((hs.smul c).sub (hq.smul l)) hl (fun x => ?_) hlt
  have h1 := e x; have h2 := he x
  rw [show er x = c * ea x - eq x * eb x from by omega, Int.mul_sub, show l * (c * ea x) = c * (l * ea x) from by grind, h1]
  grind
theorem bcom {ea eb ec eg eo em : Int → Int} {NG NO NM NW NC : Nat} {G O Mm Ww C : Nat → Int} (hg : GcP ea eb NG G eg) (h0 : ¬ ((∀ x, ea x = 0) ∧ ∀ x, eb x = 0)) (iG : IsP NG G eg) (pa : PF ea) (pb : PF eb) (iC : IsP NC C ec) (hC : 0 < NC) (ho : GcP ec (fun _ => 0) NO O eo) (iO : IsP NO O eo)
    (hm : GcP (fun x => ea x * ec x) (fun x => eb x * ec x) NM Mm em) (iM : IsP NM Mm em) (iW : IsP NW Ww (fun x => eg x * eo x)) (x : Int) : em x = eg x * eo x := by
  have c0 : ¬ ((∀ x, ec x = 0) ∧ ∀ x : Int, (0 : Int) = 0) := fun h => by have := iC.zero_iff.2 h.1; omega
  have c1 : ¬ ∀ x, ec x = 0 := fun h => c0 ⟨h, fun _ => rfl⟩
  have m0 : ¬ ((∀ x, ea x * ec x = 0) ∧ ∀ x, eb x * ec x = 0) := fun h => h0 ⟨fun x => by
    refine PF.cancel (d' := fun _ => 0) iC.pf pa (PF.const 0) c1 (fun x => ?_) x
    rw [Int.mul_comm, h.1 x]; simp, fun x => by
    refine PF.cancel (d' := fun _ => 0) iC.pf pb (PF.const 0) c1 (fun x => ?_) x
    rw [Int.mul_comm, h.2 x]; simp⟩
  have hpo := ho.prim c0
  have hpg := hg.prim h0
  obtain ⟨k, c, hk, hc, e⟩ := (CD.zero (a := ec) (b := fun _ => 0) fun _ => rfl).assoc (ho.cd c0) iC iO hC hpo.pos
  have hW : CD (fun x => ea x * ec x) (fun x => eb x * ec x) (fun x => eg x * eo x) := ((hg.cd h0).times iC.pf).scaleG hk hc fun x => by
    have := e x
    show k * (eg x * ec x) = c * (eg x * eo x)
    rw [show k * (eg x * ec x) = eg x * (k * ec x) from by grind, this]; grind
  have i2 := iG.mul iO hpg.pos hpo.pos
  have p2 := hpg.mul hpo
  exact (hm.cd m0).unique hW iM i2 (hm.prim m0) p2 x
set_option maxRecDepth 100000 in
set_option maxHeartbeats 8000000 in
theorem lawCommon (p : Option Addr) (n c : Nat) (Z : Nat → ZI) (q : Option Addr) (m d : Nat) (Y : Nat → ZI) (r : Option Addr) (l f : Nat) (X : Nat → ZI) (w : World) (hX : GRow w p n Z) (hn : n ≤ maxLen) (_hz : ∀ k, k < n → (Z k).mag.size ≤ maxLen) (hY : GRow w q m Y) (hm : m ≤ maxLen) (_hy : ∀ k, k < m → (Y k).mag.size ≤ maxLen) (hV : GRow w r l X) (hl : l ≤ maxLen) (_hx : ∀ k, k < l → (X k).mag.size ≤ maxLen) :
    Calls Tryd.prog 6 #[.slice p n c, .slice q m d, .slice r l f] w (RetB true w) := by
  have HX := Lib.hid hX
  have HY := Lib.hid hY
  have HV := Lib.hid hV
  have Hb : Hid (Below w.heap.size w w) := Lib.hid (Below.refl _ _)
  have HAw := Lib.hid (fun W => awake_any W)
  have HSm := Lib.hid (fun W h1 h2 h3 => small3_any W p q r n m l c d f Z Y X h1 h2 h3 hn hm hl)
  obtain ⟨sm, hsm⟩ : ∃ b, (!(gtP n Z || gtP m Y || gtP l X) && !(decide (8 < n) || decide (8 < m) || decide (8 < l))) = b := ⟨_, rfl⟩
  rw [hsm] at HSm
  cases sm
  · clear hX hY hV hsm hn hm hl _hz _hy _hx
    go_enter Tryd.func6, Tryd.ntmps6
    go_wp2_with fail
    refine (HSm.out _ HX.out HY.out HV.out).mono ?_
    rintro e y1 ⟨rfl, hbc⟩
    dsimp only
    have b_1 := Lib.hid (Hb.out.trans (hbc.mono Hb.out.size))
    clear Hb HX HY HV
    go_wp2_with fail
    refine (HAw.out _).mono ?_
    rintro e y2 ⟨rfl, hbc⟩
    dsimp only
    have b_2 := Lib.hid (b_1.out.trans (hbc.mono b_1.out.size))
    clear b_1
    go_wp2_with fail
    go_ret
    exact ⟨rfl, b_2.out⟩
  · obtain ⟨⟨n8, z3⟩, ⟨m8, y3⟩, l8, x3⟩ := small3F hsm
    have hA := PI.of hX z3 n8
    have hB := PI.of hY y3 m8
    have hC := PI.of hV x3 l8
    obtain ⟨ea, hea⟩ : ∃ e : Int → Int, (fun x => ypol (fun k => valZ (Z k)) n x) = e := ⟨_, rfl⟩
    obtain ⟨eb, heb⟩ : ∃ e : Int → Int, (fun x => ypol (fun k => valZ (Y k)) m x) = e := ⟨_, rfl⟩
    obtain ⟨ec, hec⟩ : ∃ e : Int → Int, (fun x => ypol (fun k => valZ (X k)) l x) = e := ⟨_, rfl⟩
    rw [hea] at hA
    rw [heb] at hB
    rw [hec] at hC
    have iA0 := hA.deg
    have iB0 := hB.deg
    have iC0 := hC.deg
    generalize dgN (fun k => valZ (zx Z n k)) n = N at iA0
    generalize dgN (fun k => valZ (zx Y m k)) m = M at iB0
    generalize dgN (fun k => valZ (zx X l k)) l = K at iC0
    generalize ctN (fun k => valZ (zx Z n k)) N = F at iA0
    generalize ctN (fun k => valZ (zx Y m k)) M = G at iB0
    generalize ctN (fun k => valZ (zx X l k)) K = C at iC0
    have iA := Lib.hid iA0
    have iB := Lib.hid iB0
    have iC := Lib.hid iC0
    have HA := Lib.hid hA
    have HB := Lib.hid hB
    have HC := Lib.hid hC
    have hmax := @ymax3d Tryd.prog
    have hmax2 := @ymax5c Tryd.prog
    clear hX hY hV hsm hn hm hl _hz _hy _hx n8 z3 m8 y3 l8 x3 hea heb hec iA0 iB0 iC0 hA hB hC
    by_cases h00 : N = 0 ∧ M = 0
    · obtain ⟨rfl, rfl⟩ := h00
      go_enter Tryd.func6, Tryd.ntmps6
      go_wp2_with fail
      refine (HSm.out _ HX.out HY.out HV.out).mono ?_
      rintro e y1 ⟨rfl, hbc⟩
      dsimp only
      have b_1 := Lib.hid (Hb.out.trans (hbc.mono Hb.out.size))
      have A_1 := Lib.hid (HA.out.below hbc)
      have B_1 := Lib.hid (HB.out.below hbc)
      have C_1 := Lib.hid (HC.out.below hbc)
      clear Hb HX HY HV HA HB HC
      go_wp2_with fail
      refine (gcdI _ _ _ _ _ _ _ _ _ _ _ 24 8 500000 A_1.out B_1.out (by decide) (by decide) (by decide)).mono ?_
      rintro e y2 ⟨gg, cgg, Ngg, Fgg, egg, rfl, hgg, ggg, hbc⟩
      dsimp only
      have b_2 := Lib.hid (b_1.out.trans (hbc.mono b_1.out.size))
      have A_2 := Lib.hid (A_1.out.below hbc)
      have B_2 := Lib.hid (B_1.out.below hbc)
      have C_2 := Lib.hid (C_1.out.below hbc)
      clear b_1 A_1 B_1 C_1
      have gg_2 := Lib.hid (hgg)
      have Ggg := Lib.hid ggg
      clear ggg hgg
      obtain rfl := Ggg.out.nil (iA.out.zero_iff.1 rfl) (iB.out.zero_iff.1 rfl)
      go_wp2_with fail
      refine (degF _ _ _ _ _ _ 24 8 0 F iA.out A_2.out (by decide)).mono ?_
      rintro e y3 ⟨rfl, hbc⟩
      dsimp only
      have b_3 := Lib.hid (b_2.out.trans (hbc.mono b_2.out.size))
      have A_3 := Lib.hid (A_2.out.below hbc)
      have B_3 := Lib.hid (B_2.out.below hbc)
      have C_3 := Lib.hid (C_2.out.below hbc)
      have gg_3 := Lib.hid (gg_2.out.below hbc)
      clear b_2 A_2 B_2 C_2 gg_2
      go_wp2_with fail
      refine (degF _ _ _ _ _ _ 24 8 0 G iB.out B_3.out (by decide)).mono ?_
      rintro e y4 ⟨rfl, hbc⟩
      dsimp only
      have b_4 := Lib.hid (b_3.out.trans (hbc.mono b_3.out.size))
      have A_4 := Lib.hid (A_3.out.below hbc)
      have B_4 := Lib.hid (B_3.out.below hbc)
      have C_4 := Lib.hid (C_3.out.below hbc)
      have gg_4 := Lib.hid (gg_3.out.below hbc)
      clear b_3 A_3 B_3 C_3 gg_3
      go_wp2_with fail
      refine (HAw.out _).mono ?_
      rintro e y5 ⟨rfl, hbc⟩
      dsimp only
      have b_5 := Lib.hid (b_4.out.trans (hbc.mono b_4.out.size))
      have A_5 := Lib.hid (A_4.out.below hbc)
      have B_5 := Lib.hid (B_4.out.below hbc)
      have C_5 := Lib.hid (C_4.out.below hbc)
      have gg_5 := Lib.hid (gg_4.out.below hbc)
      clear b_4 A_4 B_4 C_4 gg_4
      go_wp2_with fail
      go_ret
      exact ⟨rfl, b_5.out⟩
    · have H0 : Hid (¬ ((∀ x, ea x = 0) ∧ ∀ x, eb x = 0)) := Lib.hid (fun h => h00 ⟨iA.out.zero_iff.2 h.1, iB.out.zero_iff.2 h.2⟩)
      have H1 : Hid (¬ ((∀ x, eb x = 0) ∧ ∀ x, ea x = 0)) := Lib.hid (fun h => h00 ⟨iA.out.zero_iff.2 h.2, iB.out.zero_iff.2 h.1⟩)
      go_enter Tryd.func6, Tryd.ntmps6
      go_wp2_with fail
      refine (HSm.out _ HX.out HY.out HV.out).mono ?_
      rintro e y1 ⟨rfl, hbc⟩
      dsimp only
      have b_1 := Lib.hid (Hb.out.trans (hbc.mono Hb.out.size))
      have A_1 := Lib.hid (HA.out.below hbc)
      have B_1 := Lib.hid (HB.out.below hbc)
      have C_1 := Lib.hid (HC.out.below hbc)
      clear Hb HX HY HV HA HB HC
      go_wp2_with fail
      refine (gcdI _ _ _ _ _ _ _ _ _ _ _ 24 8 500000 A_1.out B_1.out (by decide) (by decide) (by decide)).mono ?_
      rintro e y2 ⟨gg, cgg, Ngg, Fgg, egg, rfl, hgg, ggg, hbc⟩
      dsimp only
      have b_2 := Lib.hid (b_1.out.trans (hbc.mono b_1.out.size))
      have A_2 := Lib.hid (A_1.out.below hbc)
      have B_2 := Lib.hid (B_1.out.below hbc)
      have C_2 := Lib.hid (C_1.out.below hbc)
      clear b_1 A_1 B_1 C_1
      have gg_2 := Lib.hid (hgg)
      have Ggg := Lib.hid ggg
      clear ggg hgg
      go_wp2_with fail
      refine (degF _ _ _ _ _ _ 24 8 N F iA.out A_2.out (by decide)).mono ?_
      rintro e y3 ⟨rfl, hbc⟩
      dsimp only
      have b_3 := Lib.hid (b_2.out.trans (hbc.mono b_2.out.size))
      have A_3 := Lib.hid (A_2.out.below hbc)
      have B_3 := Lib.hid (B_2.out.below hbc)
      have C_3 := Lib.hid (C_2.out.below hbc)
      have gg_3 := Lib.hid (gg_2.out.below hbc)
      clear b_2 A_2 B_2 C_2 gg_2
      obtain ⟨ja, hja⟩ : ∃ j : Int, (N : Int) - 1 = j := ⟨_, rfl⟩
      rw [hja]
      rcases Nat.eq_zero_or_pos N with h0 | h0
      · have t1 : ja < 0 := by omega
        have hM0 : 0 < M := by omega
        clear hja h0 h00
        go_wp2_with fail
        refine (degF _ _ _ _ _ _ 24 8 M G iB.out B_3.out (by decide)).mono ?_
        rintro e y4 ⟨rfl, hbc⟩
        dsimp only
        have b_4 := Lib.hid (b_3.out.trans (hbc.mono b_3.out.size))
        have A_4 := Lib.hid (A_3.out.below hbc)
        have B_4 := Lib.hid (B_3.out.below hbc)
        have C_4 := Lib.hid (C_3.out.below hbc)
        have gg_4 := Lib.hid (gg_3.out.below hbc)
        clear b_3 A_3 B_3 C_3 gg_3
        obtain ⟨jb, hjb⟩ : ∃ j : Int, (M : Int) - 1 = j := ⟨_, rfl⟩
        rw [hjb]
        have t2 : ¬ jb < 0 := by omega
        clear hjb hM0
        go_wp2_with fail
        refine (divI _ _ _ _ _ _ _ _ _ _ _ _ _ _ _ 500000 8 8 (A_4.out.up (by decide) (by decide)) (gg_4.out.pi (by decide)) iA.out gg_4.out.isp (Ggg.out.prim H0.out).pos (by decide) (by decide) (by decide)).mono ?_
        rintro e y5 ⟨dx, cx, dx', cx', NQx, FQx, NRx, FRx, eqx, erx, rfl, hdx, hrx, hex, hltx, hbc⟩
        dsimp only
        have b_5 := Lib.hid (b_4.out.trans (hbc.mono b_4.out.size))
        have A_5 := Lib.hid (A_4.out.below hbc)
        have B_5 := Lib.hid (B_4.out.below hbc)
        have C_5 := Lib.hid (C_4.out.below hbc)
        have gg_5 := Lib.hid (gg_4.out.below hbc)
        clear b_4 A_4 B_4 C_4 gg_4
        obtain rfl : NRx = 0 := dv_none (Ggg.out.cd H0.out).left gg_5.out.isp hrx.isp hdx.isp.pf hex hltx
        clear hex hltx hdx hrx
        go_wp2_with fail
        refine (divI _ _ _ _ _ _ _ _ _ _ _ _ _ _ _ 500000 8 8 (B_5.out.up (by decide) (by decide)) (gg_5.out.pi (by decide)) iB.out gg_5.out.isp (Ggg.out.prim H0.out).pos (by decide) (by decide) (by decide)).mono ?_
        rintro e y6 ⟨dy, cy, dy', cy', NQy, FQy, NRy, FRy, eqy, ery, rfl, hdy, hry, hey, hlty, hbc⟩
        dsimp only
        have b_6 := Lib.hid (b_5.out.trans (hbc.mono b_5.out.size))
        have A_6 := Lib.hid (A_5.out.below hbc)
        have B_6 := Lib.hid (B_5.out.below hbc)
        have C_6 := Lib.hid (C_5.out.below hbc)
        have gg_6 := Lib.hid (gg_5.out.below hbc)
        clear b_5 A_5 B_5 C_5 gg_5
        obtain rfl : NRy = 0 := dv_none (Ggg.out.cd H0.out).right gg_6.out.isp hry.isp hdy.isp.pf hey hlty
        clear hey hlty hdy hry
        go_wp2_with fail
        refine (gcdI _ _ _ _ _ _ _ _ _ _ _ 24 8 500000 B_6.out A_6.out (by decide) (by decide) (by decide)).mono ?_
        rintro e y7 ⟨bk, cbk, Nbk, Fbk, ebk, rfl, hbk, gbk, hbc⟩
        dsimp only
        have b_7 := Lib.hid (b_6.out.trans (hbc.mono b_6.out.size))
        have A_7 := Lib.hid (A_6.out.below hbc)
        have B_7 := Lib.hid (B_6.out.below hbc)
        have C_7 := Lib.hid (C_6.out.below hbc)
        have gg_7 := Lib.hid (gg_6.out.below hbc)
        clear b_6 A_6 B_6 C_6 gg_6
        have bk_7 := Lib.hid (hbk)
        have Gbk := Lib.hid gbk
        clear gbk hbk
        go_wp2_with fail
        refine (primI _ _ _ _ _ _ 500000 8 gg_7.out (Ggg.out.prim H0.out) (by decide) (by decide)).mono ?_
        rintro e y8 ⟨rfl, hbc⟩
        dsimp only
        have b_8 := Lib.hid (b_7.out.trans (hbc.mono b_7.out.size))
        have A_8 := Lib.hid (A_7.out.below hbc)
        have B_8 := Lib.hid (B_7.out.below hbc)
        have C_8 := Lib.hid (C_7.out.below hbc)
        have gg_8 := Lib.hid (gg_7.out.below hbc)
        have bk_8 := Lib.hid (bk_7.out.below hbc)
        clear b_7 A_7 B_7 C_7 gg_7 bk_7
        go_wp2_with fail
        refine (sameI _ _ _ _ _ _ _ _ _ _ _ _ _ _ gg_8.out (bk_8.out.congr ((Gbk.out.cd H1.out).swap.unique (Ggg.out.cd H0.out) bk_8.out.isp gg_8.out.isp (Gbk.out.prim H1.out) (Ggg.out.prim H0.out))) (by decide)).mono ?_
        rintro e y9 ⟨rfl, hbc⟩
        dsimp only
        have b_9 := Lib.hid (b_8.out.trans (hbc.mono b_8.out.size))
        have A_9 := Lib.hid (A_8.out.below hbc)
        have B_9 := Lib.hid (B_8.out.below hbc)
        have C_9 := Lib.hid (C_8.out.below hbc)
        have gg_9 := Lib.hid (gg_8.out.below hbc)
        clear b_8 A_8 B_8 C_8 gg_8 bk_8
        go_wp2_with fail
        refine (degF _ _ _ _ _ _ 24 8 K C iC.out C_9.out (by decide)).mono ?_
        rintro e y10 ⟨rfl, hbc⟩
        dsimp only
        have b_10 := Lib.hid (b_9.out.trans (hbc.mono b_9.out.size))
        have A_10 := Lib.hid (A_9.out.below hbc)
        have B_10 := Lib.hid (B_9.out.below hbc)
        have C_10 := Lib.hid (C_9.out.below hbc)
        have gg_10 := Lib.hid (gg_9.out.below hbc)
        clear b_9 A_9 B_9 C_9 gg_9
        obtain ⟨jc, hjc⟩ : ∃ j : Int, (K : Int) - 1 = j := ⟨_, rfl⟩
        rw [hjc]
        clear Gbk
        rcases Nat.eq_zero_or_pos K with k0 | k0
        · have t3 : jc < 0 := by omega
          clear hjc k0
          go_wp2_with fail
          refine (HAw.out _).mono ?_
          rintro e y11 ⟨rfl, hbc⟩
          dsimp only
          have b_11 := Lib.hid (b_10.out.trans (hbc.mono b_10.out.size))
          have A_11 := Lib.hid (A_10.out.below hbc)
          have B_11 := Lib.hid (B_10.out.below hbc)
          have C_11 := Lib.hid (C_10.out.below hbc)
          have gg_11 := Lib.hid (gg_10.out.below hbc)
          clear b_10 A_10 B_10 C_10 gg_10
          go_wp2_with fail
          go_ret
          exact ⟨rfl, b_11.out⟩
        · have t3 : ¬ jc < 0 := by omega
          have HK := Lib.hid k0
          clear hjc k0
          by_cases k1 : 4 < n
          · have t4 : (4 : Int) < (n : Int) := by omega
            clear k1
            go_wp2_with fail
            refine (HAw.out _).mono ?_
            rintro e y11 ⟨rfl, hbc⟩
            dsimp only
            have b_11 := Lib.hid (b_10.out.trans (hbc.mono b_10.out.size))
            have A_11 := Lib.hid (A_10.out.below hbc)
            have B_11 := Lib.hid (B_10.out.below hbc)
            have C_11 := Lib.hid (C_10.out.below hbc)
            have gg_11 := Lib.hid (gg_10.out.below hbc)
            clear b_10 A_10 B_10 C_10 gg_10
            go_wp2_with fail
            go_ret
            exact ⟨rfl, b_11.out⟩
          · have t4 : ¬ (4 : Int) < (n : Int) := by omega
            have Hk1 := Lib.hid k1
            clear k1
            by_cases k2 : 4 < m
            · have t5 : (4 : Int) < (m : Int) := by omega
              clear k2
              go_wp2_with fail
              refine (HAw.out _).mono ?_
              rintro e y11 ⟨rfl, hbc⟩
              dsimp only
              have b_11 := Lib.hid (b_10.out.trans (hbc.mono b_10.out.size))
              have A_11 := Lib.hid (A_10.out.below hbc)
              have B_11 := Lib.hid (B_10.out.below hbc)
              have C_11 := Lib.hid (C_10.out.below hbc)
              have gg_11 := Lib.hid (gg_10.out.below hbc)
              clear b_10 A_10 B_10 C_10 gg_10
              go_wp2_with fail
              go_ret
              exact ⟨rfl, b_11.out⟩
            · have t5 : ¬ (4 : Int) < (m : Int) := by omega
              have Hk2 := Lib.hid k2
              clear k2
              by_cases k3 : 4 < l
              · have t6 : (4 : Int) < (l : Int) := by omega
                clear k3
                go_wp2_with fail
                refine (HAw.out _).mono ?_
                rintro e y11 ⟨rfl, hbc⟩
                dsimp only
                have b_11 := Lib.hid (b_10.out.trans (hbc.mono b_10.out.size))
                have A_11 := Lib.hid (A_10.out.below hbc)
                have B_11 := Lib.hid (B_10.out.below hbc)
                have C_11 := Lib.hid (C_10.out.below hbc)
                have gg_11 := Lib.hid (gg_10.out.below hbc)
                clear b_10 A_10 B_10 C_10 gg_10
                go_wp2_with fail
                go_ret
                exact ⟨rfl, b_11.out⟩
              · have t6 : ¬ (4 : Int) < (l : Int) := by omega
                have Hk3 := Lib.hid k3
                clear k3
                go_wp2_with fail
                refine (mulI _ _ _ _ _ _ _ _ _ _ _ 24 24 4 4 (A_10.out.cut (show n ≤ 4 from Nat.le_of_not_lt Hk1.out)) (C_10.out.cut (show l ≤ 4 from Nat.le_of_not_lt Hk3.out)) (by decide) (by decide) (by decide)).mono ?_
                rintro e y11 ⟨xx, cxx, Nxx, Fxx, rfl, hxx, hbc⟩
                dsimp only
                have b_11 := Lib.hid (b_10.out.trans (hbc.mono b_10.out.size))
                have A_11 := Lib.hid (A_10.out.below hbc)
                have B_11 := Lib.hid (B_10.out.below hbc)
                have C_11 := Lib.hid (C_10.out.below hbc)
                have gg_11 := Lib.hid (gg_10.out.below hbc)
                clear b_10 A_10 B_10 C_10 gg_10
                have xx_11 := Lib.hid (hxx)
                go_wp2_with fail
                refine (mulI _ _ _ _ _ _ _ _ _ _ _ 24 24 4 4 (B_11.out.cut (show m ≤ 4 from Nat.le_of_not_lt Hk2.out)) (C_11.out.cut (show l ≤ 4 from Nat.le_of_not_lt Hk3.out)) (by decide) (by decide) (by decide)).mono ?_
                rintro e y12 ⟨yy, cyy, Nyy, Fyy, rfl, hyy, hbc⟩
                dsimp only
                have b_12 := Lib.hid (b_11.out.trans (hbc.mono b_11.out.size))
                have A_12 := Lib.hid (A_11.out.below hbc)
                have B_12 := Lib.hid (B_11.out.below hbc)
                have C_12 := Lib.hid (C_11.out.below hbc)
                have gg_12 := Lib.hid (gg_11.out.below hbc)
                have xx_12 := Lib.hid (xx_11.out.below hbc)
                clear b_11 A_11 B_11 C_11 gg_11 xx_11
                have yy_12 := Lib.hid (hyy)
                go_wp2_with fail
                refine (gcdI _ _ _ _ _ _ _ _ _ _ _ 52 8 1100000 (xx_12.out.pi (by decide)) (yy_12.out.pi (by decide)) (by decide) (by decide) (by decide)).mono ?_
                rintro e y13 ⟨mo, cmo, Nmo, Fmo, emo, rfl, hmo, gmo, hbc⟩
                dsimp only
                have b_13 := Lib.hid (b_12.out.trans (hbc.mono b_12.out.size))
                have A_13 := Lib.hid (A_12.out.below hbc)
                have B_13 := Lib.hid (B_12.out.below hbc)
                have C_13 := Lib.hid (C_12.out.below hbc)
                have gg_13 := Lib.hid (gg_12.out.below hbc)
                clear b_12 A_12 B_12 C_12 gg_12 xx_12 yy_12
                have mo_13 := Lib.hid (hmo)
                have Gmo := Lib.hid gmo
                clear gmo hmo
                go_wp2_with fail
                refine (gcdI _ _ _ _ _ _ _ _ _ _ _ 24 8 500000 C_13.out (PI.nil _ none 24 8) (by decide) (by decide) (by decide)).mono ?_
                rintro e y14 ⟨ow, cow, Now, Fow, eow, rfl, how, gow, hbc⟩
                dsimp only
                have b_14 := Lib.hid (b_13.out.trans (hbc.mono b_13.out.size))
                have A_14 := Lib.hid (A_13.out.below hbc)
                have B_14 := Lib.hid (B_13.out.below hbc)
                have C_14 := Lib.hid (C_13.out.below hbc)
                have gg_14 := Lib.hid (gg_13.out.below hbc)
                have mo_14 := Lib.hid (mo_13.out.below hbc)
                clear b_13 A_13 B_13 C_13 gg_13 mo_13
                have ow_14 := Lib.hid (how)
                have Gow := Lib.hid gow
                clear gow how
                go_wp2_with fail
                refine (mulI _ _ _ _ _ _ _ _ _ _ _ 500000 500000 8 8 (gg_14.out.pi (by decide)) (ow_14.out.pi (by decide)) (by decide) (by decide) (by decide)).mono ?_
                rintro e y15 ⟨wa, cwa, Nwa, Fwa, rfl, hwa, hbc⟩
                dsimp only
                have b_15 := Lib.hid (b_14.out.trans (hbc.mono b_14.out.size))
                have A_15 := Lib.hid (A_14.out.below hbc)
                have B_15 := Lib.hid (B_14.out.below hbc)
                have C_15 := Lib.hid (C_14.out.below hbc)
                have gg_15 := Lib.hid (gg_14.out.below hbc)
                have mo_15 := Lib.hid (mo_14.out.below hbc)
                have ow_15 := Lib.hid (ow_14.out.below hbc)
                clear b_14 A_14 B_14 C_14 gg_14 mo_14 ow_14
                have wa_15 := Lib.hid (hwa)
                go_wp2_with fail
                refine (sameI _ _ _ _ _ _ _ _ _ _ _ _ _ _ mo_15.out (wa_15.out.congr fun x => (bcom Ggg.out H0.out gg_15.out.isp iA.out.pf iB.out.pf iC.out HK.out Gow.out ow_15.out.isp Gmo.out mo_15.out.isp wa_15.out.isp x).symm) (by decide)).mono ?_
                rintro e y16 ⟨rfl, hbc⟩
                dsimp only
                have b_16 := Lib.hid (b_15.out.trans (hbc.mono b_15.out.size))
                have A_16 := Lib.hid (A_15.out.below hbc)
                have B_16 := Lib.hid (B_15.out.below hbc)
                have C_16 := Lib.hid (C_15.out.below hbc)
                have gg_16 := Lib.hid (gg_15.out.below hbc)
                have ow_16 := Lib.hid (ow_15.out.below hbc)
                clear b_15 A_15 B_15 C_15 gg_15 mo_15 ow_15 wa_15
                go_wp2_with fail
                refine (HAw.out _).mono ?_
                rintro e y17 ⟨rfl, hbc⟩
                dsimp only
                have b_17 := Lib.hid (b_16.out.trans (hbc.mono b_16.out.size))
                have A_17 := Lib.hid (A_16.out.below hbc)
                have B_17 := Lib.hid (B_16.out.below hbc)
                have C_17 := Lib.hid (C_16.out.below hbc)
                have gg_17 := Lib.hid (gg_16.out.below hbc)
                have ow_17 := Lib.hid (ow_16.out.below hbc)
                clear b_16 A_16 B_16 C_16 gg_16 ow_16
                go_wp2_with fail
                go_ret
                exact ⟨rfl, b_17.out⟩
      · have t1 : ¬ ja < 0 := by omega
        clear hja h0 h00
        go_wp2_with fail
        refine (divI _ _ _ _ _ _ _ _ _ _ _ _ _ _ _ 500000 8 8 (A_3.out.up (by decide) (by decide)) (gg_3.out.pi (by decide)) iA.out gg_3.out.isp (Ggg.out.prim H0.out).pos (by decide) (by decide) (by decide)).mono ?_
        rintro e y4 ⟨dx, cx, dx', cx', NQx, FQx, NRx, FRx, eqx, erx, rfl, hdx, hrx, hex, hltx, hbc⟩
        dsimp only
        have b_4 := Lib.hid (b_3.out.trans (hbc.mono b_3.out.size))
        have A_4 := Lib.hid (A_3.out.below hbc)
        have B_4 := Lib.hid (B_3.out.below hbc)
        have C_4 := Lib.hid (C_3.out.below hbc)
        have gg_4 := Lib.hid (gg_3.out.below hbc)
        clear b_3 A_3 B_3 C_3 gg_3
        obtain rfl : NRx = 0 := dv_none (Ggg.out.cd H0.out).left gg_4.out.isp hrx.isp hdx.isp.pf hex hltx
        clear hex hltx hdx hrx
        go_wp2_with fail
        refine (divI _ _ _ _ _ _ _ _ _ _ _ _ _ _ _ 500000 8 8 (B_4.out.up (by decide) (by decide)) (gg_4.out.pi (by decide)) iB.out gg_4.out.isp (Ggg.out.prim H0.out).pos (by decide) (by decide) (by decide)).mono ?_
        rintro e y5 ⟨dy, cy, dy', cy', NQy, FQy, NRy, FRy, eqy, ery, rfl, hdy, hry, hey, hlty, hbc⟩
        dsimp only
        have b_5 := Lib.hid (b_4.out.trans (hbc.mono b_4.out.size))
        have A_5 := Lib.hid (A_4.out.below hbc)
        have B_5 := Lib.hid (B_4.out.below hbc)
        have C_5 := Lib.hid (C_4.out.below hbc)
        have gg_5 := Lib.hid (gg_4.out.below hbc)
        clear b_4 A_4 B_4 C_4 gg_4
        obtain rfl : NRy = 0 := dv_none (Ggg.out.cd H0.out).right gg_5.out.isp hry.isp hdy.isp.pf hey hlty
        clear hey hlty hdy hry
        go_wp2_with fail
        refine (gcdI _ _ _ _ _ _ _ _ _ _ _ 24 8 500000 B_5.out A_5.out (by decide) (by decide) (by decide)).mono ?_
        rintro e y6 ⟨bk, cbk, Nbk, Fbk, ebk, rfl, hbk, gbk, hbc⟩
        dsimp only
        have b_6 := Lib.hid (b_5.out.trans (hbc.mono b_5.out.size))
        have A_6 := Lib.hid (A_5.out.below hbc)
        have B_6 := Lib.hid (B_5.out.below hbc)
        have C_6 := Lib.hid (C_5.out.below hbc)
        have gg_6 := Lib.hid (gg_5.out.below hbc)
        clear b_5 A_5 B_5 C_5 gg_5
        have bk_6 := Lib.hid (hbk)
        have Gbk := Lib.hid gbk
        clear gbk hbk
        go_wp2_with fail
        refine (primI _ _ _ _ _ _ 500000 8 gg_6.out (Ggg.out.prim H0.out) (by decide) (by decide)).mono ?_
        rintro e y7 ⟨rfl, hbc⟩
        dsimp only
        have b_7 := Lib.hid (b_6.out.trans (hbc.mono b_6.out.size))
        have A_7 := Lib.hid (A_6.out.below hbc)
        have B_7 := Lib.hid (B_6.out.below hbc)
        have C_7 := Lib.hid (C_6.out.below hbc)
        have gg_7 := Lib.hid (gg_6.out.below hbc)
        have bk_7 := Lib.hid (bk_6.out.below hbc)
        clear b_6 A_6 B_6 C_6 gg_6 bk_6
        go_wp2_with fail
        refine (sameI _ _ _ _ _ _ _ _ _ _ _ _ _ _ gg_7.out (bk_7.out.congr ((Gbk.out.cd H1.out).swap.unique (Ggg.out.cd H0.out) bk_7.out.isp gg_7.out.isp (Gbk.out.prim H1.out) (Ggg.out.prim H0.out))) (by decide)).mono ?_
        rintro e y8 ⟨rfl, hbc⟩
        dsimp only
        have b_8 := Lib.hid (b_7.out.trans (hbc.mono b_7.out.size))
        have A_8 := Lib.hid (A_7.out.below hbc)
        have B_8 := Lib.hid (B_7.out.below hbc)
        have C_8 := Lib.hid (C_7.out.below hbc)
        have gg_8 := Lib.hid (gg_7.out.below hbc)
        clear b_7 A_7 B_7 C_7 gg_7 bk_7
        go_wp2_with fail
        refine (degF _ _ _ _ _ _ 24 8 K C iC.out C_8.out (by decide)).mono ?_
        rintro e y9 ⟨rfl, hbc⟩
        dsimp only
        have b_9 := Lib.hid (b_8.out.trans (hbc.mono b_8.out.size))
        have A_9 := Lib.hid (A_8.out.below hbc)
        have B_9 := Lib.hid (B_8.out.below hbc)
        have C_9 := Lib.hid (C_8.out.below hbc)
        have gg_9 := Lib.hid (gg_8.out.below hbc)
        clear b_8 A_8 B_8 C_8 gg_8
        obtain ⟨jc, hjc⟩ : ∃ j : Int, (K : Int) - 1 = j := ⟨_, rfl⟩
        rw [hjc]
        clear Gbk
        rcases Nat.eq_zero_or_pos K with k0 | k0
        · have t3 : jc < 0 := by omega
          clear hjc k0
          go_wp2_with fail
          refine (HAw.out _).mono ?_
          rintro e y10 ⟨rfl, hbc⟩
          dsimp only
          have b_10 := Lib.hid (b_9.out.trans (hbc.mono b_9.out.size))
          have A_10 := Lib.hid (A_9.out.below hbc)
          have B_10 := Lib.hid (B_9.out.below hbc)
          have C_10 := Lib.hid (C_9.out.below hbc)
          have gg_10 := Lib.hid (gg_9.out.below hbc)
          clear b_9 A_9 B_9 C_9 gg_9
          go_wp2_with fail
          go_ret
          exact ⟨rfl, b_10.out⟩
        · have t3 : ¬ jc < 0 := by omega
          have HK := Lib.hid k0
          clear hjc k0
          by_cases k1 : 4 < n
          · have t4 : (4 : Int) < (n : Int) := by omega
            clear k1
            go_wp2_with fail
            refine (HAw.out _).mono ?_
            rintro e y10 ⟨rfl, hbc⟩
            dsimp only
            have b_10 := Lib.hid (b_9.out.trans (hbc.mono b_9.out.size))
            have A_10 := Lib.hid (A_9.out.below hbc)
            have B_10 := Lib.hid (B_9.out.below hbc)
            have C_10 := Lib.hid (C_9.out.below hbc)
            have gg_10 := Lib.hid (gg_9.out.below hbc)
            clear b_9 A_9 B_9 C_9 gg_9
            go_wp2_with fail
            go_ret
            exact ⟨rfl, b_10.out⟩
          · have t4 : ¬ (4 : Int) < (n : Int) := by omega
            have Hk1 := Lib.hid k1
            clear k1
            by_cases k2 : 4 < m
            · have t5 : (4 : Int) < (m : Int) := by omega
              clear k2
              go_wp2_with fail
              refine (HAw.out _).mono ?_
              rintro e y10 ⟨rfl, hbc⟩
              dsimp only
              have b_10 := Lib.hid (b_9.out.trans (hbc.mono b_9.out.size))
              have A_10 := Lib.hid (A_9.out.below hbc)
              have B_10 := Lib.hid (B_9.out.below hbc)
              have C_10 := Lib.hid (C_9.out.below hbc)
              have gg_10 := Lib.hid (gg_9.out.below hbc)
              clear b_9 A_9 B_9 C_9 gg_9
              go_wp2_with fail
              go_ret
              exact ⟨rfl, b_10.out⟩
            · have t5 : ¬ (4 : Int) < (m : Int) := by omega
              have Hk2 := Lib.hid k2
              clear k2
              by_cases k3 : 4 < l
              · have t6 : (4 : Int) < (l : Int) := by omega
                clear k3
                go_wp2_with fail
                refine (HAw.out _).mono ?_
                rintro e y10 ⟨rfl, hbc⟩
                dsimp only
                have b_10 := Lib.hid (b_9.out.trans (hbc.mono b_9.out.size))
                have A_10 := Lib.hid (A_9.out.below hbc)
                have B_10 := Lib.hid (B_9.out.below hbc)
                have C_10 := Lib.hid (C_9.out.below hbc)
                have gg_10 := Lib.hid (gg_9.out.below hbc)
                clear b_9 A_9 B_9 C_9 gg_9
                go_wp2_with fail
                go_ret
                exact ⟨rfl, b_10.out⟩
              · have t6 : ¬ (4 : Int) < (l : Int) := by omega
                have Hk3 := Lib.hid k3
                clear k3
                go_wp2_with fail
                refine (mulI _ _ _ _ _ _ _ _ _ _ _ 24 24 4 4 (A_9.out.cut (show n ≤ 4 from Nat.le_of_not_lt Hk1.out)) (C_9.out.cut (show l ≤ 4 from Nat.le_of_not_lt Hk3.out)) (by decide) (by decide) (by decide)).mono ?_
                rintro e y10 ⟨xx, cxx, Nxx, Fxx, rfl, hxx, hbc⟩
                dsimp only
                have b_10 := Lib.hid (b_9.out.trans (hbc.mono b_9.out.size))
                have A_10 := Lib.hid (A_9.out.below hbc)
                have B_10 := Lib.hid (B_9.out.below hbc)
                have C_10 := Lib.hid (C_9.out.below hbc)
                have gg_10 := Lib.hid (gg_9.out.below hbc)
                clear b_9 A_9 B_9 C_9 gg_9
                have xx_10 := Lib.hid (hxx)
                go_wp2_with fail
                refine (mulI _ _ _ _ _ _ _ _ _ _ _ 24 24 4 4 (B_10.out.cut (show m ≤ 4 from Nat.le_of_not_lt Hk2.out)) (C_10.out.cut (show l ≤ 4 from Nat.le_of_not_lt Hk3.out)) (by decide) (by decide) (by decide)).mono ?_
                rintro e y11 ⟨yy, cyy, Nyy, Fyy, rfl, hyy, hbc⟩
                dsimp only
                have b_11 := Lib.hid (b_10.out.trans (hbc.mono b_10.out.size))
                have A_11 := Lib.hid (A_10.out.below hbc)
                have B_11 := Lib.hid (B_10.out.below hbc)
                have C_11 := Lib.hid (C_10.out.below hbc)
                have gg_11 := Lib.hid (gg_10.out.below hbc)
                have xx_11 := Lib.hid (xx_10.out.below hbc)
                clear b_10 A_10 B_10 C_10 gg_10 xx_10
                have yy_11 := Lib.hid (hyy)
                go_wp2_with fail
                refine (gcdI _ _ _ _ _ _ _ _ _ _ _ 52 8 1100000 (xx_11.out.pi (by decide)) (yy_11.out.pi (by decide)) (by decide) (by decide) (by decide)).mono ?_
                rintro e y12 ⟨mo, cmo, Nmo, Fmo, emo, rfl, hmo, gmo, hbc⟩
                dsimp only
                have b_12 := Lib.hid (b_11.out.trans (hbc.mono b_11.out.size))
                have A_12 := Lib.hid (A_11.out.below hbc)
                have B_12 := Lib.hid (B_11.out.below hbc)
                have C_12 := Lib.hid (C_11.out.below hbc)
                have gg_12 := Lib.hid (gg_11.out.below hbc)
                clear b_11 A_11 B_11 C_11 gg_11 xx_11 yy_11
                have mo_12 := Lib.hid (hmo)
                have Gmo := Lib.hid gmo
                clear gmo hmo
                go_wp2_with fail
                refine (gcdI _ _ _ _ _ _ _ _ _ _ _ 24 8 500000 C_12.out (PI.nil _ none 24 8) (by decide) (by decide) (by decide)).mono ?_
                rintro e y13 ⟨ow, cow, Now, Fow, eow, rfl, how, gow, hbc⟩
                dsimp only
                have b_13 := Lib.hid (b_12.out.trans (hbc.mono b_12.out.size))
                have A_13 := Lib.hid (A_12.out.below hbc)
                have B_13 := Lib.hid (B_12.out.below hbc)
                have C_13 := Lib.hid (C_12.out.below hbc)
                have gg_13 := Lib.hid (gg_12.out.below hbc)
                have mo_13 := Lib.hid (mo_12.out.below hbc)
                clear b_12 A_12 B_12 C_12 gg_12 mo_12
                have ow_13 := Lib.hid (how)
                have Gow := Lib.hid gow
                clear gow how
                go_wp2_with fail
                refine (mulI _ _ _ _ _ _ _ _ _ _ _ 500000 500000 8 8 (gg_13.out.pi (by decide)) (ow_13.out.pi (by decide)) (by decide) (by decide) (by decide)).mono ?_
                rintro e y14 ⟨wa, cwa, Nwa, Fwa, rfl, hwa, hbc⟩
                dsimp only
                have b_14 := Lib.hid (b_13.out.trans (hbc.mono b_13.out.size))
                have A_14 := Lib.hid (A_13.out.below hbc)
                have B_14 := Lib.hid (B_13.out.below hbc)
                have C_14 := Lib.hid (C_13.out.below hbc)
                have gg_14 := Lib.hid (gg_13.out.below hbc)
                have mo_14 := Lib.hid (mo_13.out.below hbc)
                have ow_14 := Lib.hid (ow_13.out.below hbc)
                clear b_13 A_13 B_13 C_13 gg_13 mo_13 ow_13
                have wa_14 := Lib.hid (hwa)
                go_wp2_with fail
                refine (sameI _ _ _ _ _ _ _ _ _ _ _ _ _ _ mo_14.out (wa_14.out.congr fun x => (bcom Ggg.out H0.out gg_14.out.isp iA.out.pf iB.out.pf iC.out HK.out Gow.out ow_14.out.isp Gmo.out mo_14.out.isp wa_14.out.isp x).symm) (by decide)).mono ?_
                rintro e y15 ⟨rfl, hbc⟩
                dsimp only
                have b_15 := Lib.hid (b_14.out.trans (hbc.mono b_14.out.size))
                have A_15 := Lib.hid (A_14.out.below hbc)
                have B_15 := Lib.hid (B_14.out.below hbc)
                have C_15 := Lib.hid (C_14.out.below hbc)
                have gg_15 := Lib.hid (gg_14.out.below hbc)
                have ow_15 := Lib.hid (ow_14.out.below hbc)
                clear b_14 A_14 B_14 C_14 gg_14 mo_14 ow_14 wa_14
                go_wp2_with fail
                refine (HAw.out _).mono ?_
                rintro e y16 ⟨rfl, hbc⟩
                dsimp only
                have b_16 := Lib.hid (b_15.out.trans (hbc.mono b_15.out.size))
                have A_16 := Lib.hid (A_15.out.below hbc)
                have B_16 := Lib.hid (B_15.out.below hbc)
                have C_16 := Lib.hid (C_15.out.below hbc)
                have gg_16 := Lib.hid (gg_15.out.below hbc)
                have ow_16 := Lib.hid (ow_15.out.below hbc)
                clear b_15 A_15 B_15 C_15 gg_15 ow_15
                go_wp2_with fail
                go_ret
                exact ⟨rfl, b_16.out⟩
end Go.Proofs.YteoemijgdcpopaaDoor
