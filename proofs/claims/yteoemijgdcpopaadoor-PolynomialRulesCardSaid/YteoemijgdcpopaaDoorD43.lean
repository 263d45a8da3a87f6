/- PolynomialDivides: the walk. -/
import Derived.Test.YteoemijgdcpopaaDoorD42
import Derived.Test.YteoemijgdcpopaaDoorD40
namespace Go.Proofs.YteoemijgdcpopaaDoor
open Go.RowKit Go.Shelf
theorem degF (w : World) (p : Option Addr) (n c : Nat) (Z : Nat → ZI) (e : Int → Int) (B L : Nat) (N : Nat) (F : Nat → Int) (hF : IsP N F e) (h : PI w p n Z e B L) (hL : L ≤ 1000) :
    Calls Tryd.prog 24 #[.slice p n c] w fun en w' => en = .returned (.int .i64 ((N : Int) - 1)) ∧ Below w.heap.size w w' := by
  refine (degI w p n c Z e B L h hL).mono ?_
  rintro en w' ⟨N', F', rfl, hi, _, hb⟩
  obtain ⟨rfl, _⟩ := hi.unique hF
  exact ⟨rfl, hb⟩
theorem ymax5c {P : Program} (ts : Array TypeId) (t : TypeId) (w : World) : (Builtin.max_ ts t #[.int .i64 0, .int .i64 0, .int .i64 0, .int .i64 0, .int .i64 0]).run P w = .ok (.int .i64 0) w := by rfl
theorem ymax0 {P : Program} (x : Int) (k : Nat) (hk : (k : Int) = if 0 < x then x else 0) (ts : Array TypeId) (t : TypeId) (w : World) : (Builtin.max_ ts t #[.int .i64 0, .int .i64 x]).run P w = .ok (.int .i64 (k : Int)) w := by
  have h : (Builtin.max_ ts t #[.int .i64 0, .int .i64 x]).run P w = .ok (.int .i64 (if x > 0 then x else 0)) w := rfl
  rw [h, hk]
/-- A constant polynomial that a function makes. -/
theorem PI.const {w : World} {p : Option Addr} {v : Int} {B : Nat} (h : RowF w p 1 (fun _ => v)) (hb : Bn v B) (hB : B < 800000000) : PI w p 1 (fun _ => canon v) (fun _ => v) B 1 :=
  ⟨h, Nat.le_refl _, fun _ _ => hb.size _ (by omega), fun _ => by rw [valZ_canon]; exact hb, fun x => by simp [ypol, dotN, valZ_canon]⟩
set_option maxRecDepth 100000 in
set_option maxHeartbeats 8000000 in
theorem lawDivides (p : Option Addr) (n c : Nat) (Z : Nat → ZI) (q : Option Addr) (m d : Nat) (Y : Nat → ZI) (w : World) (hX : GRow w p n Z) (hn : n ≤ maxLen) (_hz : ∀ k, k < n → (Z k).mag.size ≤ maxLen) (hY : GRow w q m Y) (hm : m ≤ maxLen) (_hy : ∀ k, k < m → (Y k).mag.size ≤ maxLen) :
    Calls Tryd.prog 7 #[.slice p n c, .slice q m d] w (RetB true w) := by
  have HX := Lib.hid hX
  have HY := Lib.hid hY
  have Hb : Hid (Below w.heap.size w w) := Lib.hid (Below.refl _ _)
  have HAw := Lib.hid (fun W => awake_any W)
  have HSm := Lib.hid (fun W h1 h2 => small2_any W p q n m c d Z Y h1 h2 hn hm)
  obtain ⟨sm, hsm⟩ : ∃ b, (!(gtP n Z || gtP m Y) && !(decide (8 < n) || decide (8 < m))) = b := ⟨_, rfl⟩
  rw [hsm] at HSm
  cases sm
  · clear hX hY hsm hn hm _hz _hy
    go_enter Tryd.func7, Tryd.ntmps7
    go_wp2_with fail
    refine (HSm.out _ HX.out HY.out).mono ?_
    rintro e y1 ⟨rfl, hbc⟩
    dsimp only
    have b_1 := Lib.hid (Hb.out.trans (hbc.mono Hb.out.size))
    clear Hb HX HY
    go_wp2_with fail
    refine (HAw.out _).mono ?_
    rintro e y2 ⟨rfl, hbc⟩
    dsimp only
    have b_2 := Lib.hid (b_1.out.trans (hbc.mono b_1.out.size))
    clear b_1
    go_wp2_with fail
    go_ret
    exact ⟨rfl, b_2.out⟩
  · obtain ⟨⟨n8, z3⟩, m8, y3⟩ := small2F hsm
    have hA := PI.of hX z3 n8
    have hB := PI.of hY y3 m8
    obtain ⟨ea, hea⟩ : ∃ e : Int → Int, (fun x => ypol (fun k => valZ (Z k)) n x) = e := ⟨_, rfl⟩
    obtain ⟨eb, heb⟩ : ∃ e : Int → Int, (fun x => ypol (fun k => valZ (Y k)) m x) = e := ⟨_, rfl⟩
    rw [hea] at hA
    rw [heb] at hB
    have iA0 := hA.deg
    have iB0 := hB.deg
    have hNn := dgN_le (fun k => valZ (zx Z n k)) n
    have hMm := dgN_le (fun k => valZ (zx Y m k)) m
    obtain ⟨N, hN⟩ : ∃ N, dgN (fun k => valZ (zx Z n k)) n = N := ⟨_, rfl⟩
    obtain ⟨M, hM⟩ : ∃ N, dgN (fun k => valZ (zx Y m k)) m = N := ⟨_, rfl⟩
    rw [hN] at iA0 hNn
    rw [hM] at iB0 hMm
    obtain ⟨F, hF⟩ : ∃ F : Nat → Int, ctN (fun k => valZ (zx Z n k)) N = F := ⟨_, rfl⟩
    obtain ⟨G, hG⟩ : ∃ F : Nat → Int, ctN (fun k => valZ (zx Y m k)) M = F := ⟨_, rfl⟩
    rw [hF] at iA0
    rw [hG] at iB0
    have iA := Lib.hid iA0
    have iB := Lib.hid iB0
    have HA := Lib.hid hA
    have HB := Lib.hid hB
    have hmax := @ymax5c Tryd.prog
    rcases Nat.eq_zero_or_pos M with h0 | h0
    · subst h0
      clear hX hY hsm hn hm _hz _hy n8 z3 m8 y3 hea heb iA0 iB0 hNn hMm hN hM hF hG hA hB
      go_enter Tryd.func7, Tryd.ntmps7
      go_wp2_with fail
      refine (HSm.out _ HX.out HY.out).mono ?_
      rintro e y1 ⟨rfl, hbc⟩
      dsimp only
      have b_1 := Lib.hid (Hb.out.trans (hbc.mono Hb.out.size))
      have A_1 := Lib.hid (HA.out.below hbc)
      have B_1 := Lib.hid (HB.out.below hbc)
      clear Hb HX HY HA HB
      go_wp2_with fail
      refine (div0I _ _ _ _ _ _ _ _ _ _ _ G 24 8 8 A_1.out B_1.out iB.out (by decide) (by decide) (by decide)).mono ?_
      rintro e y2 ⟨dq, cdq, dr, cdr, rfl, hbc⟩
      dsimp only
      have b_2 := Lib.hid (b_1.out.trans (hbc.mono b_1.out.size))
      have A_2 := Lib.hid (A_1.out.below hbc)
      have B_2 := Lib.hid (B_1.out.below hbc)
      clear b_1 A_1 B_1
      go_wp2_with fail
      refine (degF _ _ _ _ _ _ 24 8 N F iA.out A_2.out (by decide)).mono ?_
      rintro e y3 ⟨rfl, hbc⟩
      dsimp only
      have b_3 := Lib.hid (b_2.out.trans (hbc.mono b_2.out.size))
      have A_3 := Lib.hid (A_2.out.below hbc)
      have B_3 := Lib.hid (B_2.out.below hbc)
      clear b_2 A_2 B_2
      go_wp2_with fail
      refine (degF _ _ _ _ _ _ 24 8 0 G iB.out B_3.out (by decide)).mono ?_
      rintro e y4 ⟨rfl, hbc⟩
      dsimp only
      have b_4 := Lib.hid (b_3.out.trans (hbc.mono b_3.out.size))
      have A_4 := Lib.hid (A_3.out.below hbc)
      have B_4 := Lib.hid (B_3.out.below hbc)
      clear b_3 A_3 B_3
      obtain ⟨j, hj⟩ : ∃ j : Int, (N : Int) - 1 = j := ⟨_, rfl⟩
      rw [hj]
      clear hj
      go_wp2_with fail
      refine (HAw.out _).mono ?_
      rintro e y5 ⟨rfl, hbc⟩
      dsimp only
      have b_5 := Lib.hid (b_4.out.trans (hbc.mono b_4.out.size))
      have A_5 := Lib.hid (A_4.out.below hbc)
      have B_5 := Lib.hid (B_4.out.below hbc)
      clear b_4 A_4 B_4
      go_wp2_with fail
      go_ret
      exact ⟨rfl, b_5.out⟩
    · obtain ⟨m1, rfl⟩ : ∃ k, M = k + 1 := ⟨M - 1, by omega⟩
      have hm1 : m1 < m := by omega
      obtain ⟨z, hz⟩ : ∃ z, zx Y m m1 = z := ⟨_, rfl⟩
      have hGz : valZ z = G m1 := by rw [← hG, ← hz]; exact (if_pos (by omega)).symm
      have hzb : z.mag.size ≤ 3 := by rw [← hz]; unfold zx; rw [if_pos hm1]; exact y3 m1 hm1
      obtain ⟨k, hk⟩ : ∃ k, N + 1 - (m1 + 1) = k := ⟨_, rfl⟩
      have hvb : Bn (valZ z ^ k) 192 := by
        have := bn_pow (bn_three hzb) k
        exact this.up (by omega)
      have HPw := Lib.hid (fun W => power_any z k 24 (by omega) (by decide) (by omega) (bn_three hzb) W)
      have HPc := Lib.hid (fun (W : World) (r : Option Addr) (h : RowF W r 1 (fun _ => valZ z ^ k)) => PI.const h hvb (by decide))
      have Hcell : Hid (∀ W, PI W q m (zx Y m) eb 24 8 → ∃ b o, q = some ⟨b, o, none⟩ ∧ b < W.heap.size ∧ W.cell? ⟨b, o + m1 * 2, none⟩ = some (.bool z.neg) ∧ W.cell? ⟨b, o + m1 * 2 + 1, none⟩ = some (.string z.mag)) := Lib.hid (fun W hW => by
        obtain ⟨b, o, h1, h2, h3⟩ := GRow.cells hW.row hm1
        have := h3 m1 hm1
        rw [hz] at this
        exact ⟨b, o, h1, h2, this⟩)
      have Hgz := Lib.hid hGz
      have wc1 : IntKind.i64.wrap ((N : Int) - 1 - (m1 : Int)) = (N : Int) - 1 - (m1 : Int) := IntWalk.i64_in _ (by omega)
      have wc2 : IntKind.i64.wrap ((N : Int) - 1 - (m1 : Int) + 1) = (N : Int) - 1 - (m1 : Int) + 1 := IntWalk.i64_in _ (by omega)
      have hmx2 := fun ts t w => ymax0 (P := Tryd.prog) ((N : Int) - 1 - (m1 : Int) + 1) k (by split <;> omega) ts t w
      have q0 : ¬ (m1 : Int) < 0 := by omega
      have q1 : ¬ (m1 : Int) ≥ (m : Int) := by omega
      have q2 : (0 : Int) ≤ (m1 : Int) := by omega
      have q3 : (m1 : Int) < (m : Int) := by omega
      obtain ⟨j, hj⟩ : ∃ j : Int, (N : Int) - 1 = j := ⟨_, rfl⟩
      rw [hj] at wc1 wc2 hmx2
      have Hj := Lib.hid hj
      have Hk := Lib.hid hk
      have HN8 : Hid (N ≤ 8 ∧ m1 < 8) := Lib.hid (by omega)
      clear hX hY hsm hn hm _hz _hy n8 z3 m8 y3 hea heb iA0 iB0 hNn hMm hN hM hF hG hA hB hz hGz hzb hk hvb h0 hj
      go_enter Tryd.func7, Tryd.ntmps7
      go_wp2_with fail
      refine (HSm.out _ HX.out HY.out).mono ?_
      rintro e y1 ⟨rfl, hbc⟩
      dsimp only
      have b_1 := Lib.hid (Hb.out.trans (hbc.mono Hb.out.size))
      have A_1 := Lib.hid (HA.out.below hbc)
      have B_1 := Lib.hid (HB.out.below hbc)
      clear Hb HX HY HA HB
      go_wp2_with fail
      refine (divI _ _ _ _ _ _ _ _ _ _ _ N (m1 + 1) F G 24 8 8 A_1.out B_1.out iA.out iB.out (Nat.succ_pos _) (by decide) (by decide) (by decide)).mono ?_
      rintro e y2 ⟨dq, cdq, dr, cdr, NQ, FQ, NR, FR, eq, er, rfl, hdq, hdr, heq, hlt, hbc⟩
      dsimp only
      have b_2 := Lib.hid (b_1.out.trans (hbc.mono b_1.out.size))
      have A_2 := Lib.hid (A_1.out.below hbc)
      have B_2 := Lib.hid (B_1.out.below hbc)
      clear b_1 A_1 B_1
      have dq_2 := Lib.hid (hdq)
      have dr_2 := Lib.hid (hdr)
      have Heq := Lib.hid heq
      have Hlt := Lib.hid hlt
      clear heq hlt hdq hdr
      go_wp2_with fail
      refine (degF _ _ _ _ _ _ 24 8 N F iA.out A_2.out (by decide)).mono ?_
      rintro e y3 ⟨rfl, hbc⟩
      dsimp only
      have b_3 := Lib.hid (b_2.out.trans (hbc.mono b_2.out.size))
      have A_3 := Lib.hid (A_2.out.below hbc)
      have B_3 := Lib.hid (B_2.out.below hbc)
      have dq_3 := Lib.hid (dq_2.out.below hbc)
      have dr_3 := Lib.hid (dr_2.out.below hbc)
      clear b_2 A_2 B_2 dq_2 dr_2
      go_wp2_with fail
      refine (degF _ _ _ _ _ _ 24 8 (m1 + 1) G iB.out B_3.out (by decide)).mono ?_
      rintro e y4 ⟨rfl, hbc⟩
      dsimp only
      have b_4 := Lib.hid (b_3.out.trans (hbc.mono b_3.out.size))
      have A_4 := Lib.hid (A_3.out.below hbc)
      have B_4 := Lib.hid (B_3.out.below hbc)
      have dq_4 := Lib.hid (dq_3.out.below hbc)
      have dr_4 := Lib.hid (dr_3.out.below hbc)
      clear b_3 A_3 B_3 dq_3 dr_3
      rw [show ((m1 + 1 : Nat) : Int) - 1 = (m1 : Int) from by omega, Hj.out]
      obtain ⟨bb, bo, hqe, hbw, s0, s1⟩ := Hcell.out _ B_4.out
      subst hqe
      go_wp2_with fail
      refine (HPw.out _).mono ?_
      rintro e y5 ⟨pw, cpw, rfl, hpw, hbc⟩
      dsimp only
      have b_5 := Lib.hid (b_4.out.trans (hbc.mono b_4.out.size))
      have A_5 := Lib.hid (A_4.out.below hbc)
      have B_5 := Lib.hid (B_4.out.below hbc)
      have dq_5 := Lib.hid (dq_4.out.below hbc)
      have dr_5 := Lib.hid (dr_4.out.below hbc)
      clear b_4 A_4 B_4 dq_4 dr_4
      have pw_5 := Lib.hid (HPc.out _ _ hpw)
      clear s0 s1 hbw Hcell hpw wc1 wc2 hmx2
      go_wp2_with fail
      refine (mulI _ _ _ _ _ _ _ _ _ _ _ 192 24 1 8 pw_5.out A_5.out (by decide) (by decide) (by decide)).mono ?_
      rintro e y6 ⟨le, cle, Nle, Fle, rfl, hle, hbc⟩
      dsimp only
      have b_6 := Lib.hid (b_5.out.trans (hbc.mono b_5.out.size))
      have A_6 := Lib.hid (A_5.out.below hbc)
      have B_6 := Lib.hid (B_5.out.below hbc)
      have dq_6 := Lib.hid (dq_5.out.below hbc)
      have dr_6 := Lib.hid (dr_5.out.below hbc)
      clear b_5 A_5 B_5 dq_5 dr_5 pw_5
      have le_6 := Lib.hid (hle)
      go_wp2_with fail
      refine (mulI _ _ _ _ _ _ _ _ _ _ _ 1674 24 8 8 (dq_6.out.pi (by decide)) B_6.out (by decide) (by decide) (by decide)).mono ?_
      rintro e y7 ⟨bk, cbk, Nbk, Fbk, rfl, hbk, hbc⟩
      dsimp only
      have b_7 := Lib.hid (b_6.out.trans (hbc.mono b_6.out.size))
      have A_7 := Lib.hid (A_6.out.below hbc)
      have B_7 := Lib.hid (B_6.out.below hbc)
      have dr_7 := Lib.hid (dr_6.out.below hbc)
      have le_7 := Lib.hid (le_6.out.below hbc)
      clear b_6 A_6 B_6 dq_6 dr_6 le_6
      have bk_7 := Lib.hid (hbk)
      go_wp2_with fail
      refine (mulI _ _ _ _ _ _ _ _ _ _ _ 24 24 8 8 A_7.out B_7.out (by decide) (by decide) (by decide)).mono ?_
      rintro e y8 ⟨pr, cpr, Npr, Fpr, rfl, hpr, hbc⟩
      dsimp only
      have b_8 := Lib.hid (b_7.out.trans (hbc.mono b_7.out.size))
      have A_8 := Lib.hid (A_7.out.below hbc)
      have B_8 := Lib.hid (B_7.out.below hbc)
      have dr_8 := Lib.hid (dr_7.out.below hbc)
      have le_8 := Lib.hid (le_7.out.below hbc)
      have bk_8 := Lib.hid (bk_7.out.below hbc)
      clear b_7 A_7 B_7 dr_7 le_7 bk_7
      have pr_8 := Lib.hid (hpr)
      go_wp2_with fail
      refine (divI _ _ _ _ _ _ _ _ _ _ _ _ (m1 + 1) _ G 56 16 8 (pr_8.out.pi (by decide)) (B_8.out.up (by decide) (by decide)) pr_8.out.isp iB.out (Nat.succ_pos _) (by decide) (by decide) (by decide)).mono ?_
      rintro e y9 ⟨d2, cd2, d3, cd3, NQ2, FQ2, NR2, FR2, eq2, er2, rfl, hd2, hd3, heq2, hlt2, hbc⟩
      dsimp only
      have b_9 := Lib.hid (b_8.out.trans (hbc.mono b_8.out.size))
      have A_9 := Lib.hid (A_8.out.below hbc)
      have B_9 := Lib.hid (B_8.out.below hbc)
      have dr_9 := Lib.hid (dr_8.out.below hbc)
      have le_9 := Lib.hid (le_8.out.below hbc)
      have bk_9 := Lib.hid (bk_8.out.below hbc)
      have pr_9 := Lib.hid (pr_8.out.below hbc)
      clear b_8 A_8 B_8 dr_8 le_8 bk_8 pr_8
      obtain rfl : NR2 = 0 := by
        have ha := iA.out.pf
        have hb := iB.out
        refine hd3.isp.rest0 (l := 1) (s := fun x => G (m1 + 1 - 1) ^ (Npr + 1 - (m1 + 1)) * ea x - eq2 x) hb ((ha.smul _).sub hd2.isp.pf) (by decide) (fun x => ?_) hlt2
        have h3 := heq2 x
        rw [Int.one_mul, Int.sub_mul, Int.mul_assoc, h3]
        omega
      clear heq2 hlt2 hd2 hd3
      go_wp2_with fail
      refine (addI _ _ _ _ _ _ _ _ _ _ _ 1706 16 (bk_9.out.pi (by decide)) ((dr_9.out.pi (by decide)).up (by decide) (by decide)) (by decide) (by decide)).mono ?_
      rintro e y10 ⟨sm, csm, Nsm, Fsm, rfl, hsm, hbc⟩
      dsimp only
      have b_10 := Lib.hid (b_9.out.trans (hbc.mono b_9.out.size))
      have A_10 := Lib.hid (A_9.out.below hbc)
      have B_10 := Lib.hid (B_9.out.below hbc)
      have dr_10 := Lib.hid (dr_9.out.below hbc)
      have le_10 := Lib.hid (le_9.out.below hbc)
      have pr_10 := Lib.hid (pr_9.out.below hbc)
      clear b_9 A_9 B_9 dr_9 le_9 bk_9 pr_9
      have sm_10 := Lib.hid (hsm)
      go_wp2_with fail
      refine (sameI _ _ _ _ _ _ _ _ _ _ _ _ _ _ le_10.out (sm_10.out.congr fun x => by have h3 := Heq.out x; rw [Nat.add_sub_cancel, Hk.out, ← Hgz.out] at h3; exact h3.symm) (by decide)).mono ?_
      rintro e y11 ⟨rfl, hbc⟩
      dsimp only
      have b_11 := Lib.hid (b_10.out.trans (hbc.mono b_10.out.size))
      have A_11 := Lib.hid (A_10.out.below hbc)
      have B_11 := Lib.hid (B_10.out.below hbc)
      have dr_11 := Lib.hid (dr_10.out.below hbc)
      have pr_11 := Lib.hid (pr_10.out.below hbc)
      clear b_10 A_10 B_10 dr_10 le_10 pr_10 sm_10
      go_wp2_with fail
      refine (degF _ _ _ _ _ _ 1674 8 NR FR dr_11.out.isp (dr_11.out.pi (by decide)) (by decide)).mono ?_
      rintro e y12 ⟨rfl, hbc⟩
      dsimp only
      have b_12 := Lib.hid (b_11.out.trans (hbc.mono b_11.out.size))
      have A_12 := Lib.hid (A_11.out.below hbc)
      have B_12 := Lib.hid (B_11.out.below hbc)
      have dr_12 := Lib.hid (dr_11.out.below hbc)
      have pr_12 := Lib.hid (pr_11.out.below hbc)
      clear b_11 A_11 B_11 dr_11 pr_11
      obtain ⟨jr, hjr⟩ : ∃ j : Int, (NR : Int) - 1 = j := ⟨_, rfl⟩
      rw [hjr]
      have hlr : jr < (m1 : Int) := by have := Hlt.out; omega
      clear hjr
      go_wp2_with fail
      refine (HAw.out _).mono ?_
      rintro e y13 ⟨rfl, hbc⟩
      dsimp only
      have b_13 := Lib.hid (b_12.out.trans (hbc.mono b_12.out.size))
      have A_13 := Lib.hid (A_12.out.below hbc)
      have B_13 := Lib.hid (B_12.out.below hbc)
      have dr_13 := Lib.hid (dr_12.out.below hbc)
      have pr_13 := Lib.hid (pr_12.out.below hbc)
      clear b_12 A_12 B_12 dr_12 pr_12
      go_wp2_with fail
      go_ret
      exact ⟨rfl, b_13.out⟩
end Go.Proofs.YteoemijgdcpopaaDoor
