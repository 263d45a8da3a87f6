/- The walk of the statement PropagationGreatest: it returns true for every input. -/
import Derived.Test.YtcafeffgaokiaaaJ39
import Derived.Test.YtcafeffgaokiaaaJ12
import Derived.Test.YtcafeffgaokiaaaJ40
import Derived.Test.YtcafeffgaokiaaaJ41
import Derived.Test.YtcafeffgaokiaaaJ42
import Derived.Test.YtcafeffgaokiaaaJ45
import Derived.OrdersHeld
import Derived.Deep.RegionHeld
namespace Go.Proofs.Ytcafeffgaokiaaa
open Go.RowKit
theorem wstV_form (l b i : Int) (m : EM) (dl db di dp df : Int) (es : List Ent) (n : Int) : ∃ (S : ByteArray) (A C E : Int), wstV l b i m dl db di dp df es n = .tuple #[.string S, .int .i64 A, .int .i64 C, .int .i64 E] := by
  unfold wstV
  split
  · split
    · exact ⟨_, _, _, _, rfl⟩
    · exact ⟨_, _, _, _, rfl⟩
  · exact ⟨_, _, _, _, rfl⟩
theorem avgV_form (l b i : Int) (m : EM) (dl db di dp df : Int) (es : List Ent) (n : Int) : ∃ (a : Bool) (b' : ByteArray) (c : Bool) (d : ByteArray), avgV l b i m dl db di dp df es n = .agg #[.bool a, .string b', .bool c, .string d] := by
  unfold avgV
  split
  · exact ⟨_, _, _, _, rfl⟩
  · exact ⟨_, _, _, _, rfl⟩
theorem rat_inj {a : Bool} {b : ByteArray} {c : Bool} {d : ByteArray} {P Q : Int} (h : (.agg #[.bool a, .string b, .bool c, .string d] : Value) = ratV P Q) : a = (canon P).neg ∧ b = (canon P).mag ∧ c = (canon Q).neg ∧ d = (canon Q).mag := by
  unfold ratV at h
  simpa using h
theorem cmpI_le {a b : Int} (h : a ≤ b) : ¬ 0 < cmpI a b := by
  unfold cmpI
  split
  · decide
  · split
    · omega
    · decide
theorem modW (x y : Nat) (hx : x < 256) : (IntKind.i64.wrap (x : Int)).tmod (y : Int) = ((x % y : Nat) : Int) := by
  rw [IntWalk.i64_in _ (by omega)]
  rfl
set_option maxRecDepth 100000 in
set_option maxHeartbeats 8000000 in
theorem greatestLaw (l b i : Int) (m : EM) (p : Option Addr) (c : Nat) (dl db di dp df : Int) (es : List Ent) (a : Option Addr) (ca : Nat) (sv : Nat) (q : Option Addr) (cq : Nat) (xs : List Nat) (av lv : Nat) (w : World) (hA : m.At w p) (hf : m.Fit) (hE : EntsAt w a es) (hwins : WinsFit es) (hX : ByteAt w q xs) (hx256 : ∀ x ∈ xs, x < 256) (hxl : xs.length ≤ maxLen) (hsv : sv < 256) (hav : av < 256) (hlv : lv < 256) (hlen : es.length ≤ 100000000000000) :
    Calls Try.prog 5 #[.agg #[.int .i64 l, .int .i64 b, .int .i64 i, .slice p m.r c], .agg #[.int .i64 dl, .int .i64 db, .int .i64 di, .int .i64 dp, .int .i64 df, .slice a es.length ca], .int .u8 (sv : Int), .slice q xs.length cq, .int .u8 (av : Int), .int .u8 (lv : Int)] w fun e w' => e = .returned (.bool true) ∧ Below w.heap.size w w' := by
  obtain ⟨V, hV⟩ : ∃ V, ((w.alloc (.cells #[.int .i64 l, .int .i64 b, .int .i64 i, .slice p m.r c] 24)).alloc (.cells #[.int .i64 dl, .int .i64 db, .int .i64 di, .int .i64 dp, .int .i64 df, .slice a es.length ca] 30)) = V := ⟨_, rfl⟩
  have hbV : Below w.heap.size w V := by rw [← hV]; exact ((Below.refl w.heap.size w).alloc (Nat.le_refl _) _).alloc (by simp) _
  obtain ⟨g, hg⟩ : ∃ g, w.heap.size = g := ⟨_, rfl⟩
  have hsV : V.heap.size = g + 2 := by rw [← hV]; simp [hg]
  have x0 : V.cell? ⟨g, 0, none⟩ = some (.int .i64 l) ∧ V.cell? ⟨g, 1, none⟩ = some (.int .i64 b) ∧ V.cell? ⟨g, 2, none⟩ = some (.int .i64 i) ∧ V.cell? ⟨g, 3, none⟩ = some (.slice p m.r c) := by
    rw [← hV, ← hg]; refine ⟨?_, ?_, ?_, ?_⟩ <;> simp
  have y0 : V.cell? ⟨g + 1, 0, none⟩ = some (.int .i64 dl) ∧ V.cell? ⟨g + 1, 1, none⟩ = some (.int .i64 db) ∧ V.cell? ⟨g + 1, 2, none⟩ = some (.int .i64 di) ∧ V.cell? ⟨g + 1, 3, none⟩ = some (.int .i64 dp) ∧ V.cell? ⟨g + 1, 4, none⟩ = some (.int .i64 df) ∧ V.cell? ⟨g + 1, 5, none⟩ = some (.slice a es.length ca) := by
    rw [← hV, ← hg]; refine ⟨?_, ?_, ?_, ?_, ?_, ?_⟩ <;> simp
  have HX := Lib.hid (fun (W : World) (h : Below V.heap.size V W) => show (W.cell? ⟨g, 0, none⟩ = some (.int .i64 l) ∧ W.cell? ⟨g, 1, none⟩ = some (.int .i64 b) ∧ W.cell? ⟨g, 2, none⟩ = some (.int .i64 i) ∧ W.cell? ⟨g, 3, none⟩ = some (.slice p m.r c)) ∧ W.cell? ⟨g + 1, 0, none⟩ = some (.int .i64 dl) ∧ W.cell? ⟨g + 1, 1, none⟩ = some (.int .i64 db) ∧ W.cell? ⟨g + 1, 2, none⟩ = some (.int .i64 di) ∧ W.cell? ⟨g + 1, 3, none⟩ = some (.int .i64 dp) ∧ W.cell? ⟨g + 1, 4, none⟩ = some (.int .i64 df) ∧ W.cell? ⟨g + 1, 5, none⟩ = some (.slice a es.length ca) from
    ⟨⟨(h.cell (by simp; omega)).trans x0.1, (h.cell (by simp; omega)).trans x0.2.1, (h.cell (by simp; omega)).trans x0.2.2.1, (h.cell (by simp; omega)).trans x0.2.2.2⟩,
      (h.cell (by simp; omega)).trans y0.1, (h.cell (by simp; omega)).trans y0.2.1, (h.cell (by simp; omega)).trans y0.2.2.1, (h.cell (by simp; omega)).trans y0.2.2.2.1, (h.cell (by simp; omega)).trans y0.2.2.2.2.1, (h.cell (by simp; omega)).trans y0.2.2.2.2.2⟩)
  have HG1 := Lib.hid (fun (W : World) (h : Below w.heap.size w W) => encGreat_any l b i m p c W (hA.below (Nat.le_refl _) h) hf)
  have HG2 := Lib.hid (fun (W : World) (h : Below w.heap.size w W) => great_any dl db di dp df es a ca W (SlAt.mono hE (Nat.le_refl _) h) hwins hlen)
  have HMy := Lib.hid (fun (W : World) => many_any l b i m p c (xs.length : Int) W)
  have HPr := Lib.hid (fun (hM : manyB b i m.r (xs.length : Int) = false) => show (∀ W, Below w.heap.size w W → _) from fun (W : World) (h : Below w.heap.size w W) =>
    have hsm := fun h0 => let r := rps_small (l := l) (b := b) (i := i) (m := m) (dl := dl) (db := db) (di := di) (dp := dp) (df := df) (es := es) (n := (xs.length : Int)) h0 hM; (⟨Nat.le_trans r.2.2 (by decide), Nat.le_trans r.2.1 (by decide)⟩ : sumF (rps l b i m dp df es (xs.length : Int)) ≤ 1000000000 ∧ (rps l b i m dp df es (xs.length : Int)).length ≤ 1000000000)
    And.intro (pGreatest_any l b i m p c dl db di dp df es a ca (xs.length : Int) W (hA.below (Nat.le_refl _) h) hf (SlAt.mono hE (Nat.le_refl _) h) hwins)
    (And.intro (pAverage_any l b i m p c dl db di dp df es a ca (xs.length : Int) W (hA.below (Nat.le_refl _) h) hf (SlAt.mono hE (Nat.le_refl _) h) hwins hsm)
    (pWorst_any l b i m p c dl db di dp df es a ca (xs.length : Int) W (hA.below (Nat.le_refl _) h) hf (SlAt.mono hE (Nat.le_refl _) h) hwins)))
  have HSm := Lib.hid (fun (h0 : fitErr l b i m dl db di dp df es (xs.length : Int) = 0) (hM : manyB b i m.r (xs.length : Int) = false) => rps_small h0 hM)
  have HA := Lib.hid hA
  have HF := Lib.hid hf
  have HE := Lib.hid hE
  have HWn := Lib.hid hwins
  have HXs := Lib.hid hX
  have HbV := Lib.hid hbV
  obtain ⟨⟨x0, x1, x2, x3⟩, y0, y1, y2, y3, y4, y5⟩ := HX.out V (Below.refl _ _)
  clear hA hE hwins hf hbV hX
  go_enter Try.func5, Try.ntmps5
  have HB0 : Hid (Below V.heap.size V V) := Lib.hid (Below.refl _ _)
  go_wp2_with fail
  refine (HG1.out _ HbV.out).mono ?_
  rintro e W1 ⟨g1, rfl, hb⟩
  dsimp only
  have HB1 := Lib.hid (HB0.out.trans (hb.mono HB0.out.size))
  have Hw1 := Lib.hid (HbV.out.trans (HB1.out.mono HbV.out.size))
  clear hb x0 x1 x2 x3 y0 y1 y2 y3 y4 y5
  obtain ⟨⟨x0, x1, x2, x3⟩, y0, y1, y2, y3, y4, y5⟩ := HX.out _ HB1.out
  cases g1
  case true =>
    go_wp2_with (go_at_call 18; refine (awake_any _).mono ?_; rintro e w9 ⟨rfl, hb⟩; have Hb9 := Lib.hid hb; clear hb)
    go_ret
    exact ⟨rfl, Hw1.out.trans (Hb9.out.mono Hw1.out.size)⟩
  case false =>
    go_wp2_with fail
    refine (HG2.out _ Hw1.out).mono ?_
    rintro e W2 ⟨g2, rfl, _, hb⟩
    dsimp only
    have HB2 := Lib.hid (HB1.out.trans (hb.mono HB1.out.size))
    have Hw2 := Lib.hid (HbV.out.trans (HB2.out.mono HbV.out.size))
    clear hb x0 x1 x2 x3 y0 y1 y2 y3 y4 y5
    obtain ⟨⟨x0, x1, x2, x3⟩, y0, y1, y2, y3, y4, y5⟩ := HX.out _ HB2.out
    cases g2
    case true =>
      go_wp2_with (go_at_call 18; refine (awake_any _).mono ?_; rintro e w9 ⟨rfl, hb⟩; have Hb9 := Lib.hid hb; clear hb)
      go_ret
      exact ⟨rfl, Hw2.out.trans (Hb9.out.mono Hw2.out.size)⟩
    case false =>
      by_cases hn1 : (xs.length : Int) < 1
      · skip
        go_wp2_with (go_at_call 18; refine (awake_any _).mono ?_; rintro e w9 ⟨rfl, hb⟩; have Hb9 := Lib.hid hb; clear hb)
        go_ret
        exact ⟨rfl, Hw2.out.trans (Hb9.out.mono Hw2.out.size)⟩
      by_cases hn6 : 6 < (xs.length : Int)
      · skip
        go_wp2_with (go_at_call 18; refine (awake_any _).mono ?_; rintro e w9 ⟨rfl, hb⟩; have Hb9 := Lib.hid hb; clear hb)
        go_ret
        exact ⟨rfl, Hw2.out.trans (Hb9.out.mono Hw2.out.size)⟩
      have hxl6 : xs.length ≤ 6 := by omega
      have hxl1 : 1 ≤ xs.length := by omega
      go_wp2_with fail
      refine (HMy.out _).mono ?_
      rintro e W3 ⟨rfl, hb⟩
      dsimp only
      have HB3 := Lib.hid (HB2.out.trans (hb.mono HB2.out.size))
      have Hw3 := Lib.hid (HbV.out.trans (HB3.out.mono HbV.out.size))
      clear hb x0 x1 x2 x3 y0 y1 y2 y3 y4 y5
      obtain ⟨⟨x0, x1, x2, x3⟩, y0, y1, y2, y3, y4, y5⟩ := HX.out _ HB3.out
      obtain ⟨mb, hmb⟩ : ∃ x, manyB b i m.r (xs.length : Int) = x := ⟨_, rfl⟩
      rw [hmb]
      cases mb
      case true =>
        clear hmb HPr HSm
        go_wp2_with (go_at_call 18; refine (awake_any _).mono ?_; rintro e w9 ⟨rfl, hb⟩; have Hb9 := Lib.hid hb; clear hb)
        go_ret
        exact ⟨rfl, Hw3.out.trans (Hb9.out.mono Hw3.out.size)⟩
      case false =>
        have HPs := Lib.hid (HPr.out hmb)
        have HSz := Lib.hid (fun h0 => HSm.out h0 hmb)
        clear hmb HPr HSm HG1 HG2 HMy
        obtain ⟨gv, hgv⟩ : ∃ x, grtV l b i m dl db di dp df es (xs.length : Int) = x := ⟨_, rfl⟩
        obtain ⟨fe, hfe⟩ : ∃ x, fitErr l b i m dl db di dp df es (xs.length : Int) = x := ⟨_, rfl⟩
        obtain ⟨ra, rb, rc, rd, hav9⟩ := avgV_form l b i m dl db di dp df es (xs.length : Int)
        obtain ⟨S, A, C, E, hwv⟩ := wstV_form l b i m dl db di dp df es (xs.length : Int)
        rw [hgv, hfe, hav9, hwv] at HPs
        rw [hfe] at HSz
        have HGv := Lib.hid hgv
        have HFe := Lib.hid hfe
        have HAv := Lib.hid hav9
        have HWv := Lib.hid hwv
        clear hgv hfe hav9 hwv
        go_wp2_with fail
        refine ((HPs.out _ Hw3.out).1).mono ?_
        rintro e W4 ⟨rfl, hb⟩
        dsimp only
        have HB4 := Lib.hid (HB3.out.trans (hb.mono HB3.out.size))
        have Hw4 := Lib.hid (HbV.out.trans (HB4.out.mono HbV.out.size))
        clear hb x0 x1 x2 x3 y0 y1 y2 y3 y4 y5
        obtain ⟨⟨x0, x1, x2, x3⟩, y0, y1, y2, y3, y4, y5⟩ := HX.out _ HB4.out
        go_wp2_with fail
        refine ((HPs.out _ Hw4.out).2.1).mono ?_
        rintro e W5 ⟨rfl, hb⟩
        dsimp only
        have HB5 := Lib.hid (HB4.out.trans (hb.mono HB4.out.size))
        have Hw5 := Lib.hid (HbV.out.trans (HB5.out.mono HbV.out.size))
        clear hb x0 x1 x2 x3 y0 y1 y2 y3 y4 y5
        obtain ⟨⟨x0, x1, x2, x3⟩, y0, y1, y2, y3, y4, y5⟩ := HX.out _ HB5.out
        go_upto_region 6 with (fail)
        have hb := (Below.refl W5.heap.size W5).alloc (Nat.le_refl _) (.cells #[.bool ra, .string rb, .bool rc, .string rd] 50)
        have hob : (W5.alloc (.cells #[.bool ra, .string rb, .bool rc, .string rd] 50)).heap[W5.heap.size]? = some (.cells #[.bool ra, .string rb, .bool rc, .string rd] 50 (0, 0)) := World.alloc_heap_new W5 _
        have HOu1 := Lib.hid hob
        clear hob
        obtain ⟨u1, hu1⟩ : ∃ x, W5.heap.size = x := ⟨_, rfl⟩
        rw [hu1] at HOu1 ⊢
        have HB6 := Lib.hid (HB5.out.trans (hb.mono HB5.out.size))
        have Hw6 := Lib.hid (HbV.out.trans (HB6.out.mono HbV.out.size))
        clear hb x0 x1 x2 x3 y0 y1 y2 y3 y4 y5 hu1
        generalize W5.alloc (.cells #[.bool ra, .string rb, .bool rc, .string rd] 50) = X6 at *
        obtain ⟨⟨x0, x1, x2, x3⟩, y0, y1, y2, y3, y4, y5⟩ := HX.out _ HB6.out
        by_cases e0 : fe = 0
        case neg =>
          have e0' : (fe != 0) = true := by simpa using e0
          have e0'' : (fe == fe) = true := by simp
          clear e0 HSz HPs
          go_wp2_with (go_at_call 18; refine (awake_any _).mono ?_; rintro e w9 ⟨rfl, hb⟩; have Hb9 := Lib.hid hb; clear hb)
          go_ret
          exact ⟨rfl, Hw6.out.trans (Hb9.out.mono Hw6.out.size)⟩
        subst e0
        obtain ⟨he, hd, h1, h2, h3, hn, hcnt⟩ := fit_ok HFe.out
        subst h1 h2 h3
        obtain ⟨⟨l1, l2⟩, ⟨b1, b2⟩, ⟨i1, i2⟩, ⟨r1, r2⟩, _, _⟩ := encCheck_ok he
        obtain ⟨L, rfl⟩ : ∃ L : Nat, dl = L := ⟨dl.toNat, by omega⟩
        obtain ⟨B, rfl⟩ : ∃ B : Nat, db = B := ⟨db.toNat, by omega⟩
        obtain ⟨I, rfl⟩ : ∃ I : Nat, di = I := ⟨di.toNat, by omega⟩
        obtain ⟨ps, hps⟩ : ∃ ps, rps (L : Int) (B : Int) (I : Int) m dp df es (xs.length : Int) = ps := ⟨_, rfl⟩
        have hps2 : rpE (decOut (L : Int) (B : Int) (I : Int) dp df es) L (wordsE m xs.length) = ps := by rw [← hps]; unfold rps; rw [Int.toNat_natCast, Int.toNat_natCast]
        obtain ⟨f1, f2, f3⟩ := gpl_facts he hd ⟨hxl1, by omega⟩ ps hps2
        obtain ⟨z1, z2, z3⟩ := HSz.out rfl
        rw [hps] at z1 z2 z3
        obtain ⟨M, hM⟩ : ∃ M, mostF ps = M := ⟨_, rfl⟩
        have hM13 : M ≤ 13 := by rw [← hM]; exact mostF_bound z1
        have hsb := sumF_bound (l := ps) (B := M) (fun x hx => by rw [← hM]; exact mostF_le x hx)
        have hgv : gv = (M : Int) := by
          rw [← HGv.out]; unfold grtV; rw [if_pos HFe.out, hps, hM]
        subst hgv
        obtain ⟨A9, hA9⟩ : ∃ A9, max ps.length 1 = A9 := ⟨_, rfl⟩
        obtain ⟨S9, hS9⟩ : ∃ S9, sumF ps = S9 := ⟨_, rfl⟩
        have hA1 : 1 ≤ A9 ∧ A9 ≤ 57600 := by omega
        have hSA : S9 ≤ M * A9 := by
          rw [← hS9]
          exact Nat.le_trans hsb (Nat.mul_le_mul_left _ (by omega))
        have hrv : avgV (L : Int) (B : Int) (I : Int) m (L : Int) (B : Int) (I : Int) dp df es (xs.length : Int) = ratV (rloN (S9 : Int) (A9 : Int)) (rloD (S9 : Int) (A9 : Int)) := by
          unfold avgV; rw [if_pos HFe.out, hps, hA9, hS9]
        obtain ⟨rfl, rfl, rfl, rfl⟩ := rat_inj (HAv.out.symm.trans hrv)
        have hml := mean_le (S := S9) (A := A9) (M := M) (by omega) hSA
        have hq1 := rlo_qc (S9 : Int) (A9 : Int)
        have hqb := hq1.bounds (h := (S9 : Int)) (w := (A9 : Int)) (by omega) ((rlo_eq (S9 : Int) (d := (A9 : Int)) (by omega)).symm.trans (Int.mul_comm _ _))
        rw [Int.natAbs_natCast, Int.natAbs_natCast] at hqb
        obtain ⟨PP, hPP⟩ : ∃ x, rloN (S9 : Int) (A9 : Int) = x := ⟨_, rfl⟩
        obtain ⟨QQ, hQQ⟩ : ∃ x, rloD (S9 : Int) (A9 : Int) = x := ⟨_, rfl⟩
        rw [hPP, hQQ] at HOu1 hml hq1 hqb HPs
        have hS9b : S9 ≤ 1000000 := by omega
        have b1 : Bn PP 40 := by unfold Bn; have : (2 : Nat) ^ 40 = 1099511627776 := by decide
                                 omega
        have b2 : Bn QQ 40 := by unfold Bn; have : (2 : Nat) ^ 40 = 1099511627776 := by decide
                                 omega
        have b3 : Bn (M : Int) 40 := by unfold Bn; have : (2 : Nat) ^ 40 = 1099511627776 := by decide
                                        omega
        have b4 : Bn 1 40 := by unfold Bn; have : (2 : Nat) ^ 40 = 1099511627776 := by decide
                                omega
        have HCp := Lib.hid (fun (W : World) => cmpRR_any PP QQ (M : Int) 1 (e := 40) hq1 (qc_one _) b1 b2 b3 b4 (by omega) W)
        have hcmp : ¬ 0 < cmpI (PP * 1) ((M : Int) * QQ) := cmpI_le hml
        obtain ⟨rc9, hrc9⟩ : ∃ x, cmpI (PP * 1) ((M : Int) * QQ) = x := ⟨_, rfl⟩
        rw [hrc9] at HCp hcmp
        have HRt := Lib.hid (fun (W : World) => ratioQ_any M 1 (by omega) (by omega) (by omega) W)
        have hro := rlo_one (M : Int)
        rw [show ((1 : Nat) : Int) = 1 from rfl, hro.1, hro.2] at HRt
        have HBd := Lib.hid (fun (W : World) (h : Below w.heap.size w W) => bound_any (L : Int) (B : Int) (I : Int) dp df es a ca W (SlAt.mono HE.out (Nat.le_refl _) h) HWn.out)
        have hbe : boundErr (L : Int) (B : Int) (I : Int) dp df es = 0 := by unfold boundErr; rw [if_neg (by simpa using hd)]
        have hbv : boundVal (L : Int) (B : Int) (I : Int) dp df es = dp + 1 + df := by unfold boundVal; rw [if_neg (by simpa using hd)]
        rw [hbe, hbv] at HBd
        obtain ⟨BD, hBD⟩ : ∃ x, dp + 1 + df = x := ⟨_, rfl⟩
        rw [hBD] at HBd
        have hMB : ¬ BD < (M : Int) := by rw [hM] at f1; omega
        have HF2 := Lib.hid f2
        have HF3 := Lib.hid f3
        have HM := Lib.hid hM
        have Hhe := Lib.hid he
        have hwv2 : wstV (L : Int) (B : Int) (I : Int) m (L : Int) (B : Int) (I : Int) dp df es (xs.length : Int) = if (wsF ps).n < 0 then .tuple #[.string ⟨#[]⟩, .int .i64 0, .int .i64 0, .int .i64 5]
             else .tuple #[.string (wsF ps).w, .int .i64 (wsF ps).a, .int .i64 (wsF ps).c, .int .i64 0] := by unfold wstV; rw [if_pos HFe.out, hps]
        have HWv2 := Lib.hid (HWv.out.symm.trans hwv2)
        clear hml hq1 hqb hPP hQQ hrv hSA hsb z1 z2 z3 hA1 hA9 hS9 hS9b f1 f2 f3 hM hps hps2 b1 b2 b3 b4 hrc9 hro hbe hbv hBD he hwv2 HSz HGv HFe HAv HWv hcnt
        go_wp2_with fail
        refine (HBd.out _ Hw6.out).mono ?_
        rintro e W7 ⟨rfl, hb⟩
        dsimp only
        have HB7 := Lib.hid (HB6.out.trans (hb.mono HB6.out.size))
        have Hw7 := Lib.hid (HbV.out.trans (HB7.out.mono HbV.out.size))
        have HOu1 := Lib.hid ((hb.block u1 (Array.getElem?_eq_some_iff.1 HOu1.out).1).trans HOu1.out)
        clear hb x0 x1 x2 x3 y0 y1 y2 y3 y4 y5
        obtain ⟨⟨x0, x1, x2, x3⟩, y0, y1, y2, y3, y4, y5⟩ := HX.out _ HB7.out
        go_wp2_with fail
        refine (HRt.out _).mono ?_
        rintro e W8 ⟨rfl, hb⟩
        dsimp only
        have HB8 := Lib.hid (HB7.out.trans (hb.mono HB7.out.size))
        have Hw8 := Lib.hid (HbV.out.trans (HB8.out.mono HbV.out.size))
        have HOu1 := Lib.hid ((hb.block u1 (Array.getElem?_eq_some_iff.1 HOu1.out).1).trans HOu1.out)
        clear hb x0 x1 x2 x3 y0 y1 y2 y3 y4 y5
        obtain ⟨⟨x0, x1, x2, x3⟩, y0, y1, y2, y3, y4, y5⟩ := HX.out _ HB8.out
        unfold ratV at HCp ⊢
        obtain ⟨CP, hCP⟩ : ∃ z, canon PP = z := ⟨_, rfl⟩
        obtain ⟨CQ, hCQ⟩ : ∃ z, canon QQ = z := ⟨_, rfl⟩
        obtain ⟨CM, hCM⟩ : ∃ z, canon (M : Int) = z := ⟨_, rfl⟩
        obtain ⟨C1, hC1⟩ : ∃ z, canon (1 : Int) = z := ⟨_, rfl⟩
        rw [hCP, hCQ] at HOu1 HPs HCp
        rw [hCM, hC1] at HCp ⊢
        clear hCP hCQ hCM hC1
        go_upto_region 10 with (fail)
        have hb := (Below.refl W8.heap.size W8).alloc (Nat.le_refl _) (.cells #[.bool CM.neg, .string CM.mag, .bool C1.neg, .string C1.mag] 50)
        have hob : (W8.alloc (.cells #[.bool CM.neg, .string CM.mag, .bool C1.neg, .string C1.mag] 50)).heap[W8.heap.size]? = some (.cells #[.bool CM.neg, .string CM.mag, .bool C1.neg, .string C1.mag] 50 (0, 0)) := World.alloc_heap_new W8 _
        have HOu2 := Lib.hid hob
        clear hob
        have HOu1 := Lib.hid ((hb.block u1 (Array.getElem?_eq_some_iff.1 HOu1.out).1).trans HOu1.out)
        obtain ⟨u2, hu2⟩ : ∃ x, W8.heap.size = x := ⟨_, rfl⟩
        rw [hu2] at HOu2 ⊢
        have HB9 := Lib.hid (HB8.out.trans (hb.mono HB8.out.size))
        have Hw9 := Lib.hid (HbV.out.trans (HB9.out.mono HbV.out.size))
        clear hb x0 x1 x2 x3 y0 y1 y2 y3 y4 y5 hu2
        generalize W8.alloc (.cells #[.bool CM.neg, .string CM.mag, .bool C1.neg, .string C1.mag] 50) = X9 at *
        obtain ⟨⟨x0, x1, x2, x3⟩, y0, y1, y2, y3, y4, y5⟩ := HX.out _ HB9.out
        have u10 := cell_of_obj HOu1.out 0
        have u11 := cell_of_obj HOu1.out 1
        have u12 := cell_of_obj HOu1.out 2
        have u13 := cell_of_obj HOu1.out 3
        simp only [List.getElem?_toArray, List.getElem?_cons_succ, List.getElem?_cons_zero] at u10 u11 u12 u13
        have u20 := cell_of_obj HOu2.out 0
        have u21 := cell_of_obj HOu2.out 1
        have u22 := cell_of_obj HOu2.out 2
        have u23 := cell_of_obj HOu2.out 3
        simp only [List.getElem?_toArray, List.getElem?_cons_succ, List.getElem?_cons_zero] at u20 u21 u22 u23
        go_wp2_with fail
        refine (HCp.out _).mono ?_
        rintro e W10 ⟨rfl, hb⟩
        dsimp only
        clear u10 u11 u12 u13 u20 u21 u22 u23
        have HB10 := Lib.hid (HB9.out.trans (hb.mono HB9.out.size))
        have Hw10 := Lib.hid (HbV.out.trans (HB10.out.mono HbV.out.size))
        clear hb x0 x1 x2 x3 y0 y1 y2 y3 y4 y5
        obtain ⟨⟨x0, x1, x2, x3⟩, y0, y1, y2, y3, y4, y5⟩ := HX.out _ HB10.out
        go_wp2_with fail
        refine ((HPs.out _ Hw10.out).2.2).mono ?_
        rintro e W11 ⟨rfl, hb⟩
        dsimp only
        have HB11 := Lib.hid (HB10.out.trans (hb.mono HB10.out.size))
        have Hw11 := Lib.hid (HbV.out.trans (HB11.out.mono HbV.out.size))
        clear hb x0 x1 x2 x3 y0 y1 y2 y3 y4 y5
        obtain ⟨⟨x0, x1, x2, x3⟩, y0, y1, y2, y3, y4, y5⟩ := HX.out _ HB11.out
        clear HPs HCp HRt HBd HOu1 HOu2
        rcases HF2.out with ⟨hng, hL1, hM0⟩ | ⟨hng, hce, hcl, hcz⟩
        · skip
          have hw5 := HWv2.out
          rw [if_pos hng] at hw5
          simp only [Value.tuple.injEq, Array.mk.injEq, List.cons.injEq, Value.string.injEq, Value.int.injEq, true_and, and_true] at hw5
          obtain ⟨rfl, rfl, rfl, rfl⟩ := hw5
          rw [HM.out] at hM0
          have hM1 : ((M : Int) != 0) = false := by rw [hM0]; rfl
          have hL2 : ¬ (1 : Int) < (L : Int) := by omega
          clear hng hL1 HWv2 hM0
          go_upto_region 20 with (fail)
          have i0 : ¬ (I : Int) = 0 := by omega
          have i00 : ¬ I = 0 := by omega
          have ipos : (0 : Int) < (I : Int) := by omega
          obtain ⟨NX, hNX⟩ : ∃ k, xs.length = k := ⟨_, rfl⟩
          have HNX := Lib.hid hNX
          have hs9 : V.heap.size ≤ W11.heap.size := HB11.out.size
          have hwV : w.heap.size ≤ V.heap.size := HbV.out.size
          rw [hNX] at hxl6 hxl1 ⊢
          obtain ⟨ls, hls⟩ : ∃ l, xs.map (· % I) = l := ⟨_, rfl⟩
          have hll : ls.length = NX := by rw [← hls, List.length_map, HNX.out]
          have HLs : Hid (∀ k, k < NX → ls.getD k 0 = xs.getD k 0 % I) := Lib.hid (fun k hk => by
            rw [← hls, List.getD_eq_getElem?_getD, List.getD_eq_getElem?_getD, List.getElem?_map, List.getElem?_eq_getElem (by rw [HNX.out]; exact hk)]; rfl)
          have hlI : ∀ x ∈ ls, x < I := fun x hx => by
            rw [← hls] at hx
            obtain ⟨y, _, rfl⟩ := List.mem_map.1 hx
            exact Nat.mod_lt _ (by omega)
          have HlI := Lib.hid hlI
          have Hll := Lib.hid hll
          clear hNX hxl hn1 hn6 hls hlI hll
          go_wp2
          go_loopw [26, 148] (fun ov kv wr => ∃ k : Nat, k ≤ NX ∧ kv = .int .i64 (k : Nat) ∧ Hid (OwnInts wr W11.heap.size ov (intsN (ls.take k))) ∧ Hid (Below W11.heap.size W11 wr)) (fun _ kv _ => NX - (intOf kv).toNat)
          case atStart => exact ⟨0, by omega, by go_num, Lib.hid (OwnInts.nil _ _), Lib.hid (Below.refl _ _)⟩
          case round =>
            clear x0 x1 x2 x3 y0 y1 y2 y3 y4 y5
            obtain ⟨k, hk, rfl, Ho, Hb⟩ := hrel
            have HBr := Lib.hid (HB11.out.trans (Hb.out.mono hs9))
            have Hwr := Lib.hid (HbV.out.trans (HBr.out.mono HbV.out.size))
            obtain ⟨⟨x0, x1, x2, x3⟩, y0, y1, y2, y3, y4, y5⟩ := HX.out _ HBr.out
            by_cases hlt : k < NX
            · obtain ⟨ab, ao, rfl, hab, hca⟩ := (HXs.out.below (Nat.le_refl _) Hwr.out).cells (k := k) (by rw [HNX.out]; exact hlt)
              have hxa := hca k (by rw [HNX.out]; exact hlt)
              obtain ⟨x, hx⟩ : ∃ x, xs.getD k 0 = x := ⟨_, rfl⟩
              have hx2 := hx256 x (by rw [← hx, List.getD_eq_getElem?_getD, List.getElem?_eq_getElem (by rw [HNX.out]; exact hlt)]; exact List.getElem_mem _)
              have hst : intsN (ls.take (k + 1)) = intsN (ls.take k) ++ [((x % I : Nat) : Int)] := by
                have h9 := HLs.out k hlt
                rw [hx, List.getD_eq_getElem?_getD, List.getElem?_eq_getElem (by rw [Hll.out]; exact hlt)] at h9
                have e9 : ls.take (k + 1) = ls.take k ++ [x % I] := by
                  rw [List.take_add_one, List.getElem?_eq_getElem (by rw [Hll.out]; exact hlt), ← h9]; rfl
                rw [e9]
                unfold intsN
                rw [List.map_append]
                rfl
              have Hst := Lib.hid hst
              rw [hx] at hxa
              have hol : (intsN (ls.take k)).length = k := by rw [intsN_len, List.length_take, Hll.out]; omega
              have k0 : (0 : Int) ≤ (k : Int) := by omega
              have k1 : (k : Int) < (NX : Int) := by omega
              have x0' : (0 : Int) ≤ (x : Int) := by omega
              clear hca hx hst
              go_wp2_with (at_builtin; refine wpList_append_int rfl _ _ rfl W11.heap.size _ _ rfl (Ho.out.alloc _) wr.heap.size 1 ((x % I : Nat) : Int) rfl (by first | exact cell_new0 _ _ _ | simp) ?_ ?_ ?_)
              · rw [hol]; omega
              · have := Hb.out.size; (try simp); omega
              · intro v' w4 hown2 hgrow
                have HbN := Lib.hid (below_append (Hb.out.alloc (by have := Hb.out.size; omega) _) (Ho.out.alloc _) hgrow (by have := Hb.out.size; simp; omega) (Nat.le_refl _))
                have HoN : Hid (OwnInts w4 W11.heap.size v' (intsN (ls.take (k + 1)))) := Lib.hid (by rw [Hst.out]; exact hown2)
                clear hown2 hgrow
                go_wp2
                go_roundw
                case rel => exact ⟨k + 1, by omega, by go_num, HoN, HbN⟩
                case measure => simp [intOf]; omega
            · have k1 : ¬ (k : Int) < (NX : Int) := by omega
              have hke : k = NX := by omega
              have hlst : ls.take k = ls := by rw [hke, ← Hll.out, List.take_length]
              obtain ⟨p5, c5, hu5, _, hI5, _⟩ := Ho.out.form
              rw [hlst] at hI5 hu5
              subst hu5
              have hll := Hll.out
              have hlI := HlI.out
              rw [intsN_len, hll]
              have hsm : sv % m.r < m.r := Nat.mod_lt _ r1
              have hr0 : ¬ (m.r : Int) = 0 := by omega
              have hr00 : ¬ m.r = 0 := by omega
              have HEn := Lib.hid (fun (W : World) (h : Below wr.heap.size wr W) => encode_any (L : Int) (B : Int) (I : Int) m p c (sv % m.r) p5 c5 ls W (HA.out.below (Nat.le_refl _) (Hwr.out.trans (h.mono Hwr.out.size))) HF.out Hhe.out hsm (hI5.below (Nat.le_refl _) h) (fun x hx => by have := hlI x hx; omega) (by omega))
              rw [hll] at HEn
              obtain ⟨w2, hw2⟩ : ∃ x, (encW m (sv % m.r) ls ByteArray.empty).1 = x := ⟨_, rfl⟩
              obtain ⟨s2, hs2⟩ : ∃ x, (encW m (sv % m.r) ls ByteArray.empty).2 = x := ⟨_, rfl⟩
              have hfin := HF3.out (sv % m.r) ls hsm (by rw [hll, HNX.out]) hlI
              rw [hw2] at hfin HEn
              rw [hs2] at HEn
              obtain ⟨hw20, hw21, hfin⟩ := hfin
              have HM1 := Lib.hid (modW sv m.r hsv)
              have HM2 := Lib.hid (modW av w2.size hav)
              have HM3 := Lib.hid (modW lv L hlv)
              have hav2 : av % w2.size < w2.size := Nat.mod_lt _ hw20
              have hlv2 : lv % L < L := Nat.mod_lt _ (by omega)
              obtain ⟨hce9, hcl9⟩ := hfin _ _ hav2 hlv2
              have HCh9 := Lib.hid (fun (W : World) (h : Below w.heap.size w W) => changed_any (L : Int) (B : Int) (I : Int) dp df es a ca w2 ((av % w2.size : Nat) : Int) ((lv % L : Nat) : Int) W (SlAt.mono HE.out (Nat.le_refl _) h) HWn.out (by omega))
              rw [hce9] at HCh9
              obtain ⟨cl9, hcl8⟩ : ∃ k, (chOut (L : Int) (B : Int) (I : Int) dp df es w2 ((av % w2.size : Nat) : Int) ((lv % L : Nat) : Int)).length = k := ⟨_, rfl⟩
              rw [hcl8, HM.out] at hcl9
              have Hcl8 := Lib.hid hcl8
              have hszr : w.heap.size ≤ wr.heap.size := Hwr.out.size
              have hgr : g + 1 < wr.heap.size := by have := HBr.out.size; omega
              clear hw2 hs2 hfin hce9 hcl8 hlst hke hI5 HXs HF3 hlI hll
              go_upto_region 25 with (fail)
          
              obtain ⟨SS, hSe⟩ : ∃ SS : World → Prop, SS = fun W => W.cell? ⟨g, 0, none⟩ = some (.int .i64 (L : Int)) ∧ W.cell? ⟨g, 1, none⟩ = some (.int .i64 (B : Int)) ∧ W.cell? ⟨g, 2, none⟩ = some (.int .i64 (I : Int)) ∧ W.cell? ⟨g, 3, none⟩ = some (.slice p m.r c) := ⟨_, rfl⟩
              have HS : Hid (∀ W, Below wr.heap.size wr W → SS W) := Lib.hid (fun W hW => by
                rw [hSe]
                exact ⟨(hW.cell (p := ⟨g, 0, none⟩) (by show g < _; omega)).trans x0, (hW.cell (p := ⟨g, 1, none⟩) (by show g < _; omega)).trans x1, (hW.cell (p := ⟨g, 2, none⟩) (by show g < _; omega)).trans x2, (hW.cell (p := ⟨g, 3, none⟩) (by show g < _; omega)).trans x3⟩)
              have hd : Below wr.heap.size wr wr.drew := (Below.refl _ _).drew
              refine wp_region_held_drew (S := SS) (by kernel_rfl) (HS.out _ hd) (fun hSS => ?_)
              refine wpAnyH_take (i := 0) (v := ?_) rfl (by kernel_rfl) (by kernel_rfl) (by kernel_rfl) (fun _ _ _ h => h) (Or.inl ⟨by rfl, ?_⟩) (HS.out _ hd) ?_
              rotate_left 1
              next => intro w hSw; rw [hSe] at hSw; obtain ⟨s1, s2, s3, s4⟩ := hSw; go_simp; try with_reducible rfl
              try simp only [Act.put, List.getElem_toArray, List.getElem_cons_zero, List.getElem_cons_succ, List.setIfInBounds_toArray, List.set_cons_zero, List.set_cons_succ]
              refine wpAnyH_take (i := 1) (v := ?_) rfl (by kernel_rfl) (by kernel_rfl) (by kernel_rfl) (fun _ _ _ h => h) (Or.inl ⟨by rfl, ?_⟩) (HS.out _ hd) ?_
              rotate_left 1
              next => intro w hSw; rw [hSe] at hSw; obtain ⟨s1, s2, s3, s4⟩ := hSw; go_simp; try with_reducible rfl
              try simp only [Act.put, List.getElem_toArray, List.getElem_cons_zero, List.getElem_cons_succ, List.setIfInBounds_toArray, List.set_cons_zero, List.set_cons_succ]
              refine wpAnyH_take (i := 2) (v := ?_) rfl (by kernel_rfl) (by kernel_rfl) (by kernel_rfl) (fun _ _ _ h => h) (Or.inl ⟨by rfl, ?_⟩) (HS.out _ hd) ?_
              rotate_left 1
              next => intro w hSw; rw [hSe] at hSw; obtain ⟨s1, s2, s3, s4⟩ := hSw; go_simp; try with_reducible rfl
              try simp only [Act.put, List.getElem_toArray, List.getElem_cons_zero, List.getElem_cons_succ, List.setIfInBounds_toArray, List.set_cons_zero, List.set_cons_succ]
              refine wpAnyH_take (i := 3) (v := ?_) rfl (by kernel_rfl) (by kernel_rfl) (by kernel_rfl) (fun _ _ _ h => h) (Or.inl ⟨by rfl, ?_⟩) (HS.out _ hd) ?_
              rotate_left 1
              next => intro w hSw; rw [hSe] at hSw; obtain ⟨s1, s2, s3, s4⟩ := hSw; go_simp; try with_reducible rfl
              try simp only [Act.put, List.getElem_toArray, List.getElem_cons_zero, List.getElem_cons_succ, List.setIfInBounds_toArray, List.set_cons_zero, List.set_cons_succ]
              refine wpAnyH_take (i := 4) (v := ?_) rfl (by kernel_rfl) (by kernel_rfl) (by kernel_rfl) (fun _ _ _ h => h) (Or.inl ⟨by rfl, ?_⟩) (HS.out _ hd) ?_
              rotate_left 1
              next => intro w hSw; rw [hSe] at hSw; obtain ⟨s1, s2, s3, s4⟩ := hSw; go_simp; try with_reducible rfl
              try simp only [Act.put, List.getElem_toArray, List.getElem_cons_zero, List.getElem_cons_succ, List.setIfInBounds_toArray, List.set_cons_zero, List.set_cons_succ]
              refine wpAnyH_take (i := 5) (v := ?_) rfl (by kernel_rfl) (by kernel_rfl) (by kernel_rfl) (fun _ _ _ h => h) (Or.inl ⟨by rfl, ?_⟩) (HS.out _ hd) ?_
              rotate_left 1
              next => intro w hSw; rw [hSe] at hSw; obtain ⟨s1, s2, s3, s4⟩ := hSw; go_simp; try with_reducible rfl
              try simp only [Act.put, List.getElem_toArray, List.getElem_cons_zero, List.getElem_cons_succ, List.setIfInBounds_toArray, List.set_cons_zero, List.set_cons_succ]
              refine wpAnyH_take (i := 6) (v := ?_) rfl (by kernel_rfl) (by kernel_rfl) (by kernel_rfl) (fun _ _ _ h => h) (Or.inl ⟨by rfl, ?_⟩) (HS.out _ hd) ?_
              rotate_left 1
              next => intro w hSw; rw [hSe] at hSw; obtain ⟨s1, s2, s3, s4⟩ := hSw; go_simp; try with_reducible rfl
              try simp only [Act.put, List.getElem_toArray, List.getElem_cons_zero, List.getElem_cons_succ, List.setIfInBounds_toArray, List.set_cons_zero, List.set_cons_succ]
              refine wpAnyH_take (i := 7) (v := ?_) rfl (by kernel_rfl) (by kernel_rfl) (by kernel_rfl) (fun _ _ _ h => h) (Or.inl ⟨by rfl, ?_⟩) (HS.out _ hd) ?_
              rotate_left 1
              next => intro w hSw; rw [hSe] at hSw; obtain ⟨s1, s2, s3, s4⟩ := hSw; go_simp; try with_reducible rfl
              try simp only [Act.put, List.getElem_toArray, List.getElem_cons_zero, List.getElem_cons_succ, List.setIfInBounds_toArray, List.set_cons_zero, List.set_cons_succ]
              try simp only [Act.put, List.getElem_toArray, List.getElem_cons_zero, List.getElem_cons_succ, List.setIfInBounds_toArray, List.set_cons_zero, List.set_cons_succ]
              refine wpAnyH_ready (rs := [8]) (by kernel_rfl) (by simp) ?_
              refine AllReadyH.cons rfl (fun K hK => ?_) AllReadyH.nil
              go_simp
              rw [HM1.out]
              refine (HEn.out _ hd).mono ?_
              rintro e X25 ⟨rfl, hbc⟩
              have hb25 : Below wr.heap.size wr X25 := hd.trans (hbc.mono hd.size)
              dsimp only
              refine hK.out _ _ (HS.out _ hb25) (fun _ => ?_)
              clear hK K hbc
              refine wpAnyH_take (i := 9) (v := ?_) rfl (by kernel_rfl) (by kernel_rfl) (by kernel_rfl) (fun _ _ _ h => h) (Or.inl ⟨by rfl, ?_⟩) (HS.out _ hb25) ?_
              rotate_left 1
              next => intro w hSw; rw [hSe] at hSw; obtain ⟨s1, s2, s3, s4⟩ := hSw; go_simp; try with_reducible rfl
              try simp only [Act.put, List.getElem_toArray, List.getElem_cons_zero, List.getElem_cons_succ, List.setIfInBounds_toArray, List.set_cons_zero, List.set_cons_succ]
              refine wpAnyH_take (i := 10) (v := ?_) rfl (by kernel_rfl) (by kernel_rfl) (by kernel_rfl) (fun _ _ _ h => h) (Or.inl ⟨by rfl, ?_⟩) (HS.out _ hb25) ?_
              rotate_left 1
              next => intro w hSw; rw [hSe] at hSw; obtain ⟨s1, s2, s3, s4⟩ := hSw; go_simp; try with_reducible rfl
              try simp only [Act.put, List.getElem_toArray, List.getElem_cons_zero, List.getElem_cons_succ, List.setIfInBounds_toArray, List.set_cons_zero, List.set_cons_succ]
              refine wpAnyH_take (i := 11) (v := ?_) rfl (by kernel_rfl) (by kernel_rfl) (by kernel_rfl) (fun _ _ _ h => h) (Or.inl ⟨by rfl, ?_⟩) (HS.out _ hb25) ?_
              rotate_left 1
              next => intro w hSw; rw [hSe] at hSw; obtain ⟨s1, s2, s3, s4⟩ := hSw; go_simp; try with_reducible rfl
              try simp only [Act.put, List.getElem_toArray, List.getElem_cons_zero, List.getElem_cons_succ, List.setIfInBounds_toArray, List.set_cons_zero, List.set_cons_succ]
              refine wpAnyH_take (i := 12) (v := ?_) rfl (by kernel_rfl) (by kernel_rfl) (by kernel_rfl) (fun _ _ _ h => h) (Or.inl ⟨by rfl, ?_⟩) (HS.out _ hb25) ?_
              rotate_left 1
              next => intro w hSw; rw [hSe] at hSw; obtain ⟨s1, s2, s3, s4⟩ := hSw; go_simp; try with_reducible rfl
              try simp only [Act.put, List.getElem_toArray, List.getElem_cons_zero, List.getElem_cons_succ, List.setIfInBounds_toArray, List.set_cons_zero, List.set_cons_succ]
              refine wpAnyH_take (i := 13) (v := ?_) rfl (by kernel_rfl) (by kernel_rfl) (by kernel_rfl) (fun _ _ _ h => h) (Or.inl ⟨by rfl, ?_⟩) (HS.out _ hb25) ?_
              rotate_left 1
              next => intro w hSw; rw [hSe] at hSw; obtain ⟨s1, s2, s3, s4⟩ := hSw; go_simp; try with_reducible rfl
              try simp only [Act.put, List.getElem_toArray, List.getElem_cons_zero, List.getElem_cons_succ, List.setIfInBounds_toArray, List.set_cons_zero, List.set_cons_succ]
              refine wpAnyH_take (i := 14) (v := ?_) rfl (by kernel_rfl) (by kernel_rfl) (by kernel_rfl) (fun _ _ _ h => h) (Or.inl ⟨by rfl, ?_⟩) (HS.out _ hb25) ?_
              rotate_left 1
              next => intro w hSw; rw [hSe] at hSw; obtain ⟨s1, s2, s3, s4⟩ := hSw; go_simp; try with_reducible rfl
              try simp only [Act.put, List.getElem_toArray, List.getElem_cons_zero, List.getElem_cons_succ, List.setIfInBounds_toArray, List.set_cons_zero, List.set_cons_succ]
              refine wpAnyH_take (i := 15) (v := ?_) rfl (by kernel_rfl) (by kernel_rfl) (by kernel_rfl) (fun _ _ _ h => h) (Or.inl ⟨by rfl, ?_⟩) (HS.out _ hb25) ?_
              rotate_left 1
              next => intro w hSw; rw [hSe] at hSw; obtain ⟨s1, s2, s3, s4⟩ := hSw; go_simp; try with_reducible rfl
              try simp only [Act.put, List.getElem_toArray, List.getElem_cons_zero, List.getElem_cons_succ, List.setIfInBounds_toArray, List.set_cons_zero, List.set_cons_succ]
              refine wpAnyH_done (by kernel_rfl) ?_ _

              have hw2z : ((w2.size : Int) == 0) = false := by rw [beq_eq_false_iff_ne]; omega
              have hw2n : ¬ (w2.size : Int) = 0 := by omega
              have hw2m : ¬ w2.size = 0 := by omega
              have hLn : ¬ (L : Int) = 0 := by omega
              have hLm : ¬ L = 0 := by omega
              have HB25 := Lib.hid (HBr.out.trans (hb25.mono (by omega)))
              have Hw25 := Lib.hid (HbV.out.trans (HB25.out.mono HbV.out.size))
              clear hb25 HS hd hSe x0 x1 x2 x3 y0 y1 y2 y3 y4 y5 HEn Ho Hb
              obtain ⟨⟨x0, x1, x2, x3⟩, y0, y1, y2, y3, y4, y5⟩ := HX.out _ HB25.out
              go_upto_region 28 with (fail)
              obtain ⟨SS, hSe⟩ : ∃ SS : World → Prop, SS = fun W => W.cell? ⟨g, 0, none⟩ = some (.int .i64 (L : Int)) ∧ W.cell? ⟨g + 1, 0, none⟩ = some (.int .i64 (L : Int)) ∧ W.cell? ⟨g + 1, 1, none⟩ = some (.int .i64 (B : Int)) ∧ W.cell? ⟨g + 1, 2, none⟩ = some (.int .i64 (I : Int)) ∧ W.cell? ⟨g + 1, 3, none⟩ = some (.int .i64 dp) ∧ W.cell? ⟨g + 1, 4, none⟩ = some (.int .i64 df) ∧ W.cell? ⟨g + 1, 5, none⟩ = some (.slice a es.length ca) := ⟨_, rfl⟩
              have hg25 : g + 1 < X25.heap.size := by have := HB25.out.size; omega
              have HS : Hid (∀ W, Below X25.heap.size X25 W → SS W) := Lib.hid (fun W hW => by
                rw [hSe]
                exact ⟨(hW.cell (p := ⟨g, 0, none⟩) (by show g < _; omega)).trans x0, (hW.cell (p := ⟨g + 1, 0, none⟩) (by show g + 1 < _; omega)).trans y0, (hW.cell (p := ⟨g + 1, 1, none⟩) (by show g + 1 < _; omega)).trans y1, (hW.cell (p := ⟨g + 1, 2, none⟩) (by show g + 1 < _; omega)).trans y2, (hW.cell (p := ⟨g + 1, 3, none⟩) (by show g + 1 < _; omega)).trans y3, (hW.cell (p := ⟨g + 1, 4, none⟩) (by show g + 1 < _; omega)).trans y4, (hW.cell (p := ⟨g + 1, 5, none⟩) (by show g + 1 < _; omega)).trans y5⟩)
              have hd : Below X25.heap.size X25 X25.drew := (Below.refl _ _).drew
              refine wp_region_held_drew (S := SS) (by kernel_rfl) (HS.out _ hd) (fun hSS => ?_)
              refine wpAnyH_take (i := 0) (v := ?_) rfl (by kernel_rfl) (by kernel_rfl) (by kernel_rfl) (fun _ _ _ h => h) (Or.inl ⟨by rfl, ?_⟩) (HS.out _ hd) ?_
              rotate_left 1
              next => intro w hSw; rw [hSe] at hSw; obtain ⟨s1, s2, s3, s4, s5, s6, s7⟩ := hSw; go_simp; try with_reducible rfl
              try simp only [Act.put, List.getElem_toArray, List.getElem_cons_zero, List.getElem_cons_succ, List.setIfInBounds_toArray, List.set_cons_zero, List.set_cons_succ]
              refine wpAnyH_take (i := 1) (v := ?_) rfl (by kernel_rfl) (by kernel_rfl) (by kernel_rfl) (fun _ _ _ h => h) (Or.inl ⟨by rfl, ?_⟩) (HS.out _ hd) ?_
              rotate_left 1
              next => intro w hSw; rw [hSe] at hSw; obtain ⟨s1, s2, s3, s4, s5, s6, s7⟩ := hSw; go_simp; try with_reducible rfl
              try simp only [Act.put, List.getElem_toArray, List.getElem_cons_zero, List.getElem_cons_succ, List.setIfInBounds_toArray, List.set_cons_zero, List.set_cons_succ]
              refine wpAnyH_take (i := 2) (v := ?_) rfl (by kernel_rfl) (by kernel_rfl) (by kernel_rfl) (fun _ _ _ h => h) (Or.inl ⟨by rfl, ?_⟩) (HS.out _ hd) ?_
              rotate_left 1
              next => intro w hSw; rw [hSe] at hSw; obtain ⟨s1, s2, s3, s4, s5, s6, s7⟩ := hSw; go_simp; try with_reducible rfl
              try simp only [Act.put, List.getElem_toArray, List.getElem_cons_zero, List.getElem_cons_succ, List.setIfInBounds_toArray, List.set_cons_zero, List.set_cons_succ]
              refine wpAnyH_take (i := 3) (v := ?_) rfl (by kernel_rfl) (by kernel_rfl) (by kernel_rfl) (fun _ _ _ h => h) (Or.inl ⟨by rfl, ?_⟩) (HS.out _ hd) ?_
              rotate_left 1
              next => intro w hSw; rw [hSe] at hSw; obtain ⟨s1, s2, s3, s4, s5, s6, s7⟩ := hSw; go_simp; try with_reducible rfl
              try simp only [Act.put, List.getElem_toArray, List.getElem_cons_zero, List.getElem_cons_succ, List.setIfInBounds_toArray, List.set_cons_zero, List.set_cons_succ]
              refine wpAnyH_take (i := 4) (v := ?_) rfl (by kernel_rfl) (by kernel_rfl) (by kernel_rfl) (fun _ _ _ h => h) (Or.inl ⟨by rfl, ?_⟩) (HS.out _ hd) ?_
              rotate_left 1
              next => intro w hSw; rw [hSe] at hSw; obtain ⟨s1, s2, s3, s4, s5, s6, s7⟩ := hSw; go_simp; try with_reducible rfl
              try simp only [Act.put, List.getElem_toArray, List.getElem_cons_zero, List.getElem_cons_succ, List.setIfInBounds_toArray, List.set_cons_zero, List.set_cons_succ]
              refine wpAnyH_take (i := 5) (v := ?_) rfl (by kernel_rfl) (by kernel_rfl) (by kernel_rfl) (fun _ _ _ h => h) (Or.inl ⟨by rfl, ?_⟩) (HS.out _ hd) ?_
              rotate_left 1
              next => intro w hSw; rw [hSe] at hSw; obtain ⟨s1, s2, s3, s4, s5, s6, s7⟩ := hSw; go_simp; try with_reducible rfl
              try simp only [Act.put, List.getElem_toArray, List.getElem_cons_zero, List.getElem_cons_succ, List.setIfInBounds_toArray, List.set_cons_zero, List.set_cons_succ]
              refine wpAnyH_take (i := 6) (v := ?_) rfl (by kernel_rfl) (by kernel_rfl) (by kernel_rfl) (fun _ _ _ h => h) (Or.inl ⟨by rfl, ?_⟩) (HS.out _ hd) ?_
              rotate_left 1
              next => intro w hSw; rw [hSe] at hSw; obtain ⟨s1, s2, s3, s4, s5, s6, s7⟩ := hSw; go_simp; try with_reducible rfl
              try simp only [Act.put, List.getElem_toArray, List.getElem_cons_zero, List.getElem_cons_succ, List.setIfInBounds_toArray, List.set_cons_zero, List.set_cons_succ]
              refine wpAnyH_take (i := 7) (v := ?_) rfl (by kernel_rfl) (by kernel_rfl) (by kernel_rfl) (fun _ _ _ h => h) (Or.inl ⟨by rfl, ?_⟩) (HS.out _ hd) ?_
              rotate_left 1
              next => intro w hSw; rw [hSe] at hSw; obtain ⟨s1, s2, s3, s4, s5, s6, s7⟩ := hSw; go_simp; try with_reducible rfl
              try simp only [Act.put, List.getElem_toArray, List.getElem_cons_zero, List.getElem_cons_succ, List.setIfInBounds_toArray, List.set_cons_zero, List.set_cons_succ]
              refine wpAnyH_take (i := 8) (v := ?_) rfl (by kernel_rfl) (by kernel_rfl) (by kernel_rfl) (fun _ _ _ h => h) (Or.inl ⟨by rfl, ?_⟩) (HS.out _ hd) ?_
              rotate_left 1
              next => intro w hSw; rw [hSe] at hSw; obtain ⟨s1, s2, s3, s4, s5, s6, s7⟩ := hSw; go_simp; try with_reducible rfl
              try simp only [Act.put, List.getElem_toArray, List.getElem_cons_zero, List.getElem_cons_succ, List.setIfInBounds_toArray, List.set_cons_zero, List.set_cons_succ]
              refine wpAnyH_take (i := 9) (v := ?_) rfl (by kernel_rfl) (by kernel_rfl) (by kernel_rfl) (fun _ _ _ h => h) (Or.inl ⟨by rfl, ?_⟩) (HS.out _ hd) ?_
              rotate_left 1
              next => intro w hSw; rw [hSe] at hSw; obtain ⟨s1, s2, s3, s4, s5, s6, s7⟩ := hSw; go_simp; try with_reducible rfl
              try simp only [Act.put, List.getElem_toArray, List.getElem_cons_zero, List.getElem_cons_succ, List.setIfInBounds_toArray, List.set_cons_zero, List.set_cons_succ]
              refine wpAnyH_take (i := 10) (v := ?_) rfl (by kernel_rfl) (by kernel_rfl) (by kernel_rfl) (fun _ _ _ h => h) (Or.inl ⟨by rfl, ?_⟩) (HS.out _ hd) ?_
              rotate_left 1
              next => intro w hSw; rw [hSe] at hSw; obtain ⟨s1, s2, s3, s4, s5, s6, s7⟩ := hSw; go_simp; try with_reducible rfl
              try simp only [Act.put, List.getElem_toArray, List.getElem_cons_zero, List.getElem_cons_succ, List.setIfInBounds_toArray, List.set_cons_zero, List.set_cons_succ]
              refine wpAnyH_take (i := 11) (v := ?_) rfl (by kernel_rfl) (by kernel_rfl) (by kernel_rfl) (fun _ _ _ h => h) (Or.inl ⟨by rfl, ?_⟩) (HS.out _ hd) ?_
              rotate_left 1
              next => intro w hSw; rw [hSe] at hSw; obtain ⟨s1, s2, s3, s4, s5, s6, s7⟩ := hSw; go_simp; try with_reducible rfl
              try simp only [Act.put, List.getElem_toArray, List.getElem_cons_zero, List.getElem_cons_succ, List.setIfInBounds_toArray, List.set_cons_zero, List.set_cons_succ]
              try simp only [Act.put, List.getElem_toArray, List.getElem_cons_zero, List.getElem_cons_succ, List.setIfInBounds_toArray, List.set_cons_zero, List.set_cons_succ]
              refine wpAnyH_ready (rs := [12]) (by kernel_rfl) (by simp) ?_
              refine AllReadyH.cons rfl (fun K hK => ?_) AllReadyH.nil
              go_simp
              rw [HM2.out, HM3.out]
              refine (HCh9.out _ (Hw25.out.trans (hd.mono Hw25.out.size))).mono ?_
              rintro e X28 ⟨v9, rfl, ho28, hbc⟩
              obtain ⟨p28, c28, rfl, _, _, _⟩ := ho28.form
              have hb28 : Below X25.heap.size X25 X28 := hd.trans (hbc.mono hd.size)
              rw [Hcl8.out]
              dsimp only
              refine hK.out _ _ (HS.out _ hb28) (fun _ => ?_)
              clear hK K hbc ho28
              refine wpAnyH_take (i := 13) (v := ?_) rfl (by kernel_rfl) (by kernel_rfl) (by kernel_rfl) (fun _ _ _ h => h) (Or.inl ⟨by rfl, ?_⟩) (HS.out _ hb28) ?_
              rotate_left 1
              next => intro w hSw; rw [hSe] at hSw; obtain ⟨s1, s2, s3, s4, s5, s6, s7⟩ := hSw; go_simp; try with_reducible rfl
              try simp only [Act.put, List.getElem_toArray, List.getElem_cons_zero, List.getElem_cons_succ, List.setIfInBounds_toArray, List.set_cons_zero, List.set_cons_succ]
              refine wpAnyH_take (i := 14) (v := ?_) rfl (by kernel_rfl) (by kernel_rfl) (by kernel_rfl) (fun _ _ _ h => h) (Or.inl ⟨by rfl, ?_⟩) (HS.out _ hb28) ?_
              rotate_left 1
              next => intro w hSw; rw [hSe] at hSw; obtain ⟨s1, s2, s3, s4, s5, s6, s7⟩ := hSw; go_simp; try with_reducible rfl
              try simp only [Act.put, List.getElem_toArray, List.getElem_cons_zero, List.getElem_cons_succ, List.setIfInBounds_toArray, List.set_cons_zero, List.set_cons_succ]
              refine wpAnyH_take (i := 15) (v := ?_) rfl (by kernel_rfl) (by kernel_rfl) (by kernel_rfl) (fun _ _ _ h => h) (Or.inl ⟨by rfl, ?_⟩) (HS.out _ hb28) ?_
              rotate_left 1
              next => intro w hSw; rw [hSe] at hSw; obtain ⟨s1, s2, s3, s4, s5, s6, s7⟩ := hSw; go_simp; try with_reducible rfl
              try simp only [Act.put, List.getElem_toArray, List.getElem_cons_zero, List.getElem_cons_succ, List.setIfInBounds_toArray, List.set_cons_zero, List.set_cons_succ]
              refine wpAnyH_take (i := 16) (v := ?_) rfl (by kernel_rfl) (by kernel_rfl) (by kernel_rfl) (fun _ _ _ h => h) (Or.inl ⟨by rfl, ?_⟩) (HS.out _ hb28) ?_
              rotate_left 1
              next => intro w hSw; rw [hSe] at hSw; obtain ⟨s1, s2, s3, s4, s5, s6, s7⟩ := hSw; go_simp; try with_reducible rfl
              try simp only [Act.put, List.getElem_toArray, List.getElem_cons_zero, List.getElem_cons_succ, List.setIfInBounds_toArray, List.set_cons_zero, List.set_cons_succ]
              refine wpAnyH_take (i := 17) (v := ?_) rfl (by kernel_rfl) (by kernel_rfl) (by kernel_rfl) (fun _ _ _ h => h) (Or.inl ⟨by rfl, ?_⟩) (HS.out _ hb28) ?_
              rotate_left 1
              next => intro w hSw; rw [hSe] at hSw; obtain ⟨s1, s2, s3, s4, s5, s6, s7⟩ := hSw; go_simp; try with_reducible rfl
              try simp only [Act.put, List.getElem_toArray, List.getElem_cons_zero, List.getElem_cons_succ, List.setIfInBounds_toArray, List.set_cons_zero, List.set_cons_succ]
              refine wpAnyH_done (by kernel_rfl) ?_ _

              have hle : (cl9 : Int) ≤ (M : Int) := by omega
              have Hw28 := Lib.hid (Hw25.out.trans (hb28.mono Hw25.out.size))
              clear hb28 HS hd hSe x0 x1 x2 x3 y0 y1 y2 y3 y4 y5 HCh9
              go_wp2_with (go_at_call 18; refine (awake_any _).mono ?_; rintro e w9 ⟨rfl, hb⟩; have Hb9 := Lib.hid hb; clear hb)
              go_ret
              exact ⟨rfl, by first | exact Hw28.out.trans (Hb9.out.mono Hw28.out.size) | (rw [← hg]; exact Hw28.out.trans (Hb9.out.mono Hw28.out.size))⟩
        · skip
          have hw5 := HWv2.out
          rw [if_neg (by omega)] at hw5
          simp only [Value.tuple.injEq, Array.mk.injEq, List.cons.injEq, Value.string.injEq, Value.int.injEq, true_and, and_true] at hw5
          obtain ⟨rfl, rfl, rfl, rfl⟩ := hw5
          have HCh := Lib.hid (fun (W : World) (h : Below w.heap.size w W) => changed_any (L : Int) (B : Int) (I : Int) dp df es a ca (wsF ps).w (wsF ps).a (wsF ps).c W (SlAt.mono HE.out (Nat.le_refl _) h) HWn.out (by omega))
          rw [hce] at HCh
          rw [HM.out] at hcl
          clear hng HWv2 hce hcz
          go_wp2_with fail
          refine (HCh.out _ Hw11.out).mono ?_
          rintro e W12 ⟨v9, rfl, ho9, hb⟩
          dsimp only
          obtain ⟨p9, c9, rfl, _, _, _⟩ := ho9.form
          rw [hcl]
          clear ho9 HCh hcl
          have HB12 := Lib.hid (HB11.out.trans (hb.mono HB11.out.size))
          have Hw12 := Lib.hid (HbV.out.trans (HB12.out.mono HbV.out.size))
          clear hb x0 x1 x2 x3 y0 y1 y2 y3 y4 y5
          obtain ⟨⟨x0, x1, x2, x3⟩, y0, y1, y2, y3, y4, y5⟩ := HX.out _ HB12.out
          go_upto_region 20 with (fail)
          have i0 : ¬ (I : Int) = 0 := by omega
          have i00 : ¬ I = 0 := by omega
          have ipos : (0 : Int) < (I : Int) := by omega
          obtain ⟨NX, hNX⟩ : ∃ k, xs.length = k := ⟨_, rfl⟩
          have HNX := Lib.hid hNX
          have hs9 : V.heap.size ≤ W12.heap.size := HB12.out.size
          have hwV : w.heap.size ≤ V.heap.size := HbV.out.size
          rw [hNX] at hxl6 hxl1 ⊢
          obtain ⟨ls, hls⟩ : ∃ l, xs.map (· % I) = l := ⟨_, rfl⟩
          have hll : ls.length = NX := by rw [← hls, List.length_map, HNX.out]
          have HLs : Hid (∀ k, k < NX → ls.getD k 0 = xs.getD k 0 % I) := Lib.hid (fun k hk => by
            rw [← hls, List.getD_eq_getElem?_getD, List.getD_eq_getElem?_getD, List.getElem?_map, List.getElem?_eq_getElem (by rw [HNX.out]; exact hk)]; rfl)
          have hlI : ∀ x ∈ ls, x < I := fun x hx => by
            rw [← hls] at hx
            obtain ⟨y, _, rfl⟩ := List.mem_map.1 hx
            exact Nat.mod_lt _ (by omega)
          have HlI := Lib.hid hlI
          have Hll := Lib.hid hll
          clear hNX hxl hn1 hn6 hls hlI hll
          go_wp2
          go_loopw [26, 148] (fun ov kv wr => ∃ k : Nat, k ≤ NX ∧ kv = .int .i64 (k : Nat) ∧ Hid (OwnInts wr W12.heap.size ov (intsN (ls.take k))) ∧ Hid (Below W12.heap.size W12 wr)) (fun _ kv _ => NX - (intOf kv).toNat)
          case atStart => exact ⟨0, by omega, by go_num, Lib.hid (OwnInts.nil _ _), Lib.hid (Below.refl _ _)⟩
          case round =>
            clear x0 x1 x2 x3 y0 y1 y2 y3 y4 y5
            obtain ⟨k, hk, rfl, Ho, Hb⟩ := hrel
            have HBr := Lib.hid (HB12.out.trans (Hb.out.mono hs9))
            have Hwr := Lib.hid (HbV.out.trans (HBr.out.mono HbV.out.size))
            obtain ⟨⟨x0, x1, x2, x3⟩, y0, y1, y2, y3, y4, y5⟩ := HX.out _ HBr.out
            by_cases hlt : k < NX
            · obtain ⟨ab, ao, rfl, hab, hca⟩ := (HXs.out.below (Nat.le_refl _) Hwr.out).cells (k := k) (by rw [HNX.out]; exact hlt)
              have hxa := hca k (by rw [HNX.out]; exact hlt)
              obtain ⟨x, hx⟩ : ∃ x, xs.getD k 0 = x := ⟨_, rfl⟩
              have hx2 := hx256 x (by rw [← hx, List.getD_eq_getElem?_getD, List.getElem?_eq_getElem (by rw [HNX.out]; exact hlt)]; exact List.getElem_mem _)
              have hst : intsN (ls.take (k + 1)) = intsN (ls.take k) ++ [((x % I : Nat) : Int)] := by
                have h9 := HLs.out k hlt
                rw [hx, List.getD_eq_getElem?_getD, List.getElem?_eq_getElem (by rw [Hll.out]; exact hlt)] at h9
                have e9 : ls.take (k + 1) = ls.take k ++ [x % I] := by
                  rw [List.take_add_one, List.getElem?_eq_getElem (by rw [Hll.out]; exact hlt), ← h9]; rfl
                rw [e9]
                unfold intsN
                rw [List.map_append]
                rfl
              have Hst := Lib.hid hst
              rw [hx] at hxa
              have hol : (intsN (ls.take k)).length = k := by rw [intsN_len, List.length_take, Hll.out]; omega
              have k0 : (0 : Int) ≤ (k : Int) := by omega
              have k1 : (k : Int) < (NX : Int) := by omega
              have x0' : (0 : Int) ≤ (x : Int) := by omega
              clear hca hx hst
              go_wp2_with (at_builtin; refine wpList_append_int rfl _ _ rfl W12.heap.size _ _ rfl (Ho.out.alloc _) wr.heap.size 1 ((x % I : Nat) : Int) rfl (by first | exact cell_new0 _ _ _ | simp) ?_ ?_ ?_)
              · rw [hol]; omega
              · have := Hb.out.size; (try simp); omega
              · intro v' w4 hown2 hgrow
                have HbN := Lib.hid (below_append (Hb.out.alloc (by have := Hb.out.size; omega) _) (Ho.out.alloc _) hgrow (by have := Hb.out.size; simp; omega) (Nat.le_refl _))
                have HoN : Hid (OwnInts w4 W12.heap.size v' (intsN (ls.take (k + 1)))) := Lib.hid (by rw [Hst.out]; exact hown2)
                clear hown2 hgrow
                go_wp2
                go_roundw
                case rel => exact ⟨k + 1, by omega, by go_num, HoN, HbN⟩
                case measure => simp [intOf]; omega
            · have k1 : ¬ (k : Int) < (NX : Int) := by omega
              have hke : k = NX := by omega
              have hlst : ls.take k = ls := by rw [hke, ← Hll.out, List.take_length]
              obtain ⟨p5, c5, hu5, _, hI5, _⟩ := Ho.out.form
              rw [hlst] at hI5 hu5
              subst hu5
              have hll := Hll.out
              have hlI := HlI.out
              rw [intsN_len, hll]
              have hsm : sv % m.r < m.r := Nat.mod_lt _ r1
              have hr0 : ¬ (m.r : Int) = 0 := by omega
              have hr00 : ¬ m.r = 0 := by omega
              have HEn := Lib.hid (fun (W : World) (h : Below wr.heap.size wr W) => encode_any (L : Int) (B : Int) (I : Int) m p c (sv % m.r) p5 c5 ls W (HA.out.below (Nat.le_refl _) (Hwr.out.trans (h.mono Hwr.out.size))) HF.out Hhe.out hsm (hI5.below (Nat.le_refl _) h) (fun x hx => by have := hlI x hx; omega) (by omega))
              rw [hll] at HEn
              obtain ⟨w2, hw2⟩ : ∃ x, (encW m (sv % m.r) ls ByteArray.empty).1 = x := ⟨_, rfl⟩
              obtain ⟨s2, hs2⟩ : ∃ x, (encW m (sv % m.r) ls ByteArray.empty).2 = x := ⟨_, rfl⟩
              have hfin := HF3.out (sv % m.r) ls hsm (by rw [hll, HNX.out]) hlI
              rw [hw2] at hfin HEn
              rw [hs2] at HEn
              obtain ⟨hw20, hw21, hfin⟩ := hfin
              have HM1 := Lib.hid (modW sv m.r hsv)
              have HM2 := Lib.hid (modW av w2.size hav)
              have HM3 := Lib.hid (modW lv L hlv)
              have hav2 : av % w2.size < w2.size := Nat.mod_lt _ hw20
              have hlv2 : lv % L < L := Nat.mod_lt _ (by omega)
              obtain ⟨hce9, hcl9⟩ := hfin _ _ hav2 hlv2
              have HCh9 := Lib.hid (fun (W : World) (h : Below w.heap.size w W) => changed_any (L : Int) (B : Int) (I : Int) dp df es a ca w2 ((av % w2.size : Nat) : Int) ((lv % L : Nat) : Int) W (SlAt.mono HE.out (Nat.le_refl _) h) HWn.out (by omega))
              rw [hce9] at HCh9
              obtain ⟨cl9, hcl8⟩ : ∃ k, (chOut (L : Int) (B : Int) (I : Int) dp df es w2 ((av % w2.size : Nat) : Int) ((lv % L : Nat) : Int)).length = k := ⟨_, rfl⟩
              rw [hcl8, HM.out] at hcl9
              have Hcl8 := Lib.hid hcl8
              have hszr : w.heap.size ≤ wr.heap.size := Hwr.out.size
              have hgr : g + 1 < wr.heap.size := by have := HBr.out.size; omega
              clear hw2 hs2 hfin hce9 hcl8 hlst hke hI5 HXs HF3 hlI hll
              go_upto_region 25 with (fail)
          
              obtain ⟨SS, hSe⟩ : ∃ SS : World → Prop, SS = fun W => W.cell? ⟨g, 0, none⟩ = some (.int .i64 (L : Int)) ∧ W.cell? ⟨g, 1, none⟩ = some (.int .i64 (B : Int)) ∧ W.cell? ⟨g, 2, none⟩ = some (.int .i64 (I : Int)) ∧ W.cell? ⟨g, 3, none⟩ = some (.slice p m.r c) := ⟨_, rfl⟩
              have HS : Hid (∀ W, Below wr.heap.size wr W → SS W) := Lib.hid (fun W hW => by
                rw [hSe]
                exact ⟨(hW.cell (p := ⟨g, 0, none⟩) (by show g < _; omega)).trans x0, (hW.cell (p := ⟨g, 1, none⟩) (by show g < _; omega)).trans x1, (hW.cell (p := ⟨g, 2, none⟩) (by show g < _; omega)).trans x2, (hW.cell (p := ⟨g, 3, none⟩) (by show g < _; omega)).trans x3⟩)
              have hd : Below wr.heap.size wr wr.drew := (Below.refl _ _).drew
              refine wp_region_held_drew (S := SS) (by kernel_rfl) (HS.out _ hd) (fun hSS => ?_)
              refine wpAnyH_take (i := 0) (v := ?_) rfl (by kernel_rfl) (by kernel_rfl) (by kernel_rfl) (fun _ _ _ h => h) (Or.inl ⟨by rfl, ?_⟩) (HS.out _ hd) ?_
              rotate_left 1
              next => intro w hSw; rw [hSe] at hSw; obtain ⟨s1, s2, s3, s4⟩ := hSw; go_simp; try with_reducible rfl
              try simp only [Act.put, List.getElem_toArray, List.getElem_cons_zero, List.getElem_cons_succ, List.setIfInBounds_toArray, List.set_cons_zero, List.set_cons_succ]
              refine wpAnyH_take (i := 1) (v := ?_) rfl (by kernel_rfl) (by kernel_rfl) (by kernel_rfl) (fun _ _ _ h => h) (Or.inl ⟨by rfl, ?_⟩) (HS.out _ hd) ?_
              rotate_left 1
              next => intro w hSw; rw [hSe] at hSw; obtain ⟨s1, s2, s3, s4⟩ := hSw; go_simp; try with_reducible rfl
              try simp only [Act.put, List.getElem_toArray, List.getElem_cons_zero, List.getElem_cons_succ, List.setIfInBounds_toArray, List.set_cons_zero, List.set_cons_succ]
              refine wpAnyH_take (i := 2) (v := ?_) rfl (by kernel_rfl) (by kernel_rfl) (by kernel_rfl) (fun _ _ _ h => h) (Or.inl ⟨by rfl, ?_⟩) (HS.out _ hd) ?_
              rotate_left 1
              next => intro w hSw; rw [hSe] at hSw; obtain ⟨s1, s2, s3, s4⟩ := hSw; go_simp; try with_reducible rfl
              try simp only [Act.put, List.getElem_toArray, List.getElem_cons_zero, List.getElem_cons_succ, List.setIfInBounds_toArray, List.set_cons_zero, List.set_cons_succ]
              refine wpAnyH_take (i := 3) (v := ?_) rfl (by kernel_rfl) (by kernel_rfl) (by kernel_rfl) (fun _ _ _ h => h) (Or.inl ⟨by rfl, ?_⟩) (HS.out _ hd) ?_
              rotate_left 1
              next => intro w hSw; rw [hSe] at hSw; obtain ⟨s1, s2, s3, s4⟩ := hSw; go_simp; try with_reducible rfl
              try simp only [Act.put, List.getElem_toArray, List.getElem_cons_zero, List.getElem_cons_succ, List.setIfInBounds_toArray, List.set_cons_zero, List.set_cons_succ]
              refine wpAnyH_take (i := 4) (v := ?_) rfl (by kernel_rfl) (by kernel_rfl) (by kernel_rfl) (fun _ _ _ h => h) (Or.inl ⟨by rfl, ?_⟩) (HS.out _ hd) ?_
              rotate_left 1
              next => intro w hSw; rw [hSe] at hSw; obtain ⟨s1, s2, s3, s4⟩ := hSw; go_simp; try with_reducible rfl
              try simp only [Act.put, List.getElem_toArray, List.getElem_cons_zero, List.getElem_cons_succ, List.setIfInBounds_toArray, List.set_cons_zero, List.set_cons_succ]
              refine wpAnyH_take (i := 5) (v := ?_) rfl (by kernel_rfl) (by kernel_rfl) (by kernel_rfl) (fun _ _ _ h => h) (Or.inl ⟨by rfl, ?_⟩) (HS.out _ hd) ?_
              rotate_left 1
              next => intro w hSw; rw [hSe] at hSw; obtain ⟨s1, s2, s3, s4⟩ := hSw; go_simp; try with_reducible rfl
              try simp only [Act.put, List.getElem_toArray, List.getElem_cons_zero, List.getElem_cons_succ, List.setIfInBounds_toArray, List.set_cons_zero, List.set_cons_succ]
              refine wpAnyH_take (i := 6) (v := ?_) rfl (by kernel_rfl) (by kernel_rfl) (by kernel_rfl) (fun _ _ _ h => h) (Or.inl ⟨by rfl, ?_⟩) (HS.out _ hd) ?_
              rotate_left 1
              next => intro w hSw; rw [hSe] at hSw; obtain ⟨s1, s2, s3, s4⟩ := hSw; go_simp; try with_reducible rfl
              try simp only [Act.put, List.getElem_toArray, List.getElem_cons_zero, List.getElem_cons_succ, List.setIfInBounds_toArray, List.set_cons_zero, List.set_cons_succ]
              refine wpAnyH_take (i := 7) (v := ?_) rfl (by kernel_rfl) (by kernel_rfl) (by kernel_rfl) (fun _ _ _ h => h) (Or.inl ⟨by rfl, ?_⟩) (HS.out _ hd) ?_
              rotate_left 1
              next => intro w hSw; rw [hSe] at hSw; obtain ⟨s1, s2, s3, s4⟩ := hSw; go_simp; try with_reducible rfl
              try simp only [Act.put, List.getElem_toArray, List.getElem_cons_zero, List.getElem_cons_succ, List.setIfInBounds_toArray, List.set_cons_zero, List.set_cons_succ]
              try simp only [Act.put, List.getElem_toArray, List.getElem_cons_zero, List.getElem_cons_succ, List.setIfInBounds_toArray, List.set_cons_zero, List.set_cons_succ]
              refine wpAnyH_ready (rs := [8]) (by kernel_rfl) (by simp) ?_
              refine AllReadyH.cons rfl (fun K hK => ?_) AllReadyH.nil
              go_simp
              rw [HM1.out]
              refine (HEn.out _ hd).mono ?_
              rintro e X25 ⟨rfl, hbc⟩
              have hb25 : Below wr.heap.size wr X25 := hd.trans (hbc.mono hd.size)
              dsimp only
              refine hK.out _ _ (HS.out _ hb25) (fun _ => ?_)
              clear hK K hbc
              refine wpAnyH_take (i := 9) (v := ?_) rfl (by kernel_rfl) (by kernel_rfl) (by kernel_rfl) (fun _ _ _ h => h) (Or.inl ⟨by rfl, ?_⟩) (HS.out _ hb25) ?_
              rotate_left 1
              next => intro w hSw; rw [hSe] at hSw; obtain ⟨s1, s2, s3, s4⟩ := hSw; go_simp; try with_reducible rfl
              try simp only [Act.put, List.getElem_toArray, List.getElem_cons_zero, List.getElem_cons_succ, List.setIfInBounds_toArray, List.set_cons_zero, List.set_cons_succ]
              refine wpAnyH_take (i := 10) (v := ?_) rfl (by kernel_rfl) (by kernel_rfl) (by kernel_rfl) (fun _ _ _ h => h) (Or.inl ⟨by rfl, ?_⟩) (HS.out _ hb25) ?_
              rotate_left 1
              next => intro w hSw; rw [hSe] at hSw; obtain ⟨s1, s2, s3, s4⟩ := hSw; go_simp; try with_reducible rfl
              try simp only [Act.put, List.getElem_toArray, List.getElem_cons_zero, List.getElem_cons_succ, List.setIfInBounds_toArray, List.set_cons_zero, List.set_cons_succ]
              refine wpAnyH_take (i := 11) (v := ?_) rfl (by kernel_rfl) (by kernel_rfl) (by kernel_rfl) (fun _ _ _ h => h) (Or.inl ⟨by rfl, ?_⟩) (HS.out _ hb25) ?_
              rotate_left 1
              next => intro w hSw; rw [hSe] at hSw; obtain ⟨s1, s2, s3, s4⟩ := hSw; go_simp; try with_reducible rfl
              try simp only [Act.put, List.getElem_toArray, List.getElem_cons_zero, List.getElem_cons_succ, List.setIfInBounds_toArray, List.set_cons_zero, List.set_cons_succ]
              refine wpAnyH_take (i := 12) (v := ?_) rfl (by kernel_rfl) (by kernel_rfl) (by kernel_rfl) (fun _ _ _ h => h) (Or.inl ⟨by rfl, ?_⟩) (HS.out _ hb25) ?_
              rotate_left 1
              next => intro w hSw; rw [hSe] at hSw; obtain ⟨s1, s2, s3, s4⟩ := hSw; go_simp; try with_reducible rfl
              try simp only [Act.put, List.getElem_toArray, List.getElem_cons_zero, List.getElem_cons_succ, List.setIfInBounds_toArray, List.set_cons_zero, List.set_cons_succ]
              refine wpAnyH_take (i := 13) (v := ?_) rfl (by kernel_rfl) (by kernel_rfl) (by kernel_rfl) (fun _ _ _ h => h) (Or.inl ⟨by rfl, ?_⟩) (HS.out _ hb25) ?_
              rotate_left 1
              next => intro w hSw; rw [hSe] at hSw; obtain ⟨s1, s2, s3, s4⟩ := hSw; go_simp; try with_reducible rfl
              try simp only [Act.put, List.getElem_toArray, List.getElem_cons_zero, List.getElem_cons_succ, List.setIfInBounds_toArray, List.set_cons_zero, List.set_cons_succ]
              refine wpAnyH_take (i := 14) (v := ?_) rfl (by kernel_rfl) (by kernel_rfl) (by kernel_rfl) (fun _ _ _ h => h) (Or.inl ⟨by rfl, ?_⟩) (HS.out _ hb25) ?_
              rotate_left 1
              next => intro w hSw; rw [hSe] at hSw; obtain ⟨s1, s2, s3, s4⟩ := hSw; go_simp; try with_reducible rfl
              try simp only [Act.put, List.getElem_toArray, List.getElem_cons_zero, List.getElem_cons_succ, List.setIfInBounds_toArray, List.set_cons_zero, List.set_cons_succ]
              refine wpAnyH_take (i := 15) (v := ?_) rfl (by kernel_rfl) (by kernel_rfl) (by kernel_rfl) (fun _ _ _ h => h) (Or.inl ⟨by rfl, ?_⟩) (HS.out _ hb25) ?_
              rotate_left 1
              next => intro w hSw; rw [hSe] at hSw; obtain ⟨s1, s2, s3, s4⟩ := hSw; go_simp; try with_reducible rfl
              try simp only [Act.put, List.getElem_toArray, List.getElem_cons_zero, List.getElem_cons_succ, List.setIfInBounds_toArray, List.set_cons_zero, List.set_cons_succ]
              refine wpAnyH_done (by kernel_rfl) ?_ _

              have hw2z : ((w2.size : Int) == 0) = false := by rw [beq_eq_false_iff_ne]; omega
              have hw2n : ¬ (w2.size : Int) = 0 := by omega
              have hw2m : ¬ w2.size = 0 := by omega
              have hLn : ¬ (L : Int) = 0 := by omega
              have hLm : ¬ L = 0 := by omega
              have HB25 := Lib.hid (HBr.out.trans (hb25.mono (by omega)))
              have Hw25 := Lib.hid (HbV.out.trans (HB25.out.mono HbV.out.size))
              clear hb25 HS hd hSe x0 x1 x2 x3 y0 y1 y2 y3 y4 y5 HEn Ho Hb
              obtain ⟨⟨x0, x1, x2, x3⟩, y0, y1, y2, y3, y4, y5⟩ := HX.out _ HB25.out
              go_upto_region 28 with (fail)
              obtain ⟨SS, hSe⟩ : ∃ SS : World → Prop, SS = fun W => W.cell? ⟨g, 0, none⟩ = some (.int .i64 (L : Int)) ∧ W.cell? ⟨g + 1, 0, none⟩ = some (.int .i64 (L : Int)) ∧ W.cell? ⟨g + 1, 1, none⟩ = some (.int .i64 (B : Int)) ∧ W.cell? ⟨g + 1, 2, none⟩ = some (.int .i64 (I : Int)) ∧ W.cell? ⟨g + 1, 3, none⟩ = some (.int .i64 dp) ∧ W.cell? ⟨g + 1, 4, none⟩ = some (.int .i64 df) ∧ W.cell? ⟨g + 1, 5, none⟩ = some (.slice a es.length ca) := ⟨_, rfl⟩
              have hg25 : g + 1 < X25.heap.size := by have := HB25.out.size; omega
              have HS : Hid (∀ W, Below X25.heap.size X25 W → SS W) := Lib.hid (fun W hW => by
                rw [hSe]
                exact ⟨(hW.cell (p := ⟨g, 0, none⟩) (by show g < _; omega)).trans x0, (hW.cell (p := ⟨g + 1, 0, none⟩) (by show g + 1 < _; omega)).trans y0, (hW.cell (p := ⟨g + 1, 1, none⟩) (by show g + 1 < _; omega)).trans y1, (hW.cell (p := ⟨g + 1, 2, none⟩) (by show g + 1 < _; omega)).trans y2, (hW.cell (p := ⟨g + 1, 3, none⟩) (by show g + 1 < _; omega)).trans y3, (hW.cell (p := ⟨g + 1, 4, none⟩) (by show g + 1 < _; omega)).trans y4, (hW.cell (p := ⟨g + 1, 5, none⟩) (by show g + 1 < _; omega)).trans y5⟩)
              have hd : Below X25.heap.size X25 X25.drew := (Below.refl _ _).drew
              refine wp_region_held_drew (S := SS) (by kernel_rfl) (HS.out _ hd) (fun hSS => ?_)
              refine wpAnyH_take (i := 0) (v := ?_) rfl (by kernel_rfl) (by kernel_rfl) (by kernel_rfl) (fun _ _ _ h => h) (Or.inl ⟨by rfl, ?_⟩) (HS.out _ hd) ?_
              rotate_left 1
              next => intro w hSw; rw [hSe] at hSw; obtain ⟨s1, s2, s3, s4, s5, s6, s7⟩ := hSw; go_simp; try with_reducible rfl
              try simp only [Act.put, List.getElem_toArray, List.getElem_cons_zero, List.getElem_cons_succ, List.setIfInBounds_toArray, List.set_cons_zero, List.set_cons_succ]
              refine wpAnyH_take (i := 1) (v := ?_) rfl (by kernel_rfl) (by kernel_rfl) (by kernel_rfl) (fun _ _ _ h => h) (Or.inl ⟨by rfl, ?_⟩) (HS.out _ hd) ?_
              rotate_left 1
              next => intro w hSw; rw [hSe] at hSw; obtain ⟨s1, s2, s3, s4, s5, s6, s7⟩ := hSw; go_simp; try with_reducible rfl
              try simp only [Act.put, List.getElem_toArray, List.getElem_cons_zero, List.getElem_cons_succ, List.setIfInBounds_toArray, List.set_cons_zero, List.set_cons_succ]
              refine wpAnyH_take (i := 2) (v := ?_) rfl (by kernel_rfl) (by kernel_rfl) (by kernel_rfl) (fun _ _ _ h => h) (Or.inl ⟨by rfl, ?_⟩) (HS.out _ hd) ?_
              rotate_left 1
              next => intro w hSw; rw [hSe] at hSw; obtain ⟨s1, s2, s3, s4, s5, s6, s7⟩ := hSw; go_simp; try with_reducible rfl
              try simp only [Act.put, List.getElem_toArray, List.getElem_cons_zero, List.getElem_cons_succ, List.setIfInBounds_toArray, List.set_cons_zero, List.set_cons_succ]
              refine wpAnyH_take (i := 3) (v := ?_) rfl (by kernel_rfl) (by kernel_rfl) (by kernel_rfl) (fun _ _ _ h => h) (Or.inl ⟨by rfl, ?_⟩) (HS.out _ hd) ?_
              rotate_left 1
              next => intro w hSw; rw [hSe] at hSw; obtain ⟨s1, s2, s3, s4, s5, s6, s7⟩ := hSw; go_simp; try with_reducible rfl
              try simp only [Act.put, List.getElem_toArray, List.getElem_cons_zero, List.getElem_cons_succ, List.setIfInBounds_toArray, List.set_cons_zero, List.set_cons_succ]
              refine wpAnyH_take (i := 4) (v := ?_) rfl (by kernel_rfl) (by kernel_rfl) (by kernel_rfl) (fun _ _ _ h => h) (Or.inl ⟨by rfl, ?_⟩) (HS.out _ hd) ?_
              rotate_left 1
              next => intro w hSw; rw [hSe] at hSw; obtain ⟨s1, s2, s3, s4, s5, s6, s7⟩ := hSw; go_simp; try with_reducible rfl
              try simp only [Act.put, List.getElem_toArray, List.getElem_cons_zero, List.getElem_cons_succ, List.setIfInBounds_toArray, List.set_cons_zero, List.set_cons_succ]
              refine wpAnyH_take (i := 5) (v := ?_) rfl (by kernel_rfl) (by kernel_rfl) (by kernel_rfl) (fun _ _ _ h => h) (Or.inl ⟨by rfl, ?_⟩) (HS.out _ hd) ?_
              rotate_left 1
              next => intro w hSw; rw [hSe] at hSw; obtain ⟨s1, s2, s3, s4, s5, s6, s7⟩ := hSw; go_simp; try with_reducible rfl
              try simp only [Act.put, List.getElem_toArray, List.getElem_cons_zero, List.getElem_cons_succ, List.setIfInBounds_toArray, List.set_cons_zero, List.set_cons_succ]
              refine wpAnyH_take (i := 6) (v := ?_) rfl (by kernel_rfl) (by kernel_rfl) (by kernel_rfl) (fun _ _ _ h => h) (Or.inl ⟨by rfl, ?_⟩) (HS.out _ hd) ?_
              rotate_left 1
              next => intro w hSw; rw [hSe] at hSw; obtain ⟨s1, s2, s3, s4, s5, s6, s7⟩ := hSw; go_simp; try with_reducible rfl
              try simp only [Act.put, List.getElem_toArray, List.getElem_cons_zero, List.getElem_cons_succ, List.setIfInBounds_toArray, List.set_cons_zero, List.set_cons_succ]
              refine wpAnyH_take (i := 7) (v := ?_) rfl (by kernel_rfl) (by kernel_rfl) (by kernel_rfl) (fun _ _ _ h => h) (Or.inl ⟨by rfl, ?_⟩) (HS.out _ hd) ?_
              rotate_left 1
              next => intro w hSw; rw [hSe] at hSw; obtain ⟨s1, s2, s3, s4, s5, s6, s7⟩ := hSw; go_simp; try with_reducible rfl
              try simp only [Act.put, List.getElem_toArray, List.getElem_cons_zero, List.getElem_cons_succ, List.setIfInBounds_toArray, List.set_cons_zero, List.set_cons_succ]
              refine wpAnyH_take (i := 8) (v := ?_) rfl (by kernel_rfl) (by kernel_rfl) (by kernel_rfl) (fun _ _ _ h => h) (Or.inl ⟨by rfl, ?_⟩) (HS.out _ hd) ?_
              rotate_left 1
              next => intro w hSw; rw [hSe] at hSw; obtain ⟨s1, s2, s3, s4, s5, s6, s7⟩ := hSw; go_simp; try with_reducible rfl
              try simp only [Act.put, List.getElem_toArray, List.getElem_cons_zero, List.getElem_cons_succ, List.setIfInBounds_toArray, List.set_cons_zero, List.set_cons_succ]
              refine wpAnyH_take (i := 9) (v := ?_) rfl (by kernel_rfl) (by kernel_rfl) (by kernel_rfl) (fun _ _ _ h => h) (Or.inl ⟨by rfl, ?_⟩) (HS.out _ hd) ?_
              rotate_left 1
              next => intro w hSw; rw [hSe] at hSw; obtain ⟨s1, s2, s3, s4, s5, s6, s7⟩ := hSw; go_simp; try with_reducible rfl
              try simp only [Act.put, List.getElem_toArray, List.getElem_cons_zero, List.getElem_cons_succ, List.setIfInBounds_toArray, List.set_cons_zero, List.set_cons_succ]
              refine wpAnyH_take (i := 10) (v := ?_) rfl (by kernel_rfl) (by kernel_rfl) (by kernel_rfl) (fun _ _ _ h => h) (Or.inl ⟨by rfl, ?_⟩) (HS.out _ hd) ?_
              rotate_left 1
              next => intro w hSw; rw [hSe] at hSw; obtain ⟨s1, s2, s3, s4, s5, s6, s7⟩ := hSw; go_simp; try with_reducible rfl
              try simp only [Act.put, List.getElem_toArray, List.getElem_cons_zero, List.getElem_cons_succ, List.setIfInBounds_toArray, List.set_cons_zero, List.set_cons_succ]
              refine wpAnyH_take (i := 11) (v := ?_) rfl (by kernel_rfl) (by kernel_rfl) (by kernel_rfl) (fun _ _ _ h => h) (Or.inl ⟨by rfl, ?_⟩) (HS.out _ hd) ?_
              rotate_left 1
              next => intro w hSw; rw [hSe] at hSw; obtain ⟨s1, s2, s3, s4, s5, s6, s7⟩ := hSw; go_simp; try with_reducible rfl
              try simp only [Act.put, List.getElem_toArray, List.getElem_cons_zero, List.getElem_cons_succ, List.setIfInBounds_toArray, List.set_cons_zero, List.set_cons_succ]
              try simp only [Act.put, List.getElem_toArray, List.getElem_cons_zero, List.getElem_cons_succ, List.setIfInBounds_toArray, List.set_cons_zero, List.set_cons_succ]
              refine wpAnyH_ready (rs := [12]) (by kernel_rfl) (by simp) ?_
              refine AllReadyH.cons rfl (fun K hK => ?_) AllReadyH.nil
              go_simp
              rw [HM2.out, HM3.out]
              refine (HCh9.out _ (Hw25.out.trans (hd.mono Hw25.out.size))).mono ?_
              rintro e X28 ⟨v9, rfl, ho28, hbc⟩
              obtain ⟨p28, c28, rfl, _, _, _⟩ := ho28.form
              have hb28 : Below X25.heap.size X25 X28 := hd.trans (hbc.mono hd.size)
              rw [Hcl8.out]
              dsimp only
              refine hK.out _ _ (HS.out _ hb28) (fun _ => ?_)
              clear hK K hbc ho28
              refine wpAnyH_take (i := 13) (v := ?_) rfl (by kernel_rfl) (by kernel_rfl) (by kernel_rfl) (fun _ _ _ h => h) (Or.inl ⟨by rfl, ?_⟩) (HS.out _ hb28) ?_
              rotate_left 1
              next => intro w hSw; rw [hSe] at hSw; obtain ⟨s1, s2, s3, s4, s5, s6, s7⟩ := hSw; go_simp; try with_reducible rfl
              try simp only [Act.put, List.getElem_toArray, List.getElem_cons_zero, List.getElem_cons_succ, List.setIfInBounds_toArray, List.set_cons_zero, List.set_cons_succ]
              refine wpAnyH_take (i := 14) (v := ?_) rfl (by kernel_rfl) (by kernel_rfl) (by kernel_rfl) (fun _ _ _ h => h) (Or.inl ⟨by rfl, ?_⟩) (HS.out _ hb28) ?_
              rotate_left 1
              next => intro w hSw; rw [hSe] at hSw; obtain ⟨s1, s2, s3, s4, s5, s6, s7⟩ := hSw; go_simp; try with_reducible rfl
              try simp only [Act.put, List.getElem_toArray, List.getElem_cons_zero, List.getElem_cons_succ, List.setIfInBounds_toArray, List.set_cons_zero, List.set_cons_succ]
              refine wpAnyH_take (i := 15) (v := ?_) rfl (by kernel_rfl) (by kernel_rfl) (by kernel_rfl) (fun _ _ _ h => h) (Or.inl ⟨by rfl, ?_⟩) (HS.out _ hb28) ?_
              rotate_left 1
              next => intro w hSw; rw [hSe] at hSw; obtain ⟨s1, s2, s3, s4, s5, s6, s7⟩ := hSw; go_simp; try with_reducible rfl
              try simp only [Act.put, List.getElem_toArray, List.getElem_cons_zero, List.getElem_cons_succ, List.setIfInBounds_toArray, List.set_cons_zero, List.set_cons_succ]
              refine wpAnyH_take (i := 16) (v := ?_) rfl (by kernel_rfl) (by kernel_rfl) (by kernel_rfl) (fun _ _ _ h => h) (Or.inl ⟨by rfl, ?_⟩) (HS.out _ hb28) ?_
              rotate_left 1
              next => intro w hSw; rw [hSe] at hSw; obtain ⟨s1, s2, s3, s4, s5, s6, s7⟩ := hSw; go_simp; try with_reducible rfl
              try simp only [Act.put, List.getElem_toArray, List.getElem_cons_zero, List.getElem_cons_succ, List.setIfInBounds_toArray, List.set_cons_zero, List.set_cons_succ]
              refine wpAnyH_take (i := 17) (v := ?_) rfl (by kernel_rfl) (by kernel_rfl) (by kernel_rfl) (fun _ _ _ h => h) (Or.inl ⟨by rfl, ?_⟩) (HS.out _ hb28) ?_
              rotate_left 1
              next => intro w hSw; rw [hSe] at hSw; obtain ⟨s1, s2, s3, s4, s5, s6, s7⟩ := hSw; go_simp; try with_reducible rfl
              try simp only [Act.put, List.getElem_toArray, List.getElem_cons_zero, List.getElem_cons_succ, List.setIfInBounds_toArray, List.set_cons_zero, List.set_cons_succ]
              refine wpAnyH_done (by kernel_rfl) ?_ _

              have hle : (cl9 : Int) ≤ (M : Int) := by omega
              have Hw28 := Lib.hid (Hw25.out.trans (hb28.mono Hw25.out.size))
              clear hb28 HS hd hSe x0 x1 x2 x3 y0 y1 y2 y3 y4 y5 HCh9
              go_wp2_with (go_at_call 18; refine (awake_any _).mono ?_; rintro e w9 ⟨rfl, hb⟩; have Hb9 := Lib.hid hb; clear hb)
              go_ret
              exact ⟨rfl, by first | exact Hw28.out.trans (Hb9.out.mono Hw28.out.size) | (rw [← hg]; exact Hw28.out.trans (Hb9.out.mono Hw28.out.size))⟩
end Go.Proofs.Ytcafeffgaokiaaa
