/- grooveref01.Gcd at any size: the walk. grooveref01: mag and Of of numbers of one digit; Compare with zero; grooveref02.sign. grooveref01: Compare with zero; grooveref02.sign. -/
import Derived.Test.YtcafeffgaokiaaaZ27
import Derived.Test.YtcafeffgaokiaaaZ35
import Derived.Test.YtcafeffgaokiaaaZ22
import Derived.Test.YtcafeffgaokiaaaZ23
import Derived.Test.YtcafeffgaokiaaaZ20
import Derived.Test.YtcafeffgaokiaaaZ21
import Derived.Laws.IdiomStrings
import Derived.Deep.RegionWith
namespace Go.Proofs.Ytcafeffgaokiaaa
open Go.RowKit Go.Shelf
theorem small7 {n : Nat} (h : (bsN n).size ≤ 7) : n < 72057594037927936 := by
  have h1 := bval_lt (bsN n).data.toList
  rw [bsN_val, Array.length_toList] at h1
  have h2 : (256 : Nat) ^ (bsN n).data.size ≤ 256 ^ 7 := Nat.pow_le_pow_right (by decide) h
  have h3 : (256 : Nat) ^ 7 = 72057594037927936 := by decide
  omega
theorem gcd_small_le {a b : Nat} (ha : a < 72057594037927936) (hb : b < 72057594037927936) (h : 0 < b) : Nat.gcd a b < 72057594037927936 := Nat.lt_of_le_of_lt (Nat.le_of_dvd h (Nat.gcd_dvd_right _ _)) hb
theorem bsN_empty (n : Nat) : (bsN n).toList.isEmpty = decide (n = 0) := by
  rw [ByteArray.toList_eq]
  show (beb n).isEmpty = _
  rw [Bool.eq_iff_iff, decide_eq_true_eq, List.isEmpty_iff_length_eq_zero]
  exact beb_len_zero
set_option maxRecDepth 100000 in
set_option maxHeartbeats 8000000 in
theorem refGcdZ_any (zx zy : ZI) (hx : zx.mag.size ≤ 90000000) (hy : zy.mag.size ≤ 90000000) (G : Nat) (hG : Nat.gcd (absZ zx) (absZ zy) = G) (w : World) :
    Calls Try.prog 125 #[.agg #[.bool zx.neg, .string zx.mag], .agg #[.bool zy.neg, .string zy.mag]] w (RetZ (canon (G : Int)) w) := by
  have HGn : Hid (canon (G : Int) = ⟨false, bsN G⟩) := Lib.hid (by
    unfold canon
    rw [show decide ((G : Int) < 0) = false from decide_eq_false (by omega), Int.natAbs_natCast]; rfl)
  have ht1 := refTrim_any zx.mag (by omega)
  have ht2 := refTrim_any zy.mag (by omega)
  have hX : ∀ z : ZI, (⟨(beb (bval z.mag.data.toList)).toArray⟩ : ByteArray) = bsN (absZ z) := fun z => rfl
  rw [hX] at ht1 ht2
  have hsz : ∀ z : ZI, z.mag.size ≤ 90000000 → (bsN (absZ z)).size ≤ 90000000 := fun z h => by
    have h1 := bval_lt z.mag.data.toList
    rw [Array.length_toList] at h1
    exact Nat.le_trans (bsN_size h1) h
  have hx1 := hsz zx hx
  have hy1 := hsz zy hy
  obtain ⟨X0, hX0⟩ : ∃ x, absZ zx = x := ⟨_, rfl⟩
  obtain ⟨Y0, hY0⟩ : ∃ x, absZ zy = x := ⟨_, rfl⟩
  rw [hX0] at ht1 hx1 hG
  rw [hY0] at ht2 hy1 hG
  have HG := Lib.hid hG
  have Ht : Hid (∀ x, x = zx.mag ∨ x = zy.mag → ∀ w, Calls Try.prog 139 #[.string x] w fun e w' => e = .returned (.string (if x = zx.mag then bsN X0 else bsN Y0)) ∧ w = w') := Lib.hid fun x hx => by
    by_cases h : x = zx.mag
    · rw [if_pos h, h]; exact ht1
    · rw [if_neg h]
      rcases hx with h2 | h2
      · exact absurd h2 h
      · rw [h2]; exact ht2
  have Ht1 := Lib.hid ht1
  have Ht2 := Lib.hid ht2
  have HSm := Lib.hid (fun (n : Nat) (h : (bsN n).size ≤ 7) W => by
    have := refSmall_any (bsN n) h W
    rwa [bsN_val] at this)
  have HDv := Lib.hid (fun X Y (h1 : (bsN X).size ≤ 90000000) (h2 : 0 < Y) (h3 : (bsN Y).size ≤ 90000000) W => by
    have := refDivMag_any (bsN X) Y h1 h2 h3 W
    rwa [bsN_val] at this)
  have HOf : Hid (G < 72057594037927936 → ∀ W, Calls Try.prog 76 #[.int .i64 (G : Int)] W (RetZ (canon (G : Int)) W)) := Lib.hid (fun h W => refOfAll_any G (by omega) W)
  clear hX hsz hX0 hY0 hG ht1 ht2 hx hy
  go_enter Try.func125, Try.ntmps125
  go_upto_region 1 with (fail)
  obtain ⟨W, hW, hA, hB, hC, hb0, hs0⟩ := three_boxes w (.bool zx.neg) (.string zx.mag) (.bool zy.neg) (.string zy.mag) (.bool false) (.string ⟨#[]⟩) 48
  rw [hW]
  have HC := Lib.hid hC
  have Hb0 := Lib.hid hb0
  have Hs0 := Lib.hid hs0
  obtain ⟨a0, a1, a2, a3, _⟩ := hA
  obtain ⟨b0, b1, b2, b3, _⟩ := hB
  clear hW hb0 hs0 hC
  go_quiet ((go_at_call 139; first | (with_reducible exact quiet_l (Ht1.out _)) | (with_reducible exact quiet_l (Ht2.out _))))
  go_wp2
  go_loopw [5, 6] (fun xv yv wr => ∃ X Y : Nat, xv = .string (bsN X) ∧ yv = .string (bsN Y) ∧ Hid ((bsN X).size ≤ 90000000) ∧ Hid ((bsN Y).size ≤ 90000000) ∧ Hid (Nat.gcd X Y = G) ∧ Hid (Below W.heap.size W wr)) (fun _ yv _ => (match yv with | .string s => bval s.data.toList | _ => 0))
  case atStart => exact ⟨X0, Y0, rfl, rfl, Lib.hid hx1, Lib.hid hy1, HG, Lib.hid (Drawn.below ⟨_, rfl⟩ _)⟩
  case round =>
    clear hx1 hy1 HG
    obtain ⟨X, Y, rfl, rfl, HXs, HYs, HGg, HBl⟩ := hrel
    have hem := bsN_empty Y
    by_cases hY : Y = 0
    · subst hY
      rw [decide_eq_true rfl] at hem
      have hXG : X = G := by rw [← HGg.out, Nat.gcd_zero_right]
      subst hXG
      have Hbk := HBl
      obtain ⟨c0, c1, c2, c3, _⟩ := (show BoxAt W (w.heap.size + 1 + 1) (.bool false) (.string ⟨#[]⟩) from HC.out).below Hbk.out HC.out.2.2.2.2
      clear HGg HXs HYs
      go_wp2_with fail
      have hbe : Below w.heap.size w wr := Hb0.out.trans (Hbk.out.mono (by have := Hs0.out; omega))
      refine bodyPost_ret (v := .agg #[.bool false, .string (bsN X)]) ?_ rfl ⟨by rw [HGn.out], (hbe.setCell (by simp; omega) _).setCell (by simp; omega) _⟩
      simp [results, Try.results125, go_sem, c0, c1]
    · rw [decide_eq_false hY] at hem
      by_cases hx7 : (bsN X).size ≤ 7
      · by_cases hy7 : (bsN Y).size ≤ 7
        · have i1 : ¬ (7 : Int) < ((bsN X).size : Int) := by omega
          have i2 : ¬ (7 : Int) < ((bsN Y).size : Int) := by omega
          have HS1 := Lib.hid (HSm.out X hx7)
          have HS2 := Lib.hid (HSm.out Y hy7)
          have hXl := small7 hx7
          have hYl := small7 hy7
          have HGl := Lib.hid (gcd_small_le hXl hYl (by omega))
          go_wp2_with first
            | (go_at_call 141; first | (with_reducible go_fit (HS1.out _); rintro e wk ⟨rfl, rfl⟩) | (with_reducible go_fit (HS2.out _); rintro e wk ⟨rfl, rfl⟩))
          go_loopw [9, 10] (fun x y wr => ∃ a b : Nat, x = .int .i64 a ∧ y = .int .i64 b ∧ a < 72057594037927936 ∧ b < 72057594037927936 ∧ Hid (Nat.gcd a b = G) ∧ Hid (Below W.heap.size W wr)) (fun _ y _ => (intOf y).toNat)
          case atStart => exact ⟨X, Y, rfl, rfl, hXl, hYl, HGg, HBl⟩
          case round =>
            clear HBl hXl hYl
            obtain ⟨a, b, rfl, rfl, ha, hb, hg, HW⟩ := hrel
            by_cases hb0 : 0 < b
            · have hb0I : (0 : Int) < (b : Int) := by omega
              have hbz : ¬ (b : Int) = 0 := by omega
              have hbz2 : ((b : Int) == 0) = false := by rw [beq_eq_false_iff_ne]; omega
              have hnext : Nat.gcd b (a % b) = G := by rw [← hg.out, Nat.gcd_comm a b, Nat.gcd_rec b a, Nat.gcd_comm]
              have hml := Nat.mod_lt a hb0
              have Hnext := Lib.hid hnext
              clear hnext
              go_wp2
              go_quiet (fail)
              go_wp2
              go_roundw
              case rel => exact ⟨b, a % b, rfl, rfl, hb, by omega, Hnext, Lib.hid (HW.out.trans ((Drawn.below ⟨_, rfl⟩ _).mono HW.out.size))⟩
              case measure => simp [intOf]; omega
            · have hb0I : ¬ (0 : Int) < (b : Int) := by omega
              have hbz : b = 0 := by omega
              have hag : a = G := by rw [← hg.out, hbz, Nat.gcd_zero_right]
              subst hag
              have HO := Lib.hid (HOf.out ha)
              go_wp2_with fail
              refine (HO.out _).mono ?_
              rintro e wk ⟨rfl, hbk⟩
              dsimp only
              have Hbk := Lib.hid (HW.out.trans (hbk.mono HW.out.size))
              obtain ⟨c0, c1, c2, c3, _⟩ := (show BoxAt W (w.heap.size + 1 + 1) (.bool false) (.string ⟨#[]⟩) from HC.out).below Hbk.out HC.out.2.2.2.2
              clear hbk HO HOf
              generalize canon ((a : Nat) : Int) = K9 at *
              go_wp2_with fail
              have hbe : Below w.heap.size w wk := Hb0.out.trans (Hbk.out.mono (by have := Hs0.out; omega))
              refine bodyPost_ret (v := .agg #[.bool K9.neg, .string K9.mag]) ?_ rfl ⟨rfl, (hbe.setCell (by simp; omega) _).setCell (by simp; omega) _⟩
              simp [results, Try.results125, go_sem, c0, c1]
        · have i1 : ¬ (7 : Int) < ((bsN X).size : Int) := by omega
          have i2 : (7 : Int) < ((bsN Y).size : Int) := by omega
          have HD := Lib.hid (HDv.out X Y HXs.out (by omega) HYs.out)
          have HG2 : Hid (Nat.gcd Y (X % Y) = G) := Lib.hid (by rw [← HGg.out, Nat.gcd_comm X Y, Nat.gcd_rec Y X, Nat.gcd_comm])
          have HY2 : Hid ((bsN (X % Y)).size ≤ 90000000) := Lib.hid (Nat.le_trans (bsN_mono (Nat.le_of_lt (Nat.mod_lt X (by omega)))) HYs.out)
          have HMl := Lib.hid (Nat.mod_lt X (show Y > 0 by omega))
          clear HGg HXs
          go_wp2_with fail
          refine (HD.out _).mono ?_
          rintro e w4 ⟨rfl, hb4⟩
          dsimp only
          have HB4 := Lib.hid (HBl.out.trans (hb4.mono HBl.out.size))
          clear hb4 HBl HD
          go_wp2_with fail
          go_roundw
          case rel => exact ⟨Y, X % Y, rfl, rfl, HYs, HY2, HG2, HB4⟩
          case measure => show bval (bsN (X % Y)).data.toList < bval (bsN Y).data.toList; rw [bsN_val, bsN_val]; exact HMl.out
      · have i1 : (7 : Int) < ((bsN X).size : Int) := by omega
        have HD := Lib.hid (HDv.out X Y HXs.out (by omega) HYs.out)
        have HG2 : Hid (Nat.gcd Y (X % Y) = G) := Lib.hid (by rw [← HGg.out, Nat.gcd_comm X Y, Nat.gcd_rec Y X, Nat.gcd_comm])
        have HY2 : Hid ((bsN (X % Y)).size ≤ 90000000) := Lib.hid (Nat.le_trans (bsN_mono (Nat.le_of_lt (Nat.mod_lt X (by omega)))) HYs.out)
        have HMl := Lib.hid (Nat.mod_lt X (show Y > 0 by omega))
        clear HGg HXs
        go_wp2_with fail
        refine (HD.out _).mono ?_
        rintro e w4 ⟨rfl, hb4⟩
        dsimp only
        have HB4 := Lib.hid (HBl.out.trans (hb4.mono HBl.out.size))
        clear hb4 HBl HD
        go_wp2_with fail
        go_roundw
        case rel => exact ⟨Y, X % Y, rfl, rfl, HYs, HY2, HG2, HB4⟩
        case measure => show bval (bsN (X % Y)).data.toList < bval (bsN Y).data.toList; rw [bsN_val, bsN_val]; exact HMl.out
end Go.Proofs.Ytcafeffgaokiaaa
namespace Go.Proofs.Ytcafeffgaokiaaa
open Go.RowKit

end Go.Proofs.Ytcafeffgaokiaaa
namespace Go.Proofs.Ytcafeffgaokiaaa
open Go.RowKit

theorem BoxAt.dr {w : World} {g : Nat} {a b : Value} (h : BoxAt w g a b) : BoxAt w.drew g a b := h
theorem BoxAt.call {w w' : World} {g : Nat} {a b : Value} (h : BoxAt w g a b) (hb : Below w.heap.size w w') : BoxAt w' g a b := h.below hb h.2.2.2.2
theorem below_call {w0 w w' : World} {B : Nat} (h : Below B w0 w) (hB : B ≤ w.heap.size) (hb : Below w.heap.size w w') : Below B w0 w' := h.trans (hb.mono hB)
end Go.Proofs.Ytcafeffgaokiaaa
