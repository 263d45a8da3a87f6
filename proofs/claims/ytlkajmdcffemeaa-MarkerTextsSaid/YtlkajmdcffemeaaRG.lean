/- grooveref01: Gcd of numbers of one digit. -/
import Derived.Test.YtlkajmdcffemeaaRC
import Derived.Test.YtlkajmdcffemeaaChk
namespace Go.Proofs.Ytlkajmdcffemeaa
open Go.RowKit

theorem bval_canon (n : Nat) : bval (canon (n : Int)).mag.data.toList = n := by
  show bval (beb (n : Int).natAbs).toArray.toList = n
  rw [List.toList_toArray, Int.natAbs_natCast, bval_beb]
theorem mag_of_bval (n : Nat) : (⟨(beb (bval (canon (n : Int)).mag.data.toList)).toArray⟩ : ByteArray) = (canon (n : Int)).mag := by
  rw [bval_canon]
  show (⟨(beb n).toArray⟩ : ByteArray) = ⟨(beb (n : Int).natAbs).toArray⟩
  rw [Int.natAbs_natCast]
theorem canon_size_one {n : Nat} (h0 : 0 < n) (h : n < 256) : (canon (n : Int)).mag.size = 1 := by rw [canon_one (by omega) h]; rfl

set_option maxRecDepth 100000 in
set_option maxHeartbeats 4000000 in
theorem refGcd_any (n d : Nat) (h0 : 0 < n) (hn : n < 256) (hd0 : 0 < d) (hd : d < 256) (w : World) :
    Calls Try.prog 95 #[.agg #[.bool (canon (n : Int)).neg, .string (canon (n : Int)).mag], .agg #[.bool (canon (d : Int)).neg, .string (canon (d : Int)).mag]] w (RetZ (canon (Nat.gcd n d : Nat)) w) := by
  have hn1 := canon_size_one h0 hn
  have hd1 := canon_size_one hd0 hd
  have ht1 := refTrim_any (canon (n : Int)).mag (by omega)
  have ht2 := refTrim_any (canon (d : Int)).mag (by omega)
  have hs1 := refSmall_any (canon (n : Int)).mag (by omega)
  have hs2 := refSmall_any (canon (d : Int)).mag (by omega)
  rw [mag_of_bval] at ht1 ht2
  rw [bval_canon] at hs1 hs2
  have hgl : Nat.gcd n d < 256 := Nat.lt_of_le_of_lt (Nat.le_of_dvd h0 (Nat.gcd_dvd_left _ _)) hn
  have Ho := Lib.hid (refOf_any (Nat.gcd n d) hgl)
  generalize canon (n : Int) = A at *
  generalize canon (d : Int) = B at *
  have Ht : Hid (∀ x, x = A.mag ∨ x = B.mag → ∀ w, Calls Try.prog 105 #[.string x] w fun e w' => e = .returned (.string x) ∧ w = w') := Lib.hid fun x hx => by
    rcases hx with rfl | rfl
    · exact ht1
    · exact ht2
  have Hs1 := Lib.hid hs1
  have Hs2 := Lib.hid hs2
  clear ht1 ht2 hs1 hs2
  obtain ⟨An, Am⟩ := A
  obtain ⟨Bn, Bm⟩ := B
  dsimp only at *
  have e1 : Bm.toList.isEmpty = false := by
    rw [Bool.eq_false_iff]
    exact fun h => by have := (str_empty Bm).1 h; omega
  have i1 : ¬ (7 : Int) < (Am.size : Int) := by omega
  have i2 : ¬ (7 : Int) < (Bm.size : Int) := by omega
  clear h0 hd0
  go_enter Try.func95, Try.ntmps95
  go_upto_region 1 with (fail)
  obtain ⟨W, hW, hA, hB, hC, hb0, hs0⟩ := three_boxes w (.bool An) (.string Am) (.bool Bn) (.string Bm) (.bool false) (.string ⟨#[]⟩) 34
  rw [hW]
  have HC := Lib.hid hC
  have Hb0 := Lib.hid hb0
  have Hs0 := Lib.hid hs0
  obtain ⟨a0, a1, a2, a3, _⟩ := hA
  obtain ⟨b0, b1, b2, b3, _⟩ := hB
  clear hW hb0 hs0 hC
  go_quiet ((go_at_call 105; exact quiet_l (Ht.out _ (by first | exact .inl rfl | exact .inr rfl) _)))
  go_wp2
  go_loop [5, 6] (fun x y => x = .string Am ∧ y = .string Bm) (fun _ _ => 0)
  case atStart => exact ⟨rfl, rfl⟩
  case round =>
    obtain ⟨rfl, rfl⟩ := hrel
    go_wp2_with first
      | (go_at_call 107; first | (with_reducible go_fit (Hs1.out _); rintro e wk ⟨rfl, rfl⟩) | (with_reducible go_fit (Hs2.out _); rintro e wk ⟨rfl, rfl⟩))
    go_loopw [9, 10] (fun x y wr => ∃ a b : Nat, x = .int .i64 a ∧ y = .int .i64 b ∧ a < 256 ∧ b < 256 ∧ Hid (Nat.gcd a b = Nat.gcd n d) ∧ Hid (Below W.heap.size W wr)) (fun _ y _ => (intOf y).toNat)
    case atStart => exact ⟨n, d, rfl, rfl, hn, hd, Lib.hid rfl, Lib.hid (Drawn.below ⟨_, rfl⟩ _)⟩
    case round =>
      obtain ⟨a, b, rfl, rfl, ha, hb, hg, HW⟩ := hrel
      by_cases hb0 : 0 < b
      · have hb0I : (0 : Int) < (b : Int) := by omega
        have hbz : ¬ (b : Int) = 0 := by omega
        have hbz2 : ((b : Int) == 0) = false := by rw [beq_eq_false_iff_ne]; omega
        have hnext : Nat.gcd b (a % b) = Nat.gcd n d := by rw [← hg.out, Nat.gcd_comm a b, Nat.gcd_rec b a, Nat.gcd_comm]
        have hml := Nat.mod_lt a hb0
        have Hnext := Lib.hid hnext
        clear hnext
        go_wp2
        go_quiet (fail)
        go_wp2
        go_roundw
        case rel => exact ⟨b, a % b, rfl, rfl, hb, by omega, Hnext, Lib.hid (HW.out.trans ((Drawn.below ⟨_, rfl⟩ _).mono HW.out.size))⟩
        case measure => simp [intOf]; omega
      · have hb0I : ¬ (0 : Int) < (b : Int) := by omega
        have hbz : b = 0 := by omega
        have hag : a = Nat.gcd n d := by rw [← hg.out, hbz, Nat.gcd_zero_right]
        subst hag
        go_wp2_with first
          | (go_at_call 67; go_fit (Ho.out _); rintro e wk ⟨rfl, hbk⟩; have Hbk := Lib.hid (show Below W.heap.size W wk from HW.out.trans (hbk.mono HW.out.size)); obtain ⟨c0, c1, c2, c3, _⟩ := HC.out.call Hbk.out; clear hbk)
        generalize canon ((Nat.gcd n d : Nat) : Int) = G at *
        have hbe : Below w.heap.size w wk := Hb0.out.trans (Hbk.out.mono (by have := Hs0.out; omega))
        refine bodyPost_ret (v := .agg #[.bool G.neg, .string G.mag]) ?_ rfl ⟨rfl, (hbe.setCell (by simp; omega) _).setCell (by simp; omega) _⟩
        simp [results, Try.results95, go_sem, c0, c1]
end Go.Proofs.Ytlkajmdcffemeaa
