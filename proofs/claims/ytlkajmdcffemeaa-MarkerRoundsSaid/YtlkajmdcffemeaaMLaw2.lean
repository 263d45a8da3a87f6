/- The walk of groovelaw49.MarkerRounds. -/
import Derived.Test.YtlkajmdcffemeaaRnd2
import Derived.Test.YtlkajmdcffemeaaAwk
import Derived.Test.YtlkajmdcffemeaaRem
namespace Go.Proofs.Ytlkajmdcffemeaa
open Go.RowKit

theorem max3 {P : Program} (ts : Array TypeId) (t : TypeId) (w : World) : (Builtin.max_ ts t #[.int .i64 0, .int .i64 0, .int .i64 0]).run P w = .ok (.int .i64 0) w := by rfl
theorem wds_bits {b : Nat} {xs : List Nat} (h : xs.length ≤ 8) : Wds b (blkWs b xs) := ⟨by unfold blkWs; rw [List.length_map]; exact h, blkWs_size b xs, blkWs_ok b xs⟩
theorem fine_facts {x : Nat} : 1 ≤ fineN x ∧ fineN x ≤ 6 := by unfold fineN; omega
theorem rate_fine {b : Nat} {m : ByteArray} (hb : 1 ≤ b ∧ b ≤ 6) (hm : fineB m = true) : rateErr (b : Int) m = 0 ∧ rateV (b : Int) m = ratV ((b / Nat.gcd b (b + m.size) : Nat) : Int) (((b + m.size) / Nat.gcd b (b + m.size) : Nat) : Int) := by
  have h : rateErr (b : Int) m = 0 := mkErr_fine hb hm (by simp) (fun c hc => by cases hc)
  refine ⟨h, ?_⟩
  unfold rateV
  rw [if_pos h, Int.toNat_natCast]
theorem ratV_scale {k a c : Nat} (hk : 0 < k) : ratV ((k * a / Nat.gcd (k * a) (k * c) : Nat) : Int) ((k * c / Nat.gcd (k * a) (k * c) : Nat) : Int) = ratV ((a / Nat.gcd a c : Nat) : Int) ((c / Nat.gcd a c : Nat) : Int) := by
  rw [Nat.gcd_mul_left, Nat.mul_div_mul_left _ _ hk, Nat.mul_div_mul_left _ _ hk]

set_option maxRecDepth 100000 in
set_option maxHeartbeats 8000000 in
theorem roundsLaw (x : Nat) (m : ByteArray) (p : Option Addr) (c : Nat) (xs : List Nat) (w : World) (hx : x ≤ 255) (hm : m.size ≤ maxLen) (hX : ByteAt w p xs) (hx256 : ∀ x ∈ xs, x < 256) (hxl : xs.length ≤ maxLen) :
    Calls Try.prog 5 #[.int .u8 (x : Int), .string m, .slice p xs.length c] w fun e w' => e = .returned (.bool true) ∧ Below w.heap.size w w' := by
  have Hf := Lib.hid (fine_any x m hx hm)
  have hfn := fine_facts (x := x)
  obtain ⟨b, hbe⟩ : ∃ b, fineN x = b := ⟨_, rfl⟩
  rw [hbe] at Hf hfn
  obtain ⟨hb1, hb2⟩ := hfn
  have HX := Lib.hid hX
  clear hX
  cases hF : fineB m
  · rw [hF] at Hf
    clear hF hbe
    go_enter Try.func5, Try.ntmps5
    go_wp2_with first
      | (go_at_call 11; go_fit (Hf.out _); rintro e w1 ⟨rfl, hd⟩; have Hd := Lib.hid hd; clear hd)
      | (go_at_call 12; go_fit (awake_any _); rintro e w2 ⟨rfl, hb2⟩; have Hb2 := Lib.hid hb2; clear hb2)
    go_ret
    exact ⟨rfl, (Drawn.below Hd.out _).trans (Hb2.out.mono (by rw [Drawn.heap Hd.out]; exact Nat.le_refl _))⟩
  · rw [hF] at Hf
    by_cases h8 : 8 < xs.length
    · have h8I : decide ((8 : Int) < (xs.length : Int)) = true := by rw [decide_eq_true_eq]; omega
      clear hF hbe
      go_enter Try.func5, Try.ntmps5
      go_wp2_with first
        | (go_at_call 11; go_fit (Hf.out _); rintro e w1 ⟨rfl, hd⟩; have Hd := Lib.hid hd; clear hd)
        | (go_at_call 12; go_fit (awake_any _); rintro e w2 ⟨rfl, hb2⟩; have Hb2 := Lib.hid hb2; clear hb2)
      go_ret
      exact ⟨rfl, (Drawn.below Hd.out _).trans (Hb2.out.mono (by rw [Drawn.heap Hd.out]; exact Nat.le_refl _))⟩
    · have h8I : decide ((8 : Int) < (xs.length : Int)) = false := by rw [decide_eq_false_iff_not]; omega
      have hw := wds_bits (b := b) (xs := xs) (by omega)
      obtain ⟨hm1, hm2, _⟩ := fine_marker hF
      have hwl : (blkWs b xs).length = xs.length := by unfold blkWs; rw [List.length_map]
      have hBl := fun W hW => blocksL_any b (by omega) xs hx256 p c W hW (by omega)
      generalize hws : blkWs b xs = ws at *
      obtain ⟨hi1, hi2⟩ := insert_track ⟨hb1, hb2⟩ hF hw
      obtain ⟨hr1, hr2⟩ := remove_track ⟨hb1, hb2⟩ hF hw
      have hts := track_size (m := m) hw
      have hwsz := word_size hw
      obtain ⟨hq1, hq2⟩ := rate_fine ⟨hb1, hb2⟩ hF
      have Hins := Lib.hid (fun W => Insert_any (b : Int) m (wordOf ws) hm (by rw [hwsz]; have := Nat.mul_le_mul hw.len hb2; unfold maxLen; omega) W)
      have htsz : (trackOf m ws).size ≤ 112 := by rw [hts]; have := Nat.mul_le_mul hw.len (show b + m.size ≤ 14 by omega); omega
      have Hrem := Lib.hid (fun W => Remove_any (b : Int) m (trackOf m ws) hm (by unfold maxLen; omega) W)
      have Hrat := Lib.hid (fun W => Rate_any (b : Int) m hm W)
      have hjl : (joinL ws).length ≤ 1000000000000 := by
        rw [joinL_len hw.size]; have := Nat.mul_le_mul hw.len hb2; omega
      rw [hi1, hi2] at Hins
      rw [hr1, hr2] at Hrem
      rw [hq1, hq2] at Hrat
      have hscale : ∀ k, 0 < k → ratV ((k * b / Nat.gcd (k * b) (k * (b + m.size)) : Nat) : Int) ((k * (b + m.size) / Nat.gcd (k * b) (k * (b + m.size)) : Nat) : Int) = ratV ((b / Nat.gcd b (b + m.size) : Nat) : Int) (((b + m.size) / Nat.gcd b (b + m.size) : Nat) : Int) := fun k hk => ratV_scale hk
      obtain ⟨q, hq⟩ : ∃ q, b + m.size = q := ⟨_, rfl⟩
      have hqI : (b : Int) + (m.size : Int) = (q : Int) := by omega
      rw [hq] at hts hscale Hrat
      obtain ⟨t, ht⟩ : ∃ t, xs.length * q = t := ⟨_, rfl⟩
      have htI : (xs.length : Int) * (q : Int) = (t : Int) := by rw [← ht]; simp
      rw [hwl, ht] at hts
      have hqle : q ≤ 14 := by omega
      have htle : t ≤ 112 := by omega
      have Hjo := Lib.hid (fun p c W (hW : StrsAt W p ws) => joined_any ws p c W hW (by rw [hwl]; omega) hjl)
      have HBl := Lib.hid hBl
      have hmax := @max3 Try.prog
      rw [hwl] at hwsz
      have hw1 : (⟨(joinL ws).toArray⟩ : ByteArray) = wordOf ws := rfl
      rw [hw1] at Hjo
      have hts2 : (trackOf m ws).size = t := hts
      generalize wordOf ws = WW at *
      generalize trackOf m ws = TT at *
      unfold ratV at Hrat hscale
      by_cases hz : xs.length = 0
      · have hz2 : ((xs.length : Int) == 0) = true := by rw [hz]; rfl
        generalize canon ((b / Nat.gcd b q : Nat) : Int) = Q1 at *
        generalize canon ((q / Nat.gcd b q : Nat) : Int) = Q2 at *
        clear hF hbe hws hw hscale hi1 hi2 hr1 hr2 hq1 hq2 hq ht hz hBl hwl hjl hw1 hts
        go_enter Try.func5, Try.ntmps5
        go_wp2_with (go_at_call 11; go_fit (Hf.out _); rintro e w1 ⟨rfl, hd⟩; have Hd := Lib.hid hd; clear hd)
        refine (HBl.out _ (HX.out.below (Nat.le_refl _) (Drawn.below Hd.out _))).mono ?_
        rintro e w2 ⟨v, rfl, ho, hb⟩
        obtain ⟨p2, c2, rfl, _, hS, _⟩ := ho.form
        have HS := Lib.hid hS
        have Hw2 := Lib.hid (show Below w.heap.size w w2 from (Drawn.below Hd.out _).trans (hb.mono (by rw [Drawn.heap Hd.out]; exact Nat.le_refl _)))
        clear ho hb hS
        go_wp2_with fail
        refine (Hjo.out p2 c2 _ HS.out).mono ?_
        rintro e w2' ⟨rfl, rfl⟩
        go_wp2_with fail
        refine (Hins.out _).mono ?_
        rintro e w3 ⟨rfl, hb⟩
        have Hw3 := Lib.hid (show Below w.heap.size w w3 from Hw2.out.trans (hb.mono Hw2.out.size))
        clear hb
        go_wp2_with fail
        refine (Hrem.out _).mono ?_
        rintro e w4 ⟨rfl, hb⟩
        have Hw4 := Lib.hid (show Below w.heap.size w w4 from Hw3.out.trans (hb.mono Hw3.out.size))
        clear hb
        go_wp2_with fail
        refine (Hrat.out _).mono ?_
        rintro e w5 ⟨rfl, hb⟩
        have Hw5 := Lib.hid (show Below w.heap.size w w5 from Hw4.out.trans (hb.mono Hw4.out.size))
        clear hb
        have hs5 := Hw5.out.size
        go_wp2_with (go_at_call 12; go_fit (awake_any _); rintro e w6 ⟨rfl, hb6⟩; have Hb6 := Lib.hid hb6; clear hb6)
        go_ret
        exact ⟨rfl, (Hw5.out.alloc hs5 _).trans (Hb6.out.mono (by simp; omega))⟩
      · have hz2 : ((xs.length : Int) == 0) = false := by rw [beq_eq_false_iff_ne]; omega
        have hsc := hscale xs.length (by omega)
        rw [ht] at hsc
        have hratio := fun W => ratio_any (xs.length * b) t (Nat.mul_pos (by omega) (by omega)) (by rw [← ht]; exact Nat.mul_pos (by omega) (by omega)) (by have := Nat.mul_le_mul (show xs.length ≤ 8 by omega) hb2; omega) (by omega) W
        unfold ratV at hratio
        rw [hsc] at hratio
        have Hratio := Lib.hid hratio
        obtain ⟨s, hs⟩ : ∃ s, xs.length * b = s := ⟨_, rfl⟩
        rw [hs] at hwsz Hratio
        generalize canon ((b / Nat.gcd b q : Nat) : Int) = Q1 at *
        generalize canon ((q / Nat.gcd b q : Nat) : Int) = Q2 at *
        clear hF hbe hws hw hscale hi1 hi2 hr1 hr2 hq1 hq2 hq ht hz hBl hwl hjl hw1 hts hratio hsc hs
        go_enter Try.func5, Try.ntmps5
        go_wp2_with (go_at_call 11; go_fit (Hf.out _); rintro e w1 ⟨rfl, hd⟩; have Hd := Lib.hid hd; clear hd)
        refine (HBl.out _ (HX.out.below (Nat.le_refl _) (Drawn.below Hd.out _))).mono ?_
        rintro e w2 ⟨v, rfl, ho, hb⟩
        obtain ⟨p2, c2, rfl, _, hS, _⟩ := ho.form
        have HS := Lib.hid hS
        have Hw2 := Lib.hid (show Below w.heap.size w w2 from (Drawn.below Hd.out _).trans (hb.mono (by rw [Drawn.heap Hd.out]; exact Nat.le_refl _)))
        clear ho hb hS
        go_wp2_with fail
        refine (Hjo.out p2 c2 _ HS.out).mono ?_
        rintro e w2' ⟨rfl, rfl⟩
        go_wp2_with fail
        refine (Hins.out _).mono ?_
        rintro e w3 ⟨rfl, hb⟩
        have Hw3 := Lib.hid (show Below w.heap.size w w3 from Hw2.out.trans (hb.mono Hw2.out.size))
        clear hb
        go_wp2_with fail
        refine (Hrem.out _).mono ?_
        rintro e w4 ⟨rfl, hb⟩
        have Hw4 := Lib.hid (show Below w.heap.size w w4 from Hw3.out.trans (hb.mono Hw3.out.size))
        clear hb
        go_wp2_with fail
        refine (Hrat.out _).mono ?_
        rintro e w5 ⟨rfl, hb⟩
        have Hw5 := Lib.hid (show Below w.heap.size w w5 from Hw4.out.trans (hb.mono Hw4.out.size))
        clear hb
        have hs5 := Hw5.out.size
        go_wp2_with fail
        refine (Hratio.out _).mono ?_
        rintro e w6 ⟨rfl, hb⟩
        have HB5 := Lib.hid ((Box4.new w5 (.bool Q1.neg) (.string Q1.mag) (.bool Q2.neg) (.string Q2.mag) 36).below hb (by simp))
        have Hw6 := Lib.hid (show Below w.heap.size w w6 from (Hw5.out.alloc hs5 _).trans (hb.mono (by simp; omega)))
        clear hb
        go_upto_region 13 with (fail)
        have HB7 := Lib.hid (Box4.new w6 (.bool Q1.neg) (.string Q1.mag) (.bool Q2.neg) (.string Q2.mag) 36)
        have hb6 : Below w6.heap.size w6 (w6.alloc (.cells #[.bool Q1.neg, .string Q1.mag, .bool Q2.neg, .string Q2.mag] 36)) := (Below.refl _ _).alloc (Nat.le_refl _) _
        have HB5b := Lib.hid (HB5.out.below hb6 HB5.out.2.2.2.2.2)
        have Hw7 := Lib.hid (Hw6.out.trans (hb6.mono Hw6.out.size))
        clear hb6
        generalize (w6.alloc (.cells #[.bool Q1.neg, .string Q1.mag, .bool Q2.neg, .string Q2.mag] 36)) = V at *
        obtain ⟨c0, c1, c2, c3, _, hc⟩ := HB5b.out
        obtain ⟨g0, g1, g2, g3, _, hg⟩ := HB7.out
        go_wp2_with (go_at_call 12; go_fit (awake_any _); rintro e w8 ⟨rfl, hb8⟩; have Hb8 := Lib.hid hb8; clear hb8)
        go_ret
        exact ⟨rfl, Hw7.out.trans (Hb8.out.mono Hw7.out.size)⟩
end Go.Proofs.Ytlkajmdcffemeaa
