/- The walk of MarkerRests. -/
import Derived.Test.YtlkajmdcffemeaaRec
import Derived.Test.YtlkajmdcffemeaaEq
import Derived.Test.YtlkajmdcffemeaaSrch
import Derived.Test.YtlkajmdcffemeaaRst
import Derived.Test.YtlkajmdcffemeaaAwk
import Derived.Test.YtlkajmdcffemeaaFine
namespace Go.Proofs.Ytlkajmdcffemeaa
open Go.RowKit

theorem max3 {P : Program} (ts : Array TypeId) (t : TypeId) (w : World) : (Builtin.max_ ts t #[.int .i64 0, .int .i64 0, .int .i64 0]).run P w = .ok (.int .i64 0) w := by rfl
theorem wds_bits {b : Nat} {xs : List Nat} (h : xs.length ≤ 8) : Wds b (blkWs b xs) := ⟨by unfold blkWs; rw [List.length_map]; exact h, blkWs_size b xs, blkWs_ok b xs⟩
theorem fine_facts {x : Nat} : 1 ≤ fineN x ∧ fineN x ≤ 6 := by unfold fineN; omega
theorem below_then {w0 w w' : World} {B : Nat} (h : Below B w0 w) (hB : B ≤ w.heap.size) (hb : Below w.heap.size w w') : Below B w0 w' := h.trans (hb.mono hB)

set_option maxRecDepth 100000 in
set_option maxHeartbeats 16000000 in
theorem restsLaw (x : Nat) (m : ByteArray) (p : Option Addr) (c : Nat) (xs : List Nat) (w : World) (hx : x ≤ 255) (hm : m.size ≤ maxLen) (hX : ByteAt w p xs) (hx256 : ∀ x ∈ xs, x < 256) (_hxl : xs.length ≤ maxLen) :
    Calls Try.prog 7 #[.int .u8 (x : Int), .string m, .slice p xs.length c] w fun e w' => e = .returned (.bool true) ∧ Below w.heap.size w w' := by
  have Hf := Lib.hid (fine_any x m hx hm)
  have hfn := fine_facts (x := x)
  obtain ⟨b, hbe⟩ : ∃ b, fineN x = b := ⟨_, rfl⟩
  rw [hbe] at Hf hfn
  obtain ⟨hb1, hb2⟩ := hfn
  have HX := Lib.hid hX
  clear hX
  cases hF : fineB m
  · rw [hF] at Hf
    clear hF hbe
    go_enter Try.func7, Try.ntmps7
    go_wp2_with first
      | (go_at_call 11; go_fit (Hf.out _); rintro e w1 ⟨rfl, hd⟩; have Hd := Lib.hid hd; clear hd)
      | (go_at_call 12; go_fit (awake_any _); rintro e w2 ⟨rfl, hb2⟩; have Hb2 := Lib.hid hb2; clear hb2)
    go_ret
    exact ⟨rfl, (Drawn.below Hd.out _).trans (Hb2.out.mono (by rw [Drawn.heap Hd.out]; exact Nat.le_refl _))⟩
  · rw [hF] at Hf
    by_cases h8 : 8 < xs.length
    · have h8I : decide ((8 : Int) < (xs.length : Int)) = true := by rw [decide_eq_true_eq]; omega
      clear hF hbe
      go_enter Try.func7, Try.ntmps7
      go_wp2_with first
        | (go_at_call 11; go_fit (Hf.out _); rintro e w1 ⟨rfl, hd⟩; have Hd := Lib.hid hd; clear hd)
        | (go_at_call 12; go_fit (awake_any _); rintro e w2 ⟨rfl, hb2⟩; have Hb2 := Lib.hid hb2; clear hb2)
      go_ret
      exact ⟨rfl, (Drawn.below Hd.out _).trans (Hb2.out.mono (by rw [Drawn.heap Hd.out]; exact Nat.le_refl _))⟩
    · have h8I : decide ((8 : Int) < (xs.length : Int)) = false := by rw [decide_eq_false_iff_not]; omega
      have hw := wds_bits (b := b) (xs := xs) (by omega)
      obtain ⟨hm1, hm2, _⟩ := fine_marker hF
      have hwl : (blkWs b xs).length = xs.length := by unfold blkWs; rw [List.length_map]
      have hBl := fun W hW => blocksL_any b (by omega) xs hx256 p c W hW (by omega)
      generalize hws : blkWs b xs = ws at *
      obtain ⟨hi1, hi2⟩ := insert_track ⟨hb1, hb2⟩ hF hw
      have hmk := track_ok ⟨hb1, hb2⟩ hF hw
      obtain ⟨hl1, hl2, hl3, hl4⟩ := loc_track hm1 hw.size hmk
      have hts := track_size (m := m) hw
      have hwsz := word_size hw
      have Hins := Lib.hid (fun W => Insert_any (b : Int) m (wordOf ws) hm (by rw [hwsz]; have := Nat.mul_le_mul hw.len hb2; unfold maxLen; omega) W)
      have htsz : (trackOf m ws).size ≤ 112 := by rw [hts]; have := Nat.mul_le_mul hw.len (show b + m.size ≤ 14 by omega); omega
      have Hloc := Lib.hid (fun W => Locate_any (b : Int) m (trackOf m ws) hm (by unfold maxLen; omega) W)
      have Hrec := Lib.hid (fun W => Recover_any (b : Int) m (trackOf m ws) hm (by unfold maxLen; omega) W)
      have hjl : (joinL ws).length ≤ 1000000000000 := by
        rw [joinL_len hw.size]; have := Nat.mul_le_mul hw.len hb2; omega
      rw [hi1, hi2] at Hins
      rw [hl1, hl2] at Hloc
      rw [hl1, hl3, hl4] at Hrec
      have Hjo := Lib.hid (fun p c W (hW : StrsAt W p ws) => joined_any ws p c W hW (by rw [hwl]; omega) hjl)
      have HBl := Lib.hid hBl
      have hmax := @max3 Try.prog
      have hw1 : (⟨(joinL ws).toArray⟩ : ByteArray) = wordOf ws := rfl
      rw [hw1] at Hjo
      have hn8 : xs.length ≤ 8 := by omega
      have hz1 := Lib.hid (map_getD_int ws)
      have hz2 := Lib.hid (map_getD_bool ws)
      have hll : (ws.map fun _ => (0 : Int)).length = xs.length := by rw [List.length_map, hwl]
      have hlg : (ws.map fun _ => true).length = xs.length := by rw [List.length_map, hwl]
      generalize wordOf ws = WW at *
      generalize trackOf m ws = TT at *
      generalize (ws.map fun _ => (0 : Int)) = LI at *
      generalize (ws.map fun _ => true) = LG at *
      have c1b : ((LI.length : Int) != (xs.length : Int)) = false := by rw [bne_eq_false_iff_eq]; omega
      have c2b : ((LG.length : Int) != (xs.length : Int)) = false := by rw [bne_eq_false_iff_eq]; omega
      have Hwl := Lib.hid hwl
      have Hll := Lib.hid hll
      have Hlg := Lib.hid hlg
      clear hF hbe hws hw hi1 hi2 hl1 hl2 hl3 hl4 hmk hts hwsz hBl hw1 hjl hwl hll hlg
      go_enter Try.func7, Try.ntmps7
      go_wp2_with (go_at_call 11; go_fit (Hf.out _); rintro e w1 ⟨rfl, hd⟩; have Hd := Lib.hid hd; clear hd)
      refine (HBl.out _ (HX.out.below (Nat.le_refl _) (Drawn.below Hd.out _))).mono ?_
      rintro e w2 ⟨v, rfl, ho, hb⟩
      obtain ⟨p2, c2, rfl, _, hS, _⟩ := ho.form
      have HS := Lib.hid hS
      have Hw2 := Lib.hid (show Below w.heap.size w w2 from (Drawn.below Hd.out _).trans (hb.mono (by rw [Drawn.heap Hd.out]; exact Nat.le_refl _)))
      clear ho hb hS
      go_wp2_with fail
      refine (Hjo.out p2 c2 _ HS.out).mono ?_
      rintro e w2' ⟨rfl, rfl⟩
      go_wp2_with fail
      refine (Hins.out _).mono ?_
      rintro e w3 ⟨rfl, hb⟩
      have HS := Lib.hid (HS.out.below (Nat.le_refl _) hb)
      have Hw3 := Lib.hid (below_then Hw2.out Hw2.out.size hb)
      clear hb
      go_wp2_with fail
      refine (Hloc.out _).mono ?_
      rintro e w4 ⟨v4, rfl, _, ho, hb⟩
      obtain ⟨p4, c4, rfl, _, hI, _⟩ := ho.form
      have HI := Lib.hid hI
      have HS := Lib.hid (HS.out.below (Nat.le_refl _) hb)
      have Hw4 := Lib.hid (below_then Hw3.out Hw3.out.size hb)
      clear hb hI ho
      go_wp2_with fail
      refine (Hrec.out _).mono ?_
      rintro e w5 ⟨v5, g5, rfl, ho, hg, hb⟩
      obtain ⟨p5, c5, rfl, _, hS5, _⟩ := ho.form
      obtain ⟨q5, d5, rfl, _, hB5, _⟩ := hg.form
      have HS5 := Lib.hid hS5
      have HB5 := Lib.hid hB5
      have HI := Lib.hid (HI.out.below (Nat.le_refl _) hb)
      have HS := Lib.hid (HS.out.below (Nat.le_refl _) hb)
      have Hw5 := Lib.hid (below_then Hw4.out Hw4.out.size hb)
      clear hb hS5 hB5 ho hg
      go_wp2_with fail
      refine (sameStrs_any ws p5 p2 c5 c2 _ HS5.out HS.out (by have := Hwl.out; omega)).mono ?_
      rintro e w6 ⟨rfl, hd⟩
      have Hd6 := Lib.hid hd
      clear hd
      go_wp2_with fail
      refine (containsFunc_zeros LI hz1.out p4 c4 _ (HI.out.below (Nat.le_refl _) (Drawn.below Hd6.out _)) (by have := Hll.out; have := Hlg.out; omega)).mono ?_
      rintro e w7 ⟨rfl, rfl⟩
      go_wp2_with fail
      refine (contains_trues LG hz2.out q5 d5 _ (HB5.out.below (Nat.le_refl _) (Drawn.below Hd6.out _)) (by have := Hll.out; have := Hlg.out; omega)).mono ?_
      rintro e w7 ⟨rfl, rfl⟩
      go_wp2_with (go_at_call 12; go_fit (awake_any _); rintro e w8 ⟨rfl, hb8⟩; have Hb8 := Lib.hid hb8; clear hb8)
      go_ret
      have hb7 := Hw5.out.trans ((Drawn.below Hd6.out w5.heap.size).mono Hw5.out.size)
      exact ⟨rfl, hb7.trans (Hb8.out.mono hb7.size)⟩
end Go.Proofs.Ytlkajmdcffemeaa
