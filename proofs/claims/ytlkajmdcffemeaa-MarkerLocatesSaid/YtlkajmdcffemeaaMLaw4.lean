/- The walk of MarkerLocates. -/
import Derived.Test.YtlkajmdcffemeaaRec
import Derived.Test.YtlkajmdcffemeaaEq
import Derived.Test.YtlkajmdcffemeaaAwk
import Derived.Test.YtlkajmdcffemeaaRC
namespace Go.Proofs.Ytlkajmdcffemeaa
open Go.RowKit

theorem locErr_zero {b : Int} {m s : ByteArray} (h : locErr b m s = 0) : (blksW b.toNat m s).length ≤ 65536 := by
  unfold locErr at h
  split at h
  · rename_i h2; exact absurd h h2
  · rename_i h2
    obtain ⟨_, ⟨hm1, _⟩, hs⟩ := mkErr_ok (Classical.not_not.1 h2)
    have := blksW_len b.toNat m s hm1
    omega
theorem locOut_len (b : Int) (m s : ByteArray) : (locOut b m s).length ≤ 65536 := by
  unfold locOut
  split
  · rename_i h; rw [List.length_map]; exact locErr_zero h
  · exact Nat.zero_le _
theorem recOutW_len (b : Int) (m s : ByteArray) : (recOutW b m s).length ≤ 65536 := by
  unfold recOutW
  split
  · rename_i h; unfold recW; rw [List.length_map]; exact locErr_zero h
  · exact Nat.zero_le _
theorem recOutG_len (b : Int) (m s : ByteArray) : (recOutG b m s).length ≤ 65536 := by
  unfold recOutG
  split
  · rename_i h; unfold recG; rw [List.length_map]; exact locErr_zero h
  · exact Nat.zero_le _

set_option maxRecDepth 100000 in
set_option maxHeartbeats 8000000 in
theorem locatesLaw (b : Int) (m s : ByteArray) (w : World) (hm : m.size ≤ maxLen) (hs : s.size ≤ maxLen) :
    Calls Try.prog 6 #[.int .i64 b, .string m, .string s] w fun e w' => e = .returned (.bool true) ∧ Below w.heap.size w w' := by
  have Hls := Lib.hid (long_any 60 s)
  have Hlm := Lib.hid (long_any 60 m)
  cases hS : longB 60 s
  case true =>
    rw [hS] at Hls
    clear hS
    go_enter Try.func6, Try.ntmps6
    go_wp2_with first
      | (go_at_call 14; go_fit (Hls.out _); rintro e w1 ⟨rfl, rfl⟩)
      | (go_at_call 12; go_fit (awake_any _); rintro e w2 ⟨rfl, hb2⟩; have Hb2 := Lib.hid hb2; clear hb2)
    go_ret
    exact ⟨rfl, Hb2.out⟩
  case false =>
    rw [hS] at Hls
    clear hS
    cases hM : longB 60 m
    case true =>
      rw [hM] at Hlm
      clear hM
      go_enter Try.func6, Try.ntmps6
      go_wp2_with fail
      refine (Hls.out _).mono ?_
      rintro e w1 ⟨rfl, rfl⟩
      go_wp2_with fail
      refine (Hlm.out _).mono ?_
      rintro e w1 ⟨rfl, rfl⟩
      go_wp2_with (go_at_call 12; go_fit (awake_any _); rintro e w2 ⟨rfl, hb2⟩; have Hb2 := Lib.hid hb2; clear hb2)
      go_ret
      exact ⟨rfl, Hb2.out⟩
    case false =>
      rw [hM] at Hlm
      clear hM
      have Hl1 := Lib.hid (Locate_any b m s hm hs)
      have Hl2 := Lib.hid (refLocate49_any b m s hm hs)
      have Hr1 := Lib.hid (Recover_any b m s hm hs)
      have Hr2 := Lib.hid (refRecover_any b m s hm hs)
      have hL := locOut_len b m s
      have hLW := recOutW_len b m s
      have hLG := recOutG_len b m s
      generalize locOut b m s = L at *
      generalize recOutW b m s = W at *
      generalize recOutG b m s = G at *
      generalize locErr b m s = E at *
      go_enter Try.func6, Try.ntmps6
      go_wp2_with fail
      refine (Hls.out _).mono ?_
      rintro e w1 ⟨rfl, rfl⟩
      go_wp2_with fail
      refine (Hlm.out _).mono ?_
      rintro e w1 ⟨rfl, rfl⟩
      go_wp2_with fail
      refine (Hl1.out _).mono ?_
      rintro e w1 ⟨v1, rfl, _, ho, hb⟩
      obtain ⟨p1, c1, rfl, _, hI1, _⟩ := ho.form
      have HI1 := Lib.hid hI1
      have Hw1 := Lib.hid hb
      clear hb hI1 ho
      go_wp2_with fail
      refine (Hl2.out _).mono ?_
      rintro e w2 ⟨v2, rfl, _, ho, hb⟩
      obtain ⟨p2, c2, rfl, _, hI2, _⟩ := ho.form
      have HI2 := Lib.hid hI2
      have HI1 := Lib.hid (HI1.out.below (Nat.le_refl _) hb)
      have Hw2 := Lib.hid (below_call Hw1.out Hw1.out.size hb)
      clear hb hI2 ho
      go_wp2_with fail
      refine (Hr1.out _).mono ?_
      rintro e w3 ⟨v3, g3, rfl, ho, hg, hb⟩
      obtain ⟨p3, c3, rfl, _, hS3, _⟩ := ho.form
      obtain ⟨q3, d3, rfl, _, hB3, _⟩ := hg.form
      have HS3 := Lib.hid hS3
      have HB3 := Lib.hid hB3
      have HI1 := Lib.hid (HI1.out.below (Nat.le_refl _) hb)
      have HI2 := Lib.hid (HI2.out.below (Nat.le_refl _) hb)
      have Hw3 := Lib.hid (below_call Hw2.out Hw2.out.size hb)
      clear hb hS3 hB3 ho hg
      go_wp2_with fail
      refine (Hr2.out _).mono ?_
      rintro e w4 ⟨v4, g4, rfl, ho, hg, hb⟩
      obtain ⟨p4, c4, rfl, _, hS4, _⟩ := ho.form
      obtain ⟨q4, d4, rfl, _, hB4, _⟩ := hg.form
      have HS4 := Lib.hid hS4
      have HB4 := Lib.hid hB4
      have HI1 := Lib.hid (HI1.out.below (Nat.le_refl _) hb)
      have HI2 := Lib.hid (HI2.out.below (Nat.le_refl _) hb)
      have HS3 := Lib.hid (HS3.out.below (Nat.le_refl _) hb)
      have HB3 := Lib.hid (HB3.out.below (Nat.le_refl _) hb)
      have Hw4 := Lib.hid (below_call Hw3.out Hw3.out.size hb)
      clear hb hS4 hB4 ho hg
      go_wp2_with fail
      refine (sameInts_any L p1 p2 c1 c2 _ HI1.out HI2.out (by omega)).mono ?_
      rintro e w5 ⟨rfl, hd⟩
      have Hd5 := Lib.hid hd
      clear hd
      go_wp2_with fail
      refine (sameStrs_any W p3 p4 c3 c4 _ (HS3.out.below (Nat.le_refl _) (Drawn.below Hd5.out _)) (HS4.out.below (Nat.le_refl _) (Drawn.below Hd5.out _)) (by omega)).mono ?_
      rintro e w6 ⟨rfl, hd⟩
      have Hd6 := Lib.hid (Hd5.out.trans hd)
      clear hd
      go_wp2_with fail
      refine (sameBools_any G q3 q4 d3 d4 _ (HB3.out.below (Nat.le_refl _) (Drawn.below Hd6.out _)) (HB4.out.below (Nat.le_refl _) (Drawn.below Hd6.out _)) (by omega)).mono ?_
      rintro e w7 ⟨rfl, hd⟩
      have Hd7 := Lib.hid (Hd6.out.trans hd)
      clear hd
      go_wp2_with (go_at_call 12; go_fit (awake_any _); rintro e w8 ⟨rfl, hb8⟩; have Hb8 := Lib.hid hb8; clear hb8)
      go_ret
      have hb7 := Hw4.out.trans ((Drawn.below Hd7.out w4.heap.size).mono Hw4.out.size)
      exact ⟨rfl, hb7.trans (Hb8.out.mono hb7.size)⟩
end Go.Proofs.Ytlkajmdcffemeaa
