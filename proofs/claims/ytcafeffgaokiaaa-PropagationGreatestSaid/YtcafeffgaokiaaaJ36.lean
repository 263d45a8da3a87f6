/- rational.New, Ratio and grooveref02.New, Ratio: of a number that may be 0. -/
import Derived.Test.YtcafeffgaokiaaaJ16
import Derived.Test.YtcafeffgaokiaaaJ35
namespace Go.Proofs.Ytcafeffgaokiaaa
open Go.RowKit
theorem canon_small {n : Nat} (h : n < 4294967296) : (canon (n : Int)).mag.size ≤ 90000000 := by have := canon_nat_size h; omega
theorem lowQ_any (n d : Nat) (hn : n < 4294967296) (hd : d < 4294967296) (w : World) :
    Calls Try.prog 77 #[.agg #[.bool (canon (n : Int)).neg, .string (canon (n : Int)).mag], .agg #[.bool (canon (d : Int)).neg, .string (canon (d : Int)).mag]] w (RetR (rloN n d) (rloD n d) w) := by
  have h := lowZ_any (canon (n : Int)) (canon (d : Int)) (by have := canon_small hn; omega) (by have := canon_small hd; omega) w
  rw [valZ_canon, valZ_canon] at h
  exact h
set_option maxRecDepth 100000 in
set_option maxHeartbeats 8000000 in
theorem newQ_any (n d : Nat) (hd0 : 0 < d) (hn : n < 4294967296) (hd : d < 4294967296) (w : World) :
    Calls Try.prog 49 #[.agg #[.bool (canon (n : Int)).neg, .string (canon (n : Int)).mag], .agg #[.bool (canon (d : Int)).neg, .string (canon (d : Int)).mag]] w fun e w' => e = .returned (.tuple #[ratV (rloN n d) (rloD n d), .int .i64 0]) ∧ Below w.heap.size w w' := by
  have Hc1 := Lib.hid (cmp_pos d hd0 hd)
  have Hl := Lib.hid (lowQ_any n d hn hd)
  unfold RetR at Hl
  unfold ratV at Hl ⊢
  clear hd0 hn hd
  generalize canon (rloN n d) = Q1 at *
  generalize canon (rloD n d) = Q2 at *
  generalize canon (n : Int) = N at *
  generalize canon (d : Int) = D at *
  go_enter Try.func49, Try.ntmps49
  go_wp2_with fail
  obtain ⟨V, hV, hA, hB, hC, hb0, hs0⟩ := rat_boxes w (.bool N.neg) (.string N.mag) (.bool D.neg) (.string D.mag) (.bool false) (.string ⟨#[]⟩) (.bool false) (.string ⟨#[]⟩) 48 50
  rw [hV]
  have HA := Lib.hid hA
  have HB := Lib.hid hB
  have HC := Lib.hid hC
  have Hb0 := Lib.hid hb0
  have Hs0 := Lib.hid hs0
  clear hA hB hC hb0 hs0 hV
  refine (Hc1.out _).mono ?_
  rintro e wa ⟨rfl, hb⟩
  have Hwa := Lib.hid (show Below V.heap.size V wa from hb)
  obtain ⟨a0, a1, _, _, _⟩ := HA.out.below Hwa.out HA.out.2.2.2.2
  obtain ⟨b0, b1, _, _, _⟩ := HB.out.below Hwa.out HB.out.2.2.2.2
  clear hb
  have n1 : ¬ (w.heap.size = w.heap.size + 1 + 1) := by omega
  have n2 : ¬ (w.heap.size + 1 + 1 = w.heap.size) := by omega
  go_wp2_with fail
  refine (Hl.out _).mono ?_
  rintro e wb ⟨rfl, hb⟩
  have Hwb := Lib.hid (show Below V.heap.size V wb from Hwa.out.trans (hb.mono Hwa.out.size))
  obtain ⟨c0, c1, c2, c3, c4, hc⟩ := HC.out.below Hwb.out HC.out.2.2.2.2.2
  have f0 := c4 0
  have f1 := c4 1
  have f2 := c4 2
  have f3 := c4 3
  clear hb c4
  go_wp2_with fail
  refine bodyPost_ret (v := .tuple #[.agg #[.bool Q1.neg, .string Q1.mag, .bool Q2.neg, .string Q2.mag], .int .i64 0]) ?_ rfl ⟨rfl, ?_⟩
  · simp [results, Try.results49, go_sem, c0, c1, c2, c3]
  · exact ((((Hb0.out.trans (Hwb.out.mono (by have := Hs0.out; omega))).setCell (by simp; omega) _).setCell (by simp; omega) _).setCell (by simp; omega) _).setCell (by simp; omega) _

set_option maxRecDepth 100000 in
set_option maxHeartbeats 8000000 in
theorem ratioQ_any (n d : Nat) (hd0 : 0 < d) (hn : n < 4294967296) (hd : d < 4294967296) (w : World) :
    Calls Try.prog 25 #[.int .i64 (n : Int), .int .i64 (d : Int)] w fun e w' => e = .returned (.tuple #[ratV (rloN n d) (rloD n d), .int .i64 0]) ∧ Below w.heap.size w w' := by
  have Hon := Lib.hid (of_any (n : Int) (by omega) (by omega))
  have Hod := Lib.hid (of_any (d : Int) (by omega) (by omega))
  have Hnew := Lib.hid (newQ_any n d hd0 hn hd)
  unfold ratV at Hnew ⊢
  unfold RetZ at Hon Hod
  clear hd0 hn hd
  generalize canon (rloN n d) = Q1 at *
  generalize canon (rloD n d) = Q2 at *
  generalize canon (n : Int) = N at *
  generalize canon (d : Int) = D at *
  go_enter Try.func25, Try.ntmps25
  go_wp2_with fail
  have hC := Box4.new w (.bool false) (.string ⟨#[]⟩) (.bool false) (.string ⟨#[]⟩) 50
  have hb0 : Below w.heap.size w (w.alloc (.cells #[.bool false, .string ⟨#[]⟩, .bool false, .string ⟨#[]⟩] 50)) := (Below.refl _ _).alloc (Nat.le_refl _) _
  have hs0 : (w.alloc (.cells #[.bool false, .string ⟨#[]⟩, .bool false, .string ⟨#[]⟩] 50)).heap.size = w.heap.size + 1 := by simp
  generalize (w.alloc (.cells #[.bool false, .string ⟨#[]⟩, .bool false, .string ⟨#[]⟩] 50)) = V at *
  have HC := Lib.hid hC
  have Hb0 := Lib.hid hb0
  have Hs0 := Lib.hid hs0
  clear hC hb0 hs0
  refine (Hon.out _).mono ?_
  rintro e wa ⟨rfl, hb⟩
  have Hwa := Lib.hid (show Below V.heap.size V wa from hb)
  clear hb
  go_wp2_with fail
  refine (Hod.out _).mono ?_
  rintro e wb ⟨rfl, hb⟩
  have Hwb := Lib.hid (show Below V.heap.size V wb from Hwa.out.trans (hb.mono Hwa.out.size))
  clear hb
  go_wp2_with fail
  refine (Hnew.out _).mono ?_
  rintro e wc ⟨rfl, hb⟩
  have Hwc := Lib.hid (show Below V.heap.size V wc from Hwb.out.trans (hb.mono Hwb.out.size))
  obtain ⟨c0, c1, c2, c3, c4, hc⟩ := HC.out.below Hwc.out HC.out.2.2.2.2.2
  have f0 := c4 0
  have f1 := c4 1
  have f2 := c4 2
  have f3 := c4 3
  clear hb c4
  go_wp2_with fail
  refine bodyPost_ret (v := .tuple #[.agg #[.bool Q1.neg, .string Q1.mag, .bool Q2.neg, .string Q2.mag], .int .i64 0]) ?_ rfl ⟨rfl, ?_⟩
  · simp [results, Try.results25, go_sem, c0, c1, c2, c3]
  · exact ((((Hb0.out.trans (Hwc.out.mono (by have := Hs0.out; omega))).setCell (by simp) _).setCell (by simp) _).setCell (by simp) _).setCell (by simp) _
end Go.Proofs.Ytcafeffgaokiaaa
