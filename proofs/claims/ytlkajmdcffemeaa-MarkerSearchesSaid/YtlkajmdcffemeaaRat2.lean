/- The walks of rational.New, Ratio. -/
import Derived.Test.YtlkajmdcffemeaaRat1
namespace Go.Proofs.Ytlkajmdcffemeaa
open Go.RowKit

theorem rat_boxes (w : World) (a0 a1 b0 b1 c0 c1 c2 c3 : Value) (t u : TypeId) : ∃ V, (((w.alloc (.cells #[a0, a1] t)).alloc (.cells #[b0, b1] t)).alloc (.cells #[c0, c1, c2, c3] u)) = V ∧ BoxAt V w.heap.size a0 a1 ∧ BoxAt V (w.heap.size + 1) b0 b1 ∧ Box4 V (w.heap.size + 1 + 1) c0 c1 c2 c3 ∧ Below w.heap.size w V ∧ V.heap.size = w.heap.size + 1 + 1 + 1 := by
  obtain ⟨W, hW, hA, hB, hb, hs⟩ := two_boxes w a0 a1 b0 b1 t
  rw [hW]
  refine ⟨_, rfl, hA.alloc _, hB.alloc _, ?_, hb.alloc (by omega) _, by simp [hs]⟩
  have := Box4.new W c0 c1 c2 c3 u
  rwa [hs] at this

set_option maxRecDepth 100000 in
set_option maxHeartbeats 8000000 in
theorem new_any (n d : Nat) (hn0 : 0 < n) (hd0 : 0 < d) (hn : n < 4294967296) (hd : d < 4294967296) (w : World) :
    Calls Try.prog 50 #[.agg #[.bool (canon (n : Int)).neg, .string (canon (n : Int)).mag], .agg #[.bool (canon (d : Int)).neg, .string (canon (d : Int)).mag]] w fun e w' => e = .returned (.tuple #[ratV ((n / Nat.gcd n d : Nat) : Int) ((d / Nat.gcd n d : Nat) : Int), .int .i64 0]) ∧ Below w.heap.size w w' := by
  have Hc1 := Lib.hid (cmp_pos d hd0 hd)
  have Hl := Lib.hid (lowest_any n d hn0 hd0 hn hd)
  unfold RetR at Hl
  unfold ratV at Hl ⊢
  clear hn0 hd0 hn hd
  generalize canon ((n / Nat.gcd n d : Nat) : Int) = Q1 at *
  generalize canon ((d / Nat.gcd n d : Nat) : Int) = Q2 at *
  generalize canon (n : Int) = N at *
  generalize canon (d : Int) = D at *
  go_enter Try.func50, Try.ntmps50
  go_wp2_with fail
  obtain ⟨V, hV, hA, hB, hC, hb0, hs0⟩ := rat_boxes w (.bool N.neg) (.string N.mag) (.bool D.neg) (.string D.mag) (.bool false) (.string ⟨#[]⟩) (.bool false) (.string ⟨#[]⟩) 34 36
  rw [hV]
  have HA := Lib.hid hA
  have HB := Lib.hid hB
  have HC := Lib.hid hC
  have Hb0 := Lib.hid hb0
  have Hs0 := Lib.hid hs0
  clear hA hB hC hb0 hs0 hV
  refine (Hc1.out _).mono ?_
  rintro e wa ⟨rfl, hb⟩
  have Hwa := Lib.hid (show Below V.heap.size V wa from hb)
  obtain ⟨a0, a1, _, _, _⟩ := HA.out.below Hwa.out HA.out.2.2.2.2
  obtain ⟨b0, b1, _, _, _⟩ := HB.out.below Hwa.out HB.out.2.2.2.2
  clear hb
  have n1 : ¬ (w.heap.size = w.heap.size + 1 + 1) := by omega
  have n2 : ¬ (w.heap.size + 1 + 1 = w.heap.size) := by omega
  go_wp2_with fail
  refine (Hl.out _).mono ?_
  rintro e wb ⟨rfl, hb⟩
  have Hwb := Lib.hid (show Below V.heap.size V wb from Hwa.out.trans (hb.mono Hwa.out.size))
  obtain ⟨c0, c1, c2, c3, c4, hc⟩ := HC.out.below Hwb.out HC.out.2.2.2.2.2
  have f0 := c4 0
  have f1 := c4 1
  have f2 := c4 2
  have f3 := c4 3
  clear hb c4
  go_wp2_with fail
  refine bodyPost_ret (v := .tuple #[.agg #[.bool Q1.neg, .string Q1.mag, .bool Q2.neg, .string Q2.mag], .int .i64 0]) ?_ rfl ⟨rfl, ?_⟩
  · simp [results, Try.results50, go_sem, c0, c1, c2, c3]
  · exact ((((Hb0.out.trans (Hwb.out.mono (by have := Hs0.out; omega))).setCell (by simp; omega) _).setCell (by simp; omega) _).setCell (by simp; omega) _).setCell (by simp; omega) _

set_option maxRecDepth 100000 in
set_option maxHeartbeats 8000000 in
theorem ratio_any (n d : Nat) (hn0 : 0 < n) (hd0 : 0 < d) (hn : n < 4294967296) (hd : d < 4294967296) (w : World) :
    Calls Try.prog 23 #[.int .i64 (n : Int), .int .i64 (d : Int)] w fun e w' => e = .returned (.tuple #[ratV ((n / Nat.gcd n d : Nat) : Int) ((d / Nat.gcd n d : Nat) : Int), .int .i64 0]) ∧ Below w.heap.size w w' := by
  have Hon := Lib.hid (of_any (n : Int) (by omega) (by omega))
  have Hod := Lib.hid (of_any (d : Int) (by omega) (by omega))
  have Hnew := Lib.hid (new_any n d hn0 hd0 hn hd)
  unfold ratV at Hnew ⊢
  unfold RetZ at Hon Hod
  clear hn0 hd0 hn hd
  generalize canon ((n / Nat.gcd n d : Nat) : Int) = Q1 at *
  generalize canon ((d / Nat.gcd n d : Nat) : Int) = Q2 at *
  generalize canon (n : Int) = N at *
  generalize canon (d : Int) = D at *
  go_enter Try.func23, Try.ntmps23
  go_wp2_with fail
  have hC := Box4.new w (.bool false) (.string ⟨#[]⟩) (.bool false) (.string ⟨#[]⟩) 36
  have hb0 : Below w.heap.size w (w.alloc (.cells #[.bool false, .string ⟨#[]⟩, .bool false, .string ⟨#[]⟩] 36)) := (Below.refl _ _).alloc (Nat.le_refl _) _
  have hs0 : (w.alloc (.cells #[.bool false, .string ⟨#[]⟩, .bool false, .string ⟨#[]⟩] 36)).heap.size = w.heap.size + 1 := by simp
  generalize (w.alloc (.cells #[.bool false, .string ⟨#[]⟩, .bool false, .string ⟨#[]⟩] 36)) = V at *
  have HC := Lib.hid hC
  have Hb0 := Lib.hid hb0
  have Hs0 := Lib.hid hs0
  clear hC hb0 hs0
  refine (Hon.out _).mono ?_
  rintro e wa ⟨rfl, hb⟩
  have Hwa := Lib.hid (show Below V.heap.size V wa from hb)
  clear hb
  go_wp2_with fail
  refine (Hod.out _).mono ?_
  rintro e wb ⟨rfl, hb⟩
  have Hwb := Lib.hid (show Below V.heap.size V wb from Hwa.out.trans (hb.mono Hwa.out.size))
  clear hb
  go_wp2_with fail
  refine (Hnew.out _).mono ?_
  rintro e wc ⟨rfl, hb⟩
  have Hwc := Lib.hid (show Below V.heap.size V wc from Hwb.out.trans (hb.mono Hwb.out.size))
  obtain ⟨c0, c1, c2, c3, c4, hc⟩ := HC.out.below Hwc.out HC.out.2.2.2.2.2
  have f0 := c4 0
  have f1 := c4 1
  have f2 := c4 2
  have f3 := c4 3
  clear hb c4
  go_wp2_with fail
  refine bodyPost_ret (v := .tuple #[.agg #[.bool Q1.neg, .string Q1.mag, .bool Q2.neg, .string Q2.mag], .int .i64 0]) ?_ rfl ⟨rfl, ?_⟩
  · simp [results, Try.results23, go_sem, c0, c1, c2, c3]
  · exact ((((Hb0.out.trans (Hwc.out.mono (by have := Hs0.out; omega))).setCell (by simp) _).setCell (by simp) _).setCell (by simp) _).setCell (by simp) _
end Go.Proofs.Ytlkajmdcffemeaa
