/- grooveref02: lowest, New, Ratio of numbers of one digit. -/
import Derived.Test.YtlkajmdcffemeaaRD
import Derived.Test.YtlkajmdcffemeaaRat2
namespace Go.Proofs.Ytlkajmdcffemeaa
open Go.RowKit

theorem Box4.far {w : World} {g : Nat} {a b c d : Value} (h : Box4 w g a b c d) {p : Addr} (hp : g ≠ p.block) (v : Value) : Box4 (w.setCell p v) g a b c d :=
  h.of_block (by simp) (Below.heap_setCell w p v g hp)
set_option maxRecDepth 100000 in
set_option maxHeartbeats 8000000 in
theorem refLowest_any (n d : Nat) (hn0 : 0 < n) (hd0 : 0 < d) (hn : n < 256) (hd : d < 256) (w : World) :
    Calls Try.prog 83 #[.agg #[.bool (canon (n : Int)).neg, .string (canon (n : Int)).mag], .agg #[.bool (canon (d : Int)).neg, .string (canon (d : Int)).mag]] w (RetR ((n / Nat.gcd n d : Nat) : Int) ((d / Nat.gcd n d : Nat) : Int) w) := by
  have hg0 : 0 < Nat.gcd n d := Nat.gcd_pos_of_pos_left _ hn0
  have hgl : Nat.gcd n d < 256 := Nat.lt_of_le_of_lt (Nat.le_of_dvd hn0 (Nat.gcd_dvd_left _ _)) hn
  have Hc1 := Lib.hid (refSign_pos d hd0 hd)
  have Hg := Lib.hid (refGcd_any n d hn0 hn hd0 hd)
  have Hq1 := Lib.hid (refDiv_any n (Nat.gcd n d) hn hg0 hgl)
  have Hq2 := Lib.hid (refDiv_any d (Nat.gcd n d) hd hg0 hgl)
  unfold RetR ratV
  clear hg0 hgl hn0 hd0 hn hd
  generalize canon ((n % Nat.gcd n d : Nat) : Int) = R1 at *
  generalize canon ((d % Nat.gcd n d : Nat) : Int) = R2 at *
  generalize canon ((n / Nat.gcd n d : Nat) : Int) = Q1 at *
  generalize canon ((d / Nat.gcd n d : Nat) : Int) = Q2 at *
  generalize canon ((Nat.gcd n d : Nat) : Int) = G at *
  generalize canon (n : Int) = N at *
  generalize canon (d : Int) = D at *
  go_enter Try.func83, Try.ntmps83
  go_wp2_with fail
  obtain ⟨V, hV, hA, hB, hC, hb0, hs0⟩ := rat_boxes w (.bool N.neg) (.string N.mag) (.bool D.neg) (.string D.mag) (.bool false) (.string ⟨#[]⟩) (.bool false) (.string ⟨#[]⟩) 34 36
  rw [hV]
  have HA := Lib.hid hA
  have HB := Lib.hid hB
  have HC := Lib.hid hC
  have Hb0 := Lib.hid hb0
  have Hs0 := Lib.hid hs0
  clear hA hB hC hb0 hs0 hV
  refine (Hc1.out _).mono ?_
  rintro e wa ⟨rfl, hb⟩
  have Hwa := Lib.hid (show Below V.heap.size V wa from hb)
  obtain ⟨a0, a1, _, _, _⟩ := HA.out.below Hwa.out HA.out.2.2.2.2
  obtain ⟨b0, b1, _, _, _⟩ := HB.out.below Hwa.out HB.out.2.2.2.2
  clear hb
  go_wp2_with fail
  refine (Hg.out _).mono ?_
  rintro e wc ⟨rfl, hb⟩
  have Hwc := Lib.hid (show Below V.heap.size V wc from (Hwa.out.trans (hb.mono Hwa.out.size)))
  have n1 : ¬ (w.heap.size = w.heap.size + 1) := by omega
  have n2 : ¬ (w.heap.size + 1 = w.heap.size) := by omega
  have hs1 := Hwc.out.size
  have hs2 := Hs0.out
  have n3 : ¬ (w.heap.size = wc.heap.size) := by omega
  have n4 : ¬ (w.heap.size + 1 = wc.heap.size) := by omega
  have n5 : ¬ (wc.heap.size = w.heap.size) := by omega
  have n6 : ¬ (wc.heap.size = w.heap.size + 1) := by omega
  obtain ⟨a0, a1, a2, a3, _⟩ := HA.out.below Hwc.out HA.out.2.2.2.2
  obtain ⟨b0, b1, b2, b3, _⟩ := HB.out.below Hwc.out HB.out.2.2.2.2
  clear hb
  go_wp2_with fail
  refine (Hq1.out _).mono ?_
  rintro e wd ⟨rfl, hb⟩
  have HG := Lib.hid ((BoxAt.new wc (.bool G.neg) (.string G.mag) 34).call hb)
  have Hwd := Lib.hid (show Below V.heap.size V wd from Hwc.out.trans ((((Below.refl _ _).alloc (Nat.le_refl _) _).trans (hb.mono (by simp))).mono Hwc.out.size))
  have HAd := Lib.hid (HA.out.below Hwd.out HA.out.2.2.2.2)
  have HBd := Lib.hid (HB.out.below Hwd.out HB.out.2.2.2.2)
  have HCd := Lib.hid (HC.out.below Hwd.out HC.out.2.2.2.2.2)
  clear a0 a1 a2 a3 b0 b1 b2 b3 hb
  obtain ⟨a0, a1, a2, a3, _⟩ := HAd.out
  go_upto_region 5 with (fail)
  obtain ⟨X, hX⟩ : ∃ X, (wd.setCell ⟨w.heap.size, 0, none⟩ (.bool Q1.neg)).setCell ⟨w.heap.size, 1, none⟩ (.string Q1.mag) = X := ⟨_, rfl⟩
  have HAx := Lib.hid (show BoxAt X w.heap.size (.bool Q1.neg) (.string Q1.mag) from hX ▸ HAd.out.set _ _)
  have HBx := Lib.hid (show BoxAt X (w.heap.size + 1) (.bool D.neg) (.string D.mag) from hX ▸ (HBd.out.far (by simp) _).far (by simp) _)
  have HGx := Lib.hid (show BoxAt X wc.heap.size (.bool G.neg) (.string G.mag) from hX ▸ (HG.out.far (by simp; omega) _).far (by simp; omega) _)
  have HCx := Lib.hid (show Box4 X (w.heap.size + 1 + 1) (.bool false) (.string ⟨#[]⟩) (.bool false) (.string ⟨#[]⟩) from hX ▸ (HCd.out.far (by simp; omega) _).far (by simp; omega) _)
  have HwX := Lib.hid (show Below w.heap.size w X from hX ▸ ((Hb0.out.trans (Hwd.out.mono (by omega))).setCell (by simp) _).setCell (by simp) _)
  have HsX := Lib.hid (show X.heap.size = wd.heap.size from by rw [← hX]; simp)
  rw [hX]
  clear a0 a1 a2 a3 hX
  obtain ⟨b0, b1, b2, b3, _⟩ := HBx.out
  obtain ⟨g0, g1, g2, g3, _⟩ := HGx.out
  go_wp2_with fail
  refine (Hq2.out _).mono ?_
  rintro e we ⟨rfl, hb⟩
  have HAe := Lib.hid (HAx.out.call hb)
  have HBe := Lib.hid (HBx.out.call hb)
  have HCe := Lib.hid (HCx.out.below hb HCx.out.2.2.2.2.2)
  have Hwe := Lib.hid (below_call HwX.out HwX.out.size hb)
  clear b0 b1 b2 b3 g0 g1 g2 g3 hb
  obtain ⟨b0, b1, b2, b3, _⟩ := HBe.out
  go_upto_region 6 with (fail)
  obtain ⟨Y, hY⟩ : ∃ Y, (we.setCell ⟨w.heap.size + 1, 0, none⟩ (.bool Q2.neg)).setCell ⟨w.heap.size + 1, 1, none⟩ (.string Q2.mag) = Y := ⟨_, rfl⟩
  have HAy := Lib.hid (show BoxAt Y w.heap.size (.bool Q1.neg) (.string Q1.mag) from hY ▸ (HAe.out.far (by simp) _).far (by simp) _)
  have HBy := Lib.hid (show BoxAt Y (w.heap.size + 1) (.bool Q2.neg) (.string Q2.mag) from hY ▸ HBe.out.set _ _)
  have HCy := Lib.hid (show Box4 Y (w.heap.size + 1 + 1) (.bool false) (.string ⟨#[]⟩) (.bool false) (.string ⟨#[]⟩) from hY ▸ (HCe.out.far (by simp) _).far (by simp) _)
  have HwY := Lib.hid (show Below w.heap.size w Y from hY ▸ (Hwe.out.setCell (by simp) _).setCell (by simp) _)
  rw [hY]
  clear b0 b1 b2 b3 hY
  obtain ⟨a0, a1, a2, a3, _⟩ := HAy.out
  obtain ⟨b0, b1, b2, b3, _⟩ := HBy.out
  obtain ⟨c0, c1, c2, c3, c4, hc⟩ := HCy.out
  have f0 := c4 0
  have f1 := c4 1
  have f2 := c4 2
  have f3 := c4 3
  clear c4
  go_wp2_with fail
  refine bodyPost_ret (v := .agg #[.bool Q1.neg, .string Q1.mag, .bool Q2.neg, .string Q2.mag]) ?_ rfl ⟨rfl, ?_⟩
  · simp [results, Try.results83, go_sem, c0, c1, c2, c3]
  · exact below_set4 HwY.out (by simp; omega) (by simp; omega) (by simp; omega) (by simp; omega) _ _ _ _

set_option maxRecDepth 100000 in
set_option maxHeartbeats 8000000 in
theorem refNew_any (n d : Nat) (hn0 : 0 < n) (hd0 : 0 < d) (hn : n < 256) (hd : d < 256) (w : World) :
    Calls Try.prog 66 #[.agg #[.bool (canon (n : Int)).neg, .string (canon (n : Int)).mag], .agg #[.bool (canon (d : Int)).neg, .string (canon (d : Int)).mag]] w fun e w' => e = .returned (.tuple #[ratV ((n / Nat.gcd n d : Nat) : Int) ((d / Nat.gcd n d : Nat) : Int), .int .i64 0]) ∧ Below w.heap.size w w' := by
  have Hc1 := Lib.hid (refSign_pos d hd0 hd)
  have Hl := Lib.hid (refLowest_any n d hn0 hd0 hn hd)
  unfold RetR at Hl
  unfold ratV at Hl ⊢
  clear hn0 hd0 hn hd
  generalize canon ((n / Nat.gcd n d : Nat) : Int) = Q1 at *
  generalize canon ((d / Nat.gcd n d : Nat) : Int) = Q2 at *
  generalize canon (n : Int) = N at *
  generalize canon (d : Int) = D at *
  go_enter Try.func66, Try.ntmps66
  go_wp2_with fail
  obtain ⟨V, hV, hA, hB, hC, hb0, hs0⟩ := rat_boxes w (.bool N.neg) (.string N.mag) (.bool D.neg) (.string D.mag) (.bool false) (.string ⟨#[]⟩) (.bool false) (.string ⟨#[]⟩) 34 36
  rw [hV]
  have HA := Lib.hid hA
  have HB := Lib.hid hB
  have HC := Lib.hid hC
  have Hb0 := Lib.hid hb0
  have Hs0 := Lib.hid hs0
  clear hA hB hC hb0 hs0 hV
  refine (Hc1.out _).mono ?_
  rintro e wa ⟨rfl, hb⟩
  have Hwa := Lib.hid (show Below V.heap.size V wa from hb)
  obtain ⟨a0, a1, _, _, _⟩ := HA.out.below Hwa.out HA.out.2.2.2.2
  obtain ⟨b0, b1, _, _, _⟩ := HB.out.below Hwa.out HB.out.2.2.2.2
  clear hb
  have n1 : ¬ (w.heap.size = w.heap.size + 1 + 1) := by omega
  have n2 : ¬ (w.heap.size + 1 + 1 = w.heap.size) := by omega
  go_wp2_with fail
  refine (Hl.out _).mono ?_
  rintro e wb ⟨rfl, hb⟩
  have Hwb := Lib.hid (show Below V.heap.size V wb from Hwa.out.trans (hb.mono Hwa.out.size))
  obtain ⟨c0, c1, c2, c3, c4, hc⟩ := HC.out.below Hwb.out HC.out.2.2.2.2.2
  have f0 := c4 0
  have f1 := c4 1
  have f2 := c4 2
  have f3 := c4 3
  clear hb c4
  go_wp2_with fail
  refine bodyPost_ret (v := .tuple #[.agg #[.bool Q1.neg, .string Q1.mag, .bool Q2.neg, .string Q2.mag], .int .i64 0]) ?_ rfl ⟨rfl, ?_⟩
  · simp [results, Try.results66, go_sem, c0, c1, c2, c3]
  · exact ((((Hb0.out.trans (Hwb.out.mono (by have := Hs0.out; omega))).setCell (by simp; omega) _).setCell (by simp; omega) _).setCell (by simp; omega) _).setCell (by simp; omega) _

set_option maxRecDepth 100000 in
set_option maxHeartbeats 8000000 in
theorem refRatio_any (n d : Nat) (hn0 : 0 < n) (hd0 : 0 < d) (hn : n < 256) (hd : d < 256) (w : World) :
    Calls Try.prog 49 #[.int .i64 (n : Int), .int .i64 (d : Int)] w fun e w' => e = .returned (.tuple #[ratV ((n / Nat.gcd n d : Nat) : Int) ((d / Nat.gcd n d : Nat) : Int), .int .i64 0]) ∧ Below w.heap.size w w' := by
  have Hon := Lib.hid (refOf_any n hn)
  have Hod := Lib.hid (refOf_any d hd)
  have Hnew := Lib.hid (refNew_any n d hn0 hd0 hn hd)
  unfold ratV at Hnew ⊢
  unfold RetZ at Hon Hod
  clear hn0 hd0 hn hd
  generalize canon ((n / Nat.gcd n d : Nat) : Int) = Q1 at *
  generalize canon ((d / Nat.gcd n d : Nat) : Int) = Q2 at *
  generalize canon (n : Int) = N at *
  generalize canon (d : Int) = D at *
  go_enter Try.func49, Try.ntmps49
  go_wp2_with fail
  have hC := Box4.new w (.bool false) (.string ⟨#[]⟩) (.bool false) (.string ⟨#[]⟩) 36
  have hb0 : Below w.heap.size w (w.alloc (.cells #[.bool false, .string ⟨#[]⟩, .bool false, .string ⟨#[]⟩] 36)) := (Below.refl _ _).alloc (Nat.le_refl _) _
  have hs0 : (w.alloc (.cells #[.bool false, .string ⟨#[]⟩, .bool false, .string ⟨#[]⟩] 36)).heap.size = w.heap.size + 1 := by simp
  generalize (w.alloc (.cells #[.bool false, .string ⟨#[]⟩, .bool false, .string ⟨#[]⟩] 36)) = V at *
  have HC := Lib.hid hC
  have Hb0 := Lib.hid hb0
  have Hs0 := Lib.hid hs0
  clear hC hb0 hs0
  refine (Hon.out _).mono ?_
  rintro e wa ⟨rfl, hb⟩
  have Hwa := Lib.hid (show Below V.heap.size V wa from hb)
  clear hb
  go_wp2_with fail
  refine (Hod.out _).mono ?_
  rintro e wb ⟨rfl, hb⟩
  have Hwb := Lib.hid (show Below V.heap.size V wb from Hwa.out.trans (hb.mono Hwa.out.size))
  clear hb
  go_wp2_with fail
  refine (Hnew.out _).mono ?_
  rintro e wc ⟨rfl, hb⟩
  have Hwc := Lib.hid (show Below V.heap.size V wc from Hwb.out.trans (hb.mono Hwb.out.size))
  obtain ⟨c0, c1, c2, c3, c4, hc⟩ := HC.out.below Hwc.out HC.out.2.2.2.2.2
  have f0 := c4 0
  have f1 := c4 1
  have f2 := c4 2
  have f3 := c4 3
  clear hb c4
  go_wp2_with fail
  refine bodyPost_ret (v := .tuple #[.agg #[.bool Q1.neg, .string Q1.mag, .bool Q2.neg, .string Q2.mag], .int .i64 0]) ?_ rfl ⟨rfl, ?_⟩
  · simp [results, Try.results49, go_sem, c0, c1, c2, c3]
  · exact ((((Hb0.out.trans (Hwc.out.mono (by have := Hs0.out; omega))).setCell (by simp) _).setCell (by simp) _).setCell (by simp) _).setCell (by simp) _
end Go.Proofs.Ytlkajmdcffemeaa
