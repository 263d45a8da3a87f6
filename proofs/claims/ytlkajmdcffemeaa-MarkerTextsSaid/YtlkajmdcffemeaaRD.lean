/- grooveref01: Div of numbers of one digit. -/
import Derived.Test.YtlkajmdcffemeaaRG
import Derived.Deep.DeepCutAuto
namespace Go.Proofs.Ytlkajmdcffemeaa
open Go.RowKit

theorem BoxAt.set {w : World} {g : Nat} {a b : Value} (h : BoxAt w g a b) (x y : Value) : BoxAt ((w.setCell ⟨g, 0, none⟩ x).setCell ⟨g, 1, none⟩ y) g x y := by
  obtain ⟨h0, h1, h2, h3, h4⟩ := h
  refine ⟨?_, ?_, ?_, ?_, ?_⟩ <;> simp [go_sem, h0, h1, h2, h3, h4]
theorem BoxAt.far {w : World} {g : Nat} {a b : Value} (h : BoxAt w g a b) {p : Addr} (hp : g ≠ p.block) (v : Value) : BoxAt (w.setCell p v) g a b :=
  h.of_block (by simp) (Below.heap_setCell w p v g hp)
theorem BoxAt.far4 {w : World} {g : Nat} {a b : Value} (h : BoxAt w g a b) {p q r s : Addr} (hp : g ≠ p.block) (hq : g ≠ q.block) (hr : g ≠ r.block) (hs : g ≠ s.block) (v1 v2 v3 v4 : Value) : BoxAt ((((w.setCell p v1).setCell q v2).setCell r v3).setCell s v4) g a b :=
  (((h.far hp _).far hq _).far hr _).far hs _
theorem below_set4 {w0 w : World} {B : Nat} (h : Below B w0 w) {p q r s : Addr} (hp : B ≤ p.block) (hq : B ≤ q.block) (hr : B ≤ r.block) (hs : B ≤ s.block) (v1 v2 v3 v4 : Value) : Below B w0 ((((w.setCell p v1).setCell q v2).setCell r v3).setCell s v4) :=
  (((h.setCell hp _).setCell hq _).setCell hr _).setCell hs _
theorem four_boxes (w : World) (a0 a1 b0 b1 c0 c1 d0 d1 : Value) (t : TypeId) : ∃ W, ((((w.alloc (.cells #[a0, a1] t)).alloc (.cells #[b0, b1] t)).alloc (.cells #[c0, c1] t)).alloc (.cells #[d0, d1] t)) = W ∧ BoxAt W w.heap.size a0 a1 ∧ BoxAt W (w.heap.size + 1) b0 b1 ∧ BoxAt W (w.heap.size + 1 + 1) c0 c1 ∧ BoxAt W (w.heap.size + 1 + 1 + 1) d0 d1 ∧ Below w.heap.size w W ∧ W.heap.size = w.heap.size + 1 + 1 + 1 + 1 := by
  obtain ⟨W, hW, hA, hB, hC, hb, hs⟩ := three_boxes w a0 a1 b0 b1 c0 c1 t
  rw [hW]
  refine ⟨_, rfl, hA.alloc _, hB.alloc _, hC.alloc _, ?_, hb.alloc (by omega) _, by simp [hs]⟩
  have := BoxAt.new W d0 d1 t
  rwa [hs] at this

set_option maxRecDepth 100000 in
set_option maxHeartbeats 8000000 in
theorem refDiv_any (n d : Nat) (hn : n < 256) (hd0 : 0 < d) (hd : d < 256) (w : World) :
    Calls Try.prog 96 #[.agg #[.bool (canon (n : Int)).neg, .string (canon (n : Int)).mag], .agg #[.bool (canon (d : Int)).neg, .string (canon (d : Int)).mag]] w (RetDiv (canon ((n / d : Nat) : Int)) (canon ((n % d : Nat) : Int)) w) := by
  have hd1 := canon_size_one hd0 hd
  have hn1 : (canon (n : Int)).mag.size ≤ 4 := canon_nat_size (by omega)
  have hc1 := refCanonical_any (canon (n : Int)) (by omega)
  have hc2 := refCanonical_any (canon (d : Int)) (by omega)
  rw [valZ_canon] at hc1 hc2
  have hs1 := refSmall_any (canon (n : Int)).mag (by omega)
  have hs2 := refSmall_any (canon (d : Int)).mag (by omega)
  rw [bval_canon] at hs1 hs2
  have ho1 := refOf_any (n / d) (Nat.lt_of_le_of_lt (Nat.div_le_self _ _) hn)
  have ho2 := refOf_any (n % d) (Nat.lt_of_lt_of_le (Nat.mod_lt _ hd0) (by omega))
  generalize canon ((n / d : Nat) : Int) = Q at *
  generalize canon ((n % d : Nat) : Int) = R at *
  rw [Int.natCast_ediv] at ho1
  rw [Int.natCast_emod] at ho2
  have Ho : Hid (∀ (x : Int) (Z : ZI), (x = (n : Int) / (d : Int) ∧ Z = Q) ∨ (x = (n : Int) % (d : Int) ∧ Z = R) → ∀ w, Calls Try.prog 67 #[.int .i64 x] w (RetZ Z w)) := Lib.hid fun x Z hx => by
    rcases hx with ⟨rfl, rfl⟩ | ⟨rfl, rfl⟩
    · exact ho1
    · exact ho2
  clear ho1 ho2
  have hwq : wrap64 ((n : Int) / (d : Int)) = (n : Int) / (d : Int) := by
    have h1 : (n : Int) / (d : Int) = ((n / d : Nat) : Int) := by rw [Int.natCast_ediv]
    have h2 : n / d ≤ n := Nat.div_le_self _ _
    rw [h1]
    unfold wrap64
    generalize n / d = k at *
    omega
  have hwq2 : IntKind.i64.wrap ((n : Int) / (d : Int)) = (n : Int) / (d : Int) := by
    have h1 : (n : Int) / (d : Int) = ((n / d : Nat) : Int) := by rw [Int.natCast_ediv]
    have h2 : n / d ≤ n := Nat.div_le_self _ _
    rw [h1, IntKind.wrap_i64]
    generalize n / d = k at *
    omega
  have hdz : ((d : Int) == 0) = false := by rw [beq_eq_false_iff_ne]; omega
  have hdz2 : ¬ (d : Int) = 0 := by omega
  have hne1 := canon_nonneg n
  have hne2 := canon_nonneg d
  generalize canon (n : Int) = A at *
  generalize canon (d : Int) = B at *
  obtain ⟨An, Am⟩ := A
  obtain ⟨Bn, Bm⟩ := B
  dsimp only at *
  subst hne1 hne2
  have Hc : Hid (∀ x, x = Am ∨ x = Bm → ∀ w, Calls Try.prog 103 #[.agg #[.bool false, .string x]] w (RetZ ⟨false, x⟩ w)) := Lib.hid fun x hx => by
    rcases hx with rfl | rfl
    · exact hc1
    · exact hc2
  have Hs : Hid (∀ x (k : Nat), (x = Am ∧ k = n) ∨ (x = Bm ∧ k = d) → ∀ w, Calls Try.prog 107 #[.string x] w fun e w' => e = .returned (.int .i64 (k : Int)) ∧ w = w') := Lib.hid fun x k hx => by
    rcases hx with ⟨rfl, rfl⟩ | ⟨rfl, rfl⟩
    · exact hs1
    · exact hs2
  have e1 : Bm.toList.isEmpty = false := by
    rw [Bool.eq_false_iff]
    exact fun h => by have := (str_empty Bm).1 h; omega
  have i1 : (Am.size : Int) < 8 := by omega
  have i2 : (Bm.size : Int) < 8 := by omega
  clear hc1 hc2 hs1 hs2
  go_enter Try.func96, Try.ntmps96
  go_upto_region 1 with (fail)
  obtain ⟨W, hW, hA, hB, hC, hD, hb0, hs0⟩ := four_boxes w (.bool false) (.string Am) (.bool false) (.string Bm) (.bool false) (.string ⟨#[]⟩) (.bool false) (.string ⟨#[]⟩) 34
  rw [hW]
  have HA := Lib.hid hA
  have HB := Lib.hid hB
  have HC := Lib.hid hC
  have HD := Lib.hid hD
  have Hs0 := Lib.hid hs0
  have Hb0 := Lib.hid hb0
  have Hb1 := Lib.hid (Below.refl W.heap.size W)
  have n1 : ¬ (w.heap.size = w.heap.size + 1) := by omega
  have n2 : ¬ (w.heap.size + 1 = w.heap.size) := by omega
  clear hW hb0 hs0 hA hB hC hD
  go_cut [6] (fun v wx => v = .int .i64 0 ∧ Hid (BoxAt wx w.heap.size (.bool false) (.string Am)) ∧ Hid (BoxAt wx (w.heap.size + 1) (.bool false) (.string Bm)) ∧ Hid (BoxAt wx (w.heap.size + 1 + 1) (.bool false) (.string ⟨#[]⟩)) ∧ Hid (BoxAt wx (w.heap.size + 1 + 1 + 1) (.bool false) (.string ⟨#[]⟩)) ∧ Hid (Below w.heap.size w wx) ∧ Hid (W.heap.size ≤ wx.heap.size))
  case first =>
    obtain ⟨a0, a1, a2, a3, _⟩ := HA.out
    obtain ⟨b0, b1, b2, b3, _⟩ := HB.out
    go_region_with (go_at_call 103; go_fit (Hc.out _ (by first | exact .inl rfl | exact .inr rfl) _); rintro e wx ⟨rfl, hb⟩; have HA := Lib.hid (by first | exact BoxAt.call HA.out hb | exact BoxAt.callD HA.out hb); have HB := Lib.hid (by first | exact BoxAt.call HB.out hb | exact BoxAt.callD HB.out hb); have HC := Lib.hid (by first | exact BoxAt.call HC.out hb | exact BoxAt.callD HC.out hb); have HD := Lib.hid (by first | exact BoxAt.call HD.out hb | exact BoxAt.callD HD.out hb); have Hb1 := Lib.hid (by first | exact below_call Hb1.out (by have := Hb1.out.size; have := Hs0.out; omega) hb | exact below_callD Hb1.out (by have := Hb1.out.size; have := Hs0.out; omega) hb); obtain ⟨a0, a1, a2, a3, _⟩ := HA.out; obtain ⟨b0, b1, b2, b3, _⟩ := HB.out; clear hb)
    all_goals
      go_wp2_with fail
      go_meet
      refine ⟨rfl, Lib.hid ?_, Lib.hid ?_, Lib.hid ?_, Lib.hid ?_, Lib.hid ?_, Lib.hid ?_⟩
      · exact ((HA.out.set _ _).far (by simp) _).far (by simp) _
      · exact (((HB.out.far (by simp) _).far (by simp) _).set _ _)
      · exact ((((HC.out.far (by simp; omega) _).far (by simp; omega) _).far (by simp) _).far (by simp) _)
      · exact ((((HD.out.far (by simp; omega) _).far (by simp; omega) _).far (by simp; omega) _).far (by simp; omega) _)
      · exact (((((Hb0.out.trans (Hb1.out.mono (by have := Hs0.out; omega))).setCell (by simp) _).setCell (by simp) _).setCell (by simp) _).setCell (by simp) _)
      · simpa using Hb1.out.size
  case rest =>
    obtain ⟨rfl, HA2, HB2, HC2, HD2, Hb2, Hs2⟩ := hcut
    obtain ⟨a0, a1, a2, a3, _⟩ := HA2.out
    obtain ⟨b0, b1, b2, b3, _⟩ := HB2.out
    go_upto_region 6 with (fail)
    obtain ⟨V, hV, hQ, hR, hbV, hsV⟩ := two_boxes wc (.bool false) (.string ⟨#[]⟩) (.bool false) (.string ⟨#[]⟩) 34
    rw [hV]
    have HQ := Lib.hid hQ
    have HR := Lib.hid hR
    have HA := Lib.hid (HA2.out.call hbV)
    have HB := Lib.hid (HB2.out.call hbV)
    have HC := Lib.hid (HC2.out.call hbV)
    have HD := Lib.hid (HD2.out.call hbV)
    have HbV := Lib.hid (below_call Hb2.out Hb2.out.size hbV)
    have HsV := Lib.hid hsV
    have Hwc := Lib.hid (show w.heap.size + 1 + 1 + 1 + 1 ≤ wc.heap.size by have := Hs2.out; have := Hs0.out; omega)
    clear a0 a1 a2 a3 b0 b1 b2 b3 hV hQ hR hbV hsV
    obtain ⟨a0, a1, a2, a3, _⟩ := HA.out
    obtain ⟨b0, b1, b2, b3, _⟩ := HB.out
    go_quiet ((go_at_call 107; exact quiet_l (Hs.out _ _ (by first | exact .inl ⟨rfl, rfl⟩ | exact .inr ⟨rfl, rfl⟩) _)))
    go_upto_region 7 with (fail)
    have HA := Lib.hid (HA.out.call (Drawn.below ⟨nq, rfl⟩ _))
    have HC := Lib.hid (HC.out.call (Drawn.below ⟨nq, rfl⟩ _))
    have HB := Lib.hid (HB.out.call (Drawn.below ⟨nq, rfl⟩ _))
    have HD := Lib.hid (HD.out.call (Drawn.below ⟨nq, rfl⟩ _))
    have HQ := Lib.hid (HQ.out.call (Drawn.below ⟨nq, rfl⟩ _))
    have HR := Lib.hid (HR.out.call (Drawn.below ⟨nq, rfl⟩ _))
    have HbV := Lib.hid (HbV.out.trans ((Drawn.below ⟨nq, rfl⟩ _ : Below V.heap.size V (V.drewN nq)).mono HbV.out.size))
    have HsV : Hid ((V.drewN nq).heap.size = wc.heap.size + 1 + 1) := Lib.hid HsV.out
    clear a0 a1 a2 a3 b0 b1 b2 b3
    generalize V.drewN nq = U at *
    have Hb1 := Lib.hid (Below.refl U.heap.size U)
    have m1 : ¬ (wc.heap.size = wc.heap.size + 1) := by omega
    have m2 : ¬ (wc.heap.size + 1 = wc.heap.size) := by omega
    go_cut [6] (fun v wx => v = .int .i64 0 ∧ Hid (BoxAt wx (w.heap.size + 1 + 1) (.bool false) (.string ⟨#[]⟩)) ∧ Hid (BoxAt wx (w.heap.size + 1 + 1 + 1) (.bool false) (.string ⟨#[]⟩)) ∧ Hid (BoxAt wx wc.heap.size (.bool Q.neg) (.string Q.mag)) ∧ Hid (BoxAt wx (wc.heap.size + 1) (.bool R.neg) (.string R.mag)) ∧ Hid (BoxAt wx w.heap.size (.bool false) (.string Am)) ∧ Hid (BoxAt wx (w.heap.size + 1) (.bool false) (.string Bm)) ∧ Hid (Below w.heap.size w wx))
    case first =>
      obtain ⟨q0, q1, q2, q3, _⟩ := HQ.out
      obtain ⟨r0, r1, r2, r3, _⟩ := HR.out
      go_region_with (go_at_call 67; go_fit (Ho.out _ _ (by first | exact .inl ⟨rfl, rfl⟩ | exact .inr ⟨rfl, rfl⟩) _); rintro e wx ⟨rfl, hb⟩; have HQ := Lib.hid (by first | exact BoxAt.call HQ.out hb | exact BoxAt.callD HQ.out hb); have HR := Lib.hid (by first | exact BoxAt.call HR.out hb | exact BoxAt.callD HR.out hb); have Hb1 := Lib.hid (by first | exact below_call Hb1.out Hb1.out.size hb | exact below_callD Hb1.out Hb1.out.size hb); obtain ⟨q0, q1, q2, q3, _⟩ := HQ.out; obtain ⟨r0, r1, r2, r3, _⟩ := HR.out; clear hb)
      all_goals
        go_wp2_with fail
        go_meet
        have kw := Hwc.out
        refine ⟨rfl, Lib.hid ?_, Lib.hid ?_, Lib.hid ?_, Lib.hid ?_, Lib.hid ?_, Lib.hid ?_, Lib.hid ?_⟩
        · exact (HC.out.below Hb1.out HC.out.2.2.2.2).far4 (by simp; omega) (by simp; omega) (by simp; omega) (by simp; omega) _ _ _ _
        · exact (HD.out.below Hb1.out HD.out.2.2.2.2).far4 (by simp; omega) (by simp; omega) (by simp; omega) (by simp; omega) _ _ _ _
        · exact ((HQ.out.set _ _).far (by simp) _).far (by simp) _
        · exact (((HR.out.far (by simp) _).far (by simp) _).set _ _)
        · exact (HA.out.below Hb1.out HA.out.2.2.2.2).far4 (by simp; omega) (by simp; omega) (by simp; omega) (by simp; omega) _ _ _ _
        · exact (HB.out.below Hb1.out HB.out.2.2.2.2).far4 (by simp; omega) (by simp; omega) (by simp; omega) (by simp; omega) _ _ _ _
        · exact below_set4 (HbV.out.trans (Hb1.out.mono HbV.out.size)) (by simp; omega) (by simp; omega) (by simp; omega) (by simp; omega) _ _ _ _
    case rest =>
      obtain ⟨rfl, HC3, HD3, HQ3, HR3, HA3, HB3, Hb3⟩ := hcut
      rename_i wd _
      obtain ⟨a0, a1, a2, a3, _⟩ := HA3.out
      obtain ⟨b0, b1, b2, b3, _⟩ := HB3.out
      obtain ⟨c0, c1, c2, c3, _⟩ := HC3.out
      obtain ⟨d0, d1, d2, d3, _⟩ := HD3.out
      obtain ⟨q0, q1, q2, q3, _⟩ := HQ3.out
      obtain ⟨r0, r1, r2, r3, _⟩ := HR3.out
      have k1 : ¬ (w.heap.size + 1 + 1 = w.heap.size + 1 + 1 + 1) := by omega
      have k2 : ¬ (w.heap.size + 1 + 1 + 1 = w.heap.size + 1 + 1) := by omega
      have kw := Hwc.out
      have k3 : ¬ (w.heap.size + 1 + 1 = wc.heap.size) := by omega
      have k4 : ¬ (w.heap.size + 1 + 1 = wc.heap.size + 1) := by omega
      have k5 : ¬ (w.heap.size + 1 + 1 + 1 = wc.heap.size) := by omega
      have k6 : ¬ (w.heap.size + 1 + 1 + 1 = wc.heap.size + 1) := by omega
      go_wp2_with fail
      go_region
      go_wp2_with fail
      refine bodyPost_ret (v := .tuple #[.agg #[.bool Q.neg, .string Q.mag], .agg #[.bool R.neg, .string R.mag], .int .i64 0]) ?_ rfl ⟨rfl, ?_⟩
      · simp [results, Try.results96, go_sem, c0, c1, d0, d1]
      · exact (below_set4 Hb3.out (by simp; omega) (by simp; omega) (by simp; omega) (by simp; omega) _ _ _ _).drew
end Go.Proofs.Ytlkajmdcffemeaa
