/- integer.divide, Div and Gcd for any divisor. -/
import Derived.Test.YtcafeffgaokiaaaJ27
import Derived.Test.YtcafeffgaokiaaaJ16
namespace Go.Proofs.Ytcafeffgaokiaaa
open Go.RowKit Go.Shelf
attribute [local go_sem] Oper.semAt_some
set_option maxRecDepth 100000 in
set_option maxHeartbeats 4000000 in
theorem divide_less (m n : Nat) (p q : Option Addr) (c d : Nat) (w : World) (hX : NatsAt w p (digs m)) (hY : NatsAt w q (digs n)) (hm : (digs m).length ≤ 100000000) (hnl : (digs n).length ≤ 100000000) (hcm : (digs m).length ≤ c) (hc : c ≤ 1000000000) (hlt : m < n) :
    Calls Try.prog 128 #[.slice p (digs m).length c, .slice q (digs n).length d] w (RetNat2 (m / n) (m % n) w) := by
  have HX := Lib.hid hX
  have HC := Lib.hid (compare_any m n p q c d w hX hY hm hnl)
  have Hv1 := Lib.hid (show cmpN m n = -1 from if_pos hlt)
  have Hq := Lib.hid (show m / n = 0 from Nat.div_eq_of_lt hlt)
  have Hr := Lib.hid (show m % n = m from Nat.mod_eq_of_lt hlt)
  clear hX hY
  go_enter Try.func128, Try.ntmps128
  go_wp2_with (go_at_call 131; refine HC.out.mono ?_; rintro e w' ⟨rfl, hd⟩; have Hd := Lib.hid hd; clear hd; rw [Hv1.out])
  refine bodyPost_ret (v := .tuple #[.slice none 0 0, .slice p (digs m).length c]) ?_ rfl ?_
  · simp [results, Try.results128, go_sem]
  · rw [Hq.out, Hr.out]
    exact ⟨none, 0, p, c, rfl, .inl rfl, Nat.le_refl _, by decide, HX.out.below (Nat.le_refl _) (Drawn.below Hd.out _), hcm, hc, Drawn.below Hd.out _⟩
theorem divide_any (m n : Nat) (p q : Option Addr) (c d : Nat) (w : World) (hX : NatsAt w p (digs m)) (hY : NatsAt w q (digs n)) (hm : (digs m).length ≤ 100000000) (hn : (digs n).length ≤ 100000000) (hcm : (digs m).length ≤ c) (hc : c ≤ 1000000000) (h0 : n ≠ 0) :
    Calls Try.prog 128 #[.slice p (digs m).length c, .slice q (digs n).length d] w (RetNat2 (m / n) (m % n) w) := by
  by_cases h1 : n < 4294967296
  · exact divide_short m n p q c d w hX hY hm hcm hc h0 h1
  by_cases h2 : m < n
  · exact divide_less m n p q c d w hX hY hm hn hcm hc h2
  · exact divide_long m n p q c d w hX hY hm (by omega) (by omega)
set_option maxRecDepth 100000 in
set_option maxHeartbeats 8000000 in
theorem div_any (x y : ZI) (hx : x.mag.size ≤ 100000000) (hy : y.mag.size ≤ 100000000) (h0 : absZ y ≠ 0) (w : World) :
    Calls Try.prog 105 #[.agg #[.bool x.neg, .string x.mag], .agg #[.bool y.neg, .string y.mag]] w (RetDiv (quoZ x y) (remZ x y) w) := by
  have hlx := Lib.hid (digs_len_fit1 hx)
  have hdy1 : 0 < (digs (absZ y)).length ∧ (digs (absZ y)).length ≤ 100000000 := ⟨Nat.pos_of_ne_zero (fun h => h0 (digs_len_pos.1 h)), digs_len_fit1 hy⟩
  have Hdy1 := Lib.hid hdy1
  obtain ⟨a, ha⟩ : ∃ a, absZ x / absZ y = a := ⟨_, rfl⟩
  obtain ⟨r, hr⟩ : ∃ r, absZ x % absZ y = r := ⟨_, rfl⟩
  have hrl : r < absZ y := by rw [← hr]; exact Nat.mod_lt _ (by omega)
  have hal : (digs a).length ≤ 100000000 := Nat.le_trans (digs_len_le (by rw [← ha]; exact Nat.div_le_self _ _)) hlx.out
  have Ha := Lib.hid ha
  have Hr := Lib.hid hr
  have hqu : quoZ x y = if x.neg = y.neg then mkZ false a else if r = 0 then mkZ true a else mkZ true (a + 1) := by unfold quoZ; rw [ha, hr]
  have hre : remZ x y = if x.neg = y.neg then mkZ y.neg r else if r = 0 then mkZ y.neg r else mkZ y.neg (absZ y - r) := by unfold remZ; rw [hr]
  generalize hQ : quoZ x y = Q at *
  generalize hR : remZ x y = R at *
  have Hqu := Lib.hid hqu
  have Hre := Lib.hid hre
  clear hdy1 ha hr hqu hre hQ hR
  go_enter Try.func105, Try.ntmps105
  go_upto_region 1 with (fail)
  obtain ⟨W, hW⟩ : ∃ W, ((((w.alloc (.cells #[.bool x.neg, .string x.mag] 48)).alloc (.cells #[.bool y.neg, .string y.mag] 48)).alloc (.cells #[.bool false, .string ⟨#[]⟩] 48)).alloc (.cells #[.bool false, .string ⟨#[]⟩] 48)) = W := ⟨_, rfl⟩
  have hA : BoxAt W w.heap.size (.bool x.neg) (.string x.mag) := by rw [← hW]; exact (((BoxAt.new w (.bool x.neg) (.string x.mag) 48).alloc _).alloc _).alloc _
  have hB : BoxAt W (w.heap.size + 1) (.bool y.neg) (.string y.mag) := by
    rw [← hW]
    have := ((BoxAt.new (w.alloc (.cells #[.bool x.neg, .string x.mag] 48)) (.bool y.neg) (.string y.mag) 48).alloc (.cells #[.bool false, .string ⟨#[]⟩] 48)).alloc (.cells #[.bool false, .string ⟨#[]⟩] 48)
    rwa [World.size_alloc] at this
  have hC : BoxAt W (w.heap.size + 1 + 1) (.bool false) (.string ⟨#[]⟩) := by
    rw [← hW]
    have := (BoxAt.new ((w.alloc (.cells #[.bool x.neg, .string x.mag] 48)).alloc (.cells #[.bool y.neg, .string y.mag] 48)) (.bool false) (.string ⟨#[]⟩) 48).alloc (.cells #[.bool false, .string ⟨#[]⟩] 48)
    rwa [World.size_alloc, World.size_alloc] at this
  have hE : BoxAt W (w.heap.size + 1 + 1 + 1) (.bool false) (.string ⟨#[]⟩) := by
    rw [← hW]
    have := BoxAt.new (((w.alloc (.cells #[.bool x.neg, .string x.mag] 48)).alloc (.cells #[.bool y.neg, .string y.mag] 48)).alloc (.cells #[.bool false, .string ⟨#[]⟩] 48)) (.bool false) (.string ⟨#[]⟩) 48
    rwa [World.size_alloc, World.size_alloc, World.size_alloc] at this
  have hb0 : Below w.heap.size w W := by rw [← hW]; exact ((((Below.refl _ _).alloc (Nat.le_refl _) _).alloc (by simp) _).alloc (by simp; omega) _).alloc (by simp; omega) _
  have hs0 : W.heap.size = w.heap.size + 1 + 1 + 1 + 1 := by rw [← hW]; simp
  rw [hW]
  have HA := Lib.hid hA
  have HB := Lib.hid hB
  have HC := Lib.hid hC
  have HE := Lib.hid hE
  have Hb0 := Lib.hid hb0
  have Hs0 := Lib.hid hs0
  obtain ⟨a0, a1, _, _, _⟩ := hA
  obtain ⟨b0, b1, _, _, _⟩ := hB
  clear hC hE hb0 hs0 hW
  have n1 : ¬ (w.heap.size = w.heap.size + 1 + 1) := by omega
  have n2 : ¬ (w.heap.size + 1 + 1 = w.heap.size) := by omega
  have n3 : ¬ (w.heap.size = w.heap.size + 1 + 1 + 1) := by omega
  have n4 : ¬ (w.heap.size + 1 + 1 + 1 = w.heap.size) := by omega
  have n5 : ¬ (w.heap.size + 1 = w.heap.size + 1 + 1 + 1) := by omega
  have n6 : ¬ (w.heap.size + 1 + 1 + 1 = w.heap.size + 1) := by omega
  go_cut [7, 8] (fun u v wx => TwoNat W (absZ x) (absZ y) u v wx)
  case first =>
    go_region_held3 (fun w' => w'.cell? ⟨w.heap.size, 0, none⟩ = some (.bool x.neg) ∧ w'.cell? ⟨w.heap.size, 1, none⟩ = some (.string x.mag) ∧ w'.cell? ⟨w.heap.size + 1, 0, none⟩ = some (.bool y.neg) ∧ w'.cell? ⟨w.heap.size + 1, 1, none⟩ = some (.string y.mag)) (go_keep)
    (first
      | (go_at_call 81; go_fit (digits_any x hx _); rintro e wa ⟨pa, ca, rfl, hN, hca1, hca2, hb⟩; have HNa := Lib.hid hN; have Hwa := Lib.hid (show Below W.heap.size W wa from Below.trans (by repeat (first | exact Hwb.out | exact Hwa.out | exact Below.refl _ _ | exact Hab.out | exact Hba.out | refine Below.drew ?_ | refine below_dr ?_)) (hb.mono (by first | exact Nat.le_refl _ | exact Hwa.out.size | exact Hwb.out.size | exact Hab.out.size | exact Hba.out.size))); (try (have Hba := Lib.hid (show Below wb.heap.size wb wa from Below.trans (by repeat (first | exact Hwb.out | exact Hwa.out | exact Below.refl _ _ | exact Hab.out | exact Hba.out | refine Below.drew ?_ | refine below_dr ?_)) (hb.mono (by first | exact Nat.le_refl _ | exact Hwa.out.size | exact Hwb.out.size | exact Hab.out.size | exact Hba.out.size))))); have HA2 := Lib.hid (HA.out.below Hwa.out (by have := Hs0.out; omega)); have HB2 := Lib.hid (HB.out.below Hwa.out (by have := Hs0.out; omega)); obtain ⟨d0, d1, _, _, _⟩ := HA2.out; obtain ⟨e0, e1, _, _, _⟩ := HB2.out; clear hb hN)
      | (go_at_call 81; go_fit (digits_any y hy _); rintro e wb ⟨pb, cb, rfl, hN, hcb1, hcb2, hb⟩; have HNb := Lib.hid hN; have Hwb := Lib.hid (show Below W.heap.size W wb from Below.trans (by repeat (first | exact Hwb.out | exact Hwa.out | exact Below.refl _ _ | exact Hab.out | exact Hba.out | refine Below.drew ?_ | refine below_dr ?_)) (hb.mono (by first | exact Nat.le_refl _ | exact Hwa.out.size | exact Hwb.out.size | exact Hab.out.size | exact Hba.out.size))); (try (have Hab := Lib.hid (show Below wa.heap.size wa wb from Below.trans (by repeat (first | exact Hwb.out | exact Hwa.out | exact Below.refl _ _ | exact Hab.out | exact Hba.out | refine Below.drew ?_ | refine below_dr ?_)) (hb.mono (by first | exact Nat.le_refl _ | exact Hwa.out.size | exact Hwb.out.size | exact Hab.out.size | exact Hba.out.size))))); have HA2 := Lib.hid (HA.out.below Hwb.out (by have := Hs0.out; omega)); have HB2 := Lib.hid (HB.out.below Hwb.out (by have := Hs0.out; omega)); obtain ⟨d0, d1, _, _, _⟩ := HA2.out; obtain ⟨e0, e1, _, _, _⟩ := HB2.out; clear hb hN))
    all_goals
      go_wp2_with fail
      go_meet
      exact ⟨pa, ca, pb, cb, rfl, rfl, HNa.out.below (Nat.le_refl _) (by repeat (first | exact Hwb.out | exact Hwa.out | exact Below.refl _ _ | exact Hab.out | exact Hba.out | refine Below.drew ?_ | refine below_dr ?_)), hca1, hca2, HNb.out.below (Nat.le_refl _) (by repeat (first | exact Hwb.out | exact Hwa.out | exact Below.refl _ _ | exact Hab.out | exact Hba.out | refine Below.drew ?_ | refine below_dr ?_)), hcb1, hcb2, by repeat (first | exact Hwb.out | exact Hwa.out | exact Below.refl _ _ | exact Hab.out | exact Hba.out | refine Below.drew ?_ | refine below_dr ?_)⟩
  case rest =>
    obtain ⟨pa, ca, pb, cb, rfl, rfl, hNa, hca1, hca2, hNb, hcb1, hcb2, hwx⟩ := hcut
    have HNa := Lib.hid hNa
    have HNb := Lib.hid hNb
    have Hwx := Lib.hid hwx
    have HA1 := HA.out.below hwx (by have := Hs0.out; omega)
    have HB1 := HB.out.below hwx (by have := Hs0.out; omega)
    have hdv := divide_any (absZ x) (absZ y) pa pb ca cb wc hNa hNb hlx.out Hdy1.out.2 hca1 hca2 h0
    rw [Ha.out, Hr.out] at hdv
    have Hdv := Lib.hid hdv
    clear a0 a1 b0 b1 hNa hNb hwx hdv
    obtain ⟨a0, a1, _, _, _⟩ := HA1
    obtain ⟨b0, b1, _, _, _⟩ := HB1
    have hly : (((digs (absZ y)).length : Int) == 0) = false := by rw [beq_eq_false_iff_ne]; have := Hdy1.out.1; omega
    by_cases hs : x.neg = y.neg
    · have hsb : (x.neg == y.neg) = true := by rw [beq_iff_eq]; exact hs
      have HQ : Hid (Q = mkZ false a) := Lib.hid (by rw [Hqu.out, if_pos hs])
      have HR : Hid (R = mkZ y.neg r) := Lib.hid (by rw [Hre.out, if_pos hs])
      clear hs
      go_wp2_with (go_at_call 128; go_fit (Hdv.out); rintro e wz ⟨pq, cq, pr, cr, rfl, hNq, hcq1, hcq2, hNr, hcr1, hcr2, hb⟩; have HNq := Lib.hid hNq; have HNr := Lib.hid hNr; have Hdz := Lib.hid hb; have Hwz := Lib.hid (show Below W.heap.size W wz from Hwx.out.trans (hb.mono Hwx.out.size)); have HA2 := Lib.hid (HA.out.below Hwz.out (by have := Hs0.out; omega)); have HB2 := Lib.hid (HB.out.below Hwz.out (by have := Hs0.out; omega)); obtain ⟨d0, d1, _, _, _⟩ := HA2.out; obtain ⟨e0, e1, _, _, _⟩ := HB2.out; clear hNq hNr hb)
      go_region_held3 (fun w' => w'.cell? ⟨w.heap.size, 0, none⟩ = some (.bool x.neg) ∧ w'.cell? ⟨w.heap.size + 1, 0, none⟩ = some (.bool y.neg)) (go_keep)
        (first
          | (go_at_call 78; go_fit (number_digs false (a) pq cq _ (HNq.out.below (Nat.le_refl _) (by repeat (first | exact Hwm.out | exact Below.refl _ _ | refine Below.drew ?_ | refine below_dr ?_))) hcq1 hcq2); rintro e wm ⟨rfl, hb⟩; have Hwm := Lib.hid (show Below wz.heap.size wz wm from Below.trans (by repeat (first | exact Hwm.out | exact Below.refl _ _ | refine Below.drew ?_ | refine below_dr ?_)) (hb.mono (Nat.le_refl _))); have HA3 := Lib.hid (HA.out.below (Hwz.out.trans (Hwm.out.mono Hwz.out.size)) (by have := Hs0.out; omega)); have HB3 := Lib.hid (HB.out.below (Hwz.out.trans (Hwm.out.mono Hwz.out.size)) (by have := Hs0.out; omega)); obtain ⟨g0, g1, _, _, _⟩ := HA3.out; obtain ⟨h0, h1, _, _, _⟩ := HB3.out; clear hb)
          | (go_at_call 78; go_fit (number_digs y.neg (r) pr cr _ (HNr.out.below (Nat.le_refl _) (by repeat (first | exact Hwm.out | exact Below.refl _ _ | refine Below.drew ?_ | refine below_dr ?_))) hcr1 hcr2); rintro e w3 ⟨rfl, hb⟩; have Hw3 := Lib.hid (show Below wz.heap.size wz w3 from Below.trans Hwm.out (Below.trans (by repeat (first | exact Hwm.out | exact Below.refl _ _ | refine Below.drew ?_ | refine below_dr ?_)) (hb.mono Hwm.out.size))); have Hb3 := Lib.hid (show Below W.heap.size W w3 from Hwz.out.trans (Hw3.out.mono Hwz.out.size)); have HA4 := Lib.hid (HA.out.below Hb3.out (by have := Hs0.out; omega)); have HB4 := Lib.hid (HB.out.below Hb3.out (by have := Hs0.out; omega)); have HC4 := Lib.hid (HC.out.below Hb3.out (by have := Hs0.out; omega)); have HE4 := Lib.hid (HE.out.below Hb3.out (by have := Hs0.out; omega)); obtain ⟨g0, g1, _, _, _⟩ := HA4.out; obtain ⟨h0, h1, _, _, _⟩ := HB4.out; obtain ⟨k0, k1, k2, k3, _⟩ := HC4.out; obtain ⟨m0, m1, m2, m3, _⟩ := HE4.out; clear hb))
      all_goals
        go_wp2
        refine bodyPost_ret (v := .tuple #[.agg #[.bool (mkZ false (a)).neg, .string (mkZ false (a)).mag], .agg #[.bool (mkZ y.neg (r)).neg, .string (mkZ y.neg (r)).mag], .int .i64 0]) ?_ rfl ⟨by rw [HQ.out, HR.out], ?_⟩
        · simp [results, Try.results105, go_sem, k0, k1, m0, m1]
        · have hbe := Hb0.out.trans (Hb3.out.mono (by have := Hs0.out; omega))
          repeat (first | exact hbe | refine Below.setCell ?_ (by simp; omega) _ | refine Below.drew ?_)
    · have hsb : (x.neg == y.neg) = false := by rw [beq_eq_false_iff_ne]; exact hs
      by_cases hr0 : r = 0
      · have HQ : Hid (Q = mkZ true a) := Lib.hid (by rw [Hqu.out, if_neg hs, if_pos hr0])
        have HR : Hid (R = mkZ y.neg r) := Lib.hid (by rw [Hre.out, if_neg hs, if_pos hr0])
        have hrl0 : (digs r).length = 0 := by rw [hr0]; rfl
        have hrI : ¬ (0 : Int) < ((digs r).length : Int) := by omega
        have hrB : ¬ 0 < (digs r).length := by omega
        clear hs hr0 hrl0
        go_wp2_with (go_at_call 128; go_fit (Hdv.out); rintro e wz ⟨pq, cq, pr, cr, rfl, hNq, hcq1, hcq2, hNr, hcr1, hcr2, hb⟩; have HNq := Lib.hid hNq; have HNr := Lib.hid hNr; have Hdz := Lib.hid hb; have Hwz := Lib.hid (show Below W.heap.size W wz from Hwx.out.trans (hb.mono Hwx.out.size)); have HA2 := Lib.hid (HA.out.below Hwz.out (by have := Hs0.out; omega)); have HB2 := Lib.hid (HB.out.below Hwz.out (by have := Hs0.out; omega)); obtain ⟨d0, d1, _, _, _⟩ := HA2.out; obtain ⟨e0, e1, _, _, _⟩ := HB2.out; clear hNq hNr hb)
        go_region_held3 (fun w' => w'.cell? ⟨w.heap.size, 0, none⟩ = some (.bool x.neg) ∧ w'.cell? ⟨w.heap.size + 1, 0, none⟩ = some (.bool y.neg)) (go_keep)
          (first
            | (go_at_call 78; go_fit (number_digs true (a) pq cq _ (HNq.out.below (Nat.le_refl _) (by repeat (first | exact Hwm.out | exact Below.refl _ _ | refine Below.drew ?_ | refine below_dr ?_))) hcq1 hcq2); rintro e wm ⟨rfl, hb⟩; have Hwm := Lib.hid (show Below wz.heap.size wz wm from Below.trans (by repeat (first | exact Hwm.out | exact Below.refl _ _ | refine Below.drew ?_ | refine below_dr ?_)) (hb.mono (Nat.le_refl _))); have HA3 := Lib.hid (HA.out.below (Hwz.out.trans (Hwm.out.mono Hwz.out.size)) (by have := Hs0.out; omega)); have HB3 := Lib.hid (HB.out.below (Hwz.out.trans (Hwm.out.mono Hwz.out.size)) (by have := Hs0.out; omega)); obtain ⟨g0, g1, _, _, _⟩ := HA3.out; obtain ⟨h0, h1, _, _, _⟩ := HB3.out; clear hb)
            | (go_at_call 78; go_fit (number_digs y.neg (r) pr cr _ (HNr.out.below (Nat.le_refl _) (by repeat (first | exact Hwm.out | exact Below.refl _ _ | refine Below.drew ?_ | refine below_dr ?_))) hcr1 hcr2); rintro e w3 ⟨rfl, hb⟩; have Hw3 := Lib.hid (show Below wz.heap.size wz w3 from Below.trans Hwm.out (Below.trans (by repeat (first | exact Hwm.out | exact Below.refl _ _ | refine Below.drew ?_ | refine below_dr ?_)) (hb.mono Hwm.out.size))); have Hb3 := Lib.hid (show Below W.heap.size W w3 from Hwz.out.trans (Hw3.out.mono Hwz.out.size)); have HA4 := Lib.hid (HA.out.below Hb3.out (by have := Hs0.out; omega)); have HB4 := Lib.hid (HB.out.below Hb3.out (by have := Hs0.out; omega)); have HC4 := Lib.hid (HC.out.below Hb3.out (by have := Hs0.out; omega)); have HE4 := Lib.hid (HE.out.below Hb3.out (by have := Hs0.out; omega)); obtain ⟨g0, g1, _, _, _⟩ := HA4.out; obtain ⟨h0, h1, _, _, _⟩ := HB4.out; obtain ⟨k0, k1, k2, k3, _⟩ := HC4.out; obtain ⟨m0, m1, m2, m3, _⟩ := HE4.out; clear hb))
        all_goals
          go_wp2
          refine bodyPost_ret (v := .tuple #[.agg #[.bool (mkZ true (a)).neg, .string (mkZ true (a)).mag], .agg #[.bool (mkZ y.neg (r)).neg, .string (mkZ y.neg (r)).mag], .int .i64 0]) ?_ rfl ⟨by rw [HQ.out, HR.out], ?_⟩
          · simp [results, Try.results105, go_sem, k0, k1, m0, m1]
          · have hbe := Hb0.out.trans (Hb3.out.mono (by have := Hs0.out; omega))
            repeat (first | exact hbe | refine Below.setCell ?_ (by simp; omega) _ | refine Below.drew ?_)
      · have HQ : Hid (Q = mkZ true (a + 1)) := Lib.hid (by rw [Hqu.out, if_neg hs, if_neg hr0])
        have HR : Hid (R = mkZ y.neg (absZ y - r)) := Lib.hid (by rw [Hre.out, if_neg hs, if_neg hr0])
        have hrl0 : (digs r).length ≠ 0 := fun h => hr0 (digs_len_pos.1 h)
        have hrI : (0 : Int) < ((digs r).length : Int) := by omega
        have hrB : 0 < (digs r).length := by omega
        clear hs hr0 hrl0
        go_wp2_with first
          | (go_at_call 128; go_fit (Hdv.out); rintro e wz ⟨pq, cq, pr, cr, rfl, hNq, hcq1, hcq2, hNr, hcr1, hcr2, hb⟩; have HNq := Lib.hid hNq; have HNr := Lib.hid hNr; have Hdz := Lib.hid hb; have Hwz := Lib.hid (show Below W.heap.size W wz from Hwx.out.trans (hb.mono Hwx.out.size)); have HA2 := Lib.hid (HA.out.below Hwz.out (by have := Hs0.out; omega)); have HB2 := Lib.hid (HB.out.below Hwz.out (by have := Hs0.out; omega)); obtain ⟨d0, d1, _, _, _⟩ := HA2.out; obtain ⟨e0, e1, _, _, _⟩ := HB2.out; clear hNq hNr hb)
          | (go_at_call 129; go_fit (add_one a pq cq wz.heap.size _ (HNq.out.below (Nat.le_refl _) ((Below.refl _ _).alloc (Nat.le_refl _) _)) (DigBlk.one wz 1) (by omega)); rintro e wu ⟨pq2, cq2, rfl, hN, hcs1, hcs2, hb⟩; have HNq1 := Lib.hid hN; have Hwu := Lib.hid (show Below wz.heap.size wz wu from Below.trans ((Below.refl _ _).alloc (Nat.le_refl _) _) (hb.mono (by simp))); clear hN hb)
          | (go_at_call 130; go_fit (subtract_any (absZ y) r pb pr cb cr wu (HNb.out.below (Nat.le_refl _) (Hdz.out.trans (Hwu.out.mono Hdz.out.size))) (HNr.out.below (Nat.le_refl _) Hwu.out) (by have := Hdy1.out.2; omega) (Nat.le_of_lt hrl)); rintro e wv ⟨pr2, cr2, rfl, hN, hct1, hct2, hb⟩; have HNr2 := Lib.hid hN; have HNq2 := Lib.hid (HNq1.out.below (Nat.le_refl _) hb); have Hwv := Lib.hid (show Below W.heap.size W wv from Hwz.out.trans ((Hwu.out.trans (hb.mono Hwu.out.size)).mono Hwz.out.size)); have HA5 := Lib.hid (HA.out.below Hwv.out (by have := Hs0.out; omega)); have HB5 := Lib.hid (HB.out.below Hwv.out (by have := Hs0.out; omega)); obtain ⟨j0, j1, _, _, _⟩ := HA5.out; obtain ⟨l0, l1, _, _, _⟩ := HB5.out; clear hN hb)
        go_region_held3 (fun w' => w'.cell? ⟨w.heap.size, 0, none⟩ = some (.bool x.neg) ∧ w'.cell? ⟨w.heap.size + 1, 0, none⟩ = some (.bool y.neg)) (go_keep)
          (first
            | (go_at_call 78; go_fit (number_digs true (a + 1) pq2 cq2 _ (HNq2.out.below (Nat.le_refl _) (by repeat (first | exact Hwm.out | exact Below.refl _ _ | refine Below.drew ?_ | refine below_dr ?_))) hcs1 hcs2); rintro e wm ⟨rfl, hb⟩; have Hwm := Lib.hid (show Below wv.heap.size wv wm from Below.trans (by repeat (first | exact Hwm.out | exact Below.refl _ _ | refine Below.drew ?_ | refine below_dr ?_)) (hb.mono (Nat.le_refl _))); have HA3 := Lib.hid (HA.out.below (Hwv.out.trans (Hwm.out.mono Hwv.out.size)) (by have := Hs0.out; omega)); have HB3 := Lib.hid (HB.out.below (Hwv.out.trans (Hwm.out.mono Hwv.out.size)) (by have := Hs0.out; omega)); obtain ⟨g0, g1, _, _, _⟩ := HA3.out; obtain ⟨h0, h1, _, _, _⟩ := HB3.out; clear hb)
            | (go_at_call 78; go_fit (number_digs y.neg (absZ y - r) pr2 cr2 _ (HNr2.out.below (Nat.le_refl _) (by repeat (first | exact Hwm.out | exact Below.refl _ _ | refine Below.drew ?_ | refine below_dr ?_))) hct1 hct2); rintro e w3 ⟨rfl, hb⟩; have Hw3 := Lib.hid (show Below wv.heap.size wv w3 from Below.trans Hwm.out (Below.trans (by repeat (first | exact Hwm.out | exact Below.refl _ _ | refine Below.drew ?_ | refine below_dr ?_)) (hb.mono Hwm.out.size))); have Hb3 := Lib.hid (show Below W.heap.size W w3 from Hwv.out.trans (Hw3.out.mono Hwv.out.size)); have HA4 := Lib.hid (HA.out.below Hb3.out (by have := Hs0.out; omega)); have HB4 := Lib.hid (HB.out.below Hb3.out (by have := Hs0.out; omega)); have HC4 := Lib.hid (HC.out.below Hb3.out (by have := Hs0.out; omega)); have HE4 := Lib.hid (HE.out.below Hb3.out (by have := Hs0.out; omega)); obtain ⟨g0, g1, _, _, _⟩ := HA4.out; obtain ⟨h0, h1, _, _, _⟩ := HB4.out; obtain ⟨k0, k1, k2, k3, _⟩ := HC4.out; obtain ⟨m0, m1, m2, m3, _⟩ := HE4.out; clear hb))
        all_goals
          go_wp2
          refine bodyPost_ret (v := .tuple #[.agg #[.bool (mkZ true (a + 1)).neg, .string (mkZ true (a + 1)).mag], .agg #[.bool (mkZ y.neg (absZ y - r)).neg, .string (mkZ y.neg (absZ y - r)).mag], .int .i64 0]) ?_ rfl ⟨by rw [HQ.out, HR.out], ?_⟩
          · simp [results, Try.results105, go_sem, k0, k1, m0, m1]
          · have hbe := Hb0.out.trans (Hb3.out.mono (by have := Hs0.out; omega))
            repeat (first | exact hbe | refine Below.setCell ?_ (by simp; omega) _ | refine Below.drew ?_)
set_option maxRecDepth 100000 in
set_option maxHeartbeats 2000000 in
theorem euclid2_in (l Bx By g : Nat) (J Jx : List EuP → World → Prop) (hJ : AbT (TEu Bx By) J)
    (hY : ∀ pre x W1, J pre W1 → GEu Bx By pre x W1 → YieldAt Fence.wide 2 Try.prog l (encEu x) W1 fun e W' => (e = .returned (.bool true) ∧ J (pre ++ [x]) W' ∧ KpEu Bx By W1 W') ∨ (e = .returned (.bool false) ∧ Jx (pre ++ [x]) W'))
    (a b : Nat) (p q : Option Addr) (c d : Nat) (W : World) (hx : Boxed W Bx 136 (.slice p (digs a).length c)) (hy : Boxed W By 136 (.slice q (digs b).length d)) (hne : Bx ≠ By)
    (hp : NatsAt W p (digs a)) (hq : NatsAt W q (digs b)) (ha : (digs a).length ≤ 100000000) (hc : (digs a).length ≤ c ∧ c ≤ 1000000000) (hd : (digs b).length ≤ d ∧ d ≤ 1000000000) (hb : (digs b).length ≤ 100000000) (hg : Nat.gcd a b = g) (h0 : J [] W) :
    CallsIn Fence.wide 3 Try.prog 143 #[.func (.yield l) #[] #[], .pointer (some ⟨Bx, 0, none⟩), .pointer (some ⟨By, 0, none⟩)] W fun e W' => (∃ v, e = .returned v) ∧ ((∃ xs, SEu g xs ∧ J xs W') ∨ ∃ pre, Jx pre W') := by
  refine callsIn_of_wp Try.func143 rfl trivial ?_ rfl
  simp only [Try.ntmps143, List.size_toArray, List.length_cons, List.length_nil, Nat.reduceAdd, Nat.reduceSub, Array.replicate_succ, Array.replicate_zero, List.push_toArray, List.append_toArray, List.nil_append, List.cons_append]
  have hxc := hx.cell
  have hyc := hy.cell
  gi_wp2
  gi_loopg [] b (fun k wr => ∃ (pre : List EuP) (a b : Nat) (p q : Option Addr) (c d : Nat), Boxed wr Bx 136 (.slice p (digs a).length c) ∧ Boxed wr By 136 (.slice q (digs b).length d) ∧ NatsAt wr p (digs a) ∧ NatsAt wr q (digs b) ∧ (digs a).length ≤ 100000000 ∧ ((digs a).length ≤ c ∧ c ≤ 1000000000) ∧ ((digs b).length ≤ d ∧ d ≤ 1000000000) ∧ (digs b).length ≤ 100000000 ∧ Hid (Nat.gcd a b = g) ∧ b ≤ k ∧ Hid (J pre wr))
  case atStart => exact ⟨[], a, b, p, q, c, d, hx, hy, hp, hq, ha, hc, hd, hb, Lib.hid hg, Nat.le_refl _, Lib.hid h0⟩
  case round =>
    clear hx hy hp hq ha hc hd hb hg h0 hxc hyc
    obtain ⟨pre, a, b, p, q, c, d, hx, hy, hp, hq, ha, hc, hd, hb, hg, hk, hj⟩ := hrel
    have hxc := hx.cell
    have hyc := hy.cell
    obtain ⟨fn, tmps, assign, body, hyl, hR⟩ := hY pre ⟨p, c, q, d, a, b⟩ wr hj.out ⟨⟨hp, fun e he hl => by
      subst he
      obtain ⟨b', off, he, _, hc⟩ := NatsAt.cells hp hl
      cases he
      exact ⟨u32_ne_box (hc 0 hl) hx (by simp), u32_ne_box (hc 0 hl) hy (by simp)⟩⟩, hc⟩
    dsimp only [encEu] at hyl
    gi_wp2
    refine hR.mono ?_
    rintro e W3 (⟨rfl, hJ3, hk3⟩ | ⟨rfl, hJx3⟩)
    · have hx3 : Boxed W3 Bx 136 (.slice p (digs a).length c) := hk3.2.2.1.trans hx
      have hy3 : Boxed W3 By 136 (.slice q (digs b).length d) := hk3.2.2.2.trans hy
      have hp3 := hk3.nats hp
      have hq3 := hk3.nats hq
      clear hxc hyc
      have hxc := hx3.cell
      have hyc := hy3.cell
      by_cases hl : 0 < (digs b).length
      · have hb0 : b ≠ 0 := fun h => by rw [digs_len_pos.2 h] at hl; omega
        have Hj := Lib.hid hJ3
        clear hJ3
        gi_wp2
        refine ⟨trivial, ?_⟩
        refine (callsIn_wide.2 (divide_any a b p q c d W3 hp3 hq3 ha hb hc.1 hc.2 hb0)).mono ?_
        rintro e W4 ⟨p1, c1, p2, c2, rfl, hN1, hN1a, hN1b, hN2, hN2a, hN2b, hbe⟩
        have hx4 : Boxed W4 Bx 136 (.slice p (digs a).length c) := (hbe.block Bx hx3.lt).trans hx3
        have hy4 : Boxed W4 By 136 (.slice q (digs b).length d) := (hbe.block By hy3.lt).trans hy3
        have hq4 := hq3.below (Nat.le_refl _) hbe
        have hj4 := Lib.hid (hJ _ _ _ _ Hj.out (below_grown hbe) (by simp))
        have hxc4 := hx4.cell
        have hyc4 := hy4.cell
        have hxf4 := hx4.frozen
        have hyf4 := hy4.frozen
        clear hxc hyc hbe
        gi_wp2
        go_roundg (a % b)
        case measure => have := Nat.mod_lt a (show 0 < b by omega); omega
        case rel =>
          have hxn := hx4.set (.slice q (digs b).length d)
          have hyn := (hy4.kept (grownBy_setCell' W4 Bx (.slice q (digs b).length d)) (by simpa using fun h => hne h.symm)).set (.slice p2 (digs (a % b)).length c2)
          have hxn2 := hxn.kept (grownBy_setCell' _ By (.slice p2 (digs (a % b)).length c2)) (by simpa using hne)
          refine ⟨_, b, a % b, q, p2, d, c2, hxn2, hyn, ?_, ?_, ?_, hd, ⟨hN2a, hN2b⟩, ?_, ?_, Nat.le_refl _, Lib.hid (hJ _ _ _ _ (hJ _ _ _ _ hj4.out (grownBy_setCell' W4 Bx _) ?_) (grownBy_setCell' _ By _) ?_)⟩
          · exact (hq4.setBox hx4 (by simp) _).setBox (hy4.kept (grownBy_setCell' W4 Bx (.slice q (digs b).length d)) (by simpa using fun h => hne h.symm)) (by simp) _
          · exact (hN2.setBox hx4 (by simp) _).setBox (hy4.kept (grownBy_setCell' W4 Bx (.slice q (digs b).length d)) (by simpa using fun h => hne h.symm)) (by simp) _
          · exact hb
          · exact Nat.le_trans (digs_len_le (Nat.le_of_lt (Nat.mod_lt a (show 0 < b by omega)))) hb
          · exact Lib.hid (by rw [← hg.out, Nat.gcd_comm b (a % b), ← Nat.gcd_rec]; exact Nat.gcd_comm _ _)
          · intro r e; cases e; exact .inl rfl
          · intro r e; cases e; exact .inr rfl
      · have hb0 : b = 0 := digs_len_pos.1 (by omega)
        have Hj := Lib.hid hJ3
        have Hg := Lib.hid (show a = g by rw [← hg.out, hb0, Nat.gcd_zero_right])
        clear hJ3 hb0
        gi_wp2
        go_end0
        exact ⟨⟨_, rfl⟩, .inl ⟨_, ⟨pre, _, rfl, Hg.out⟩, Hj.out⟩⟩
    · have Hj := Lib.hid hJx3
      clear hJx3
      gi_wp2
      go_end0
      exact ⟨⟨_, rfl⟩, .inr ⟨_, Hj.out⟩⟩
set_option maxRecDepth 100000 in
set_option maxHeartbeats 4000000 in
theorem gcdz_any (x y : ZI) (hx : x.mag.size ≤ 100000000) (hys : y.mag.size ≤ 100000000) (w : World) :
    Calls Try.prog 104 #[.agg #[.bool x.neg, .string x.mag], .agg #[.bool y.neg, .string y.mag]] w (RetZ (canon (Nat.gcd (absZ x) (absZ y) : Nat)) w) := by
  have hlx := Lib.hid (digs_len_fit1 hx)
  have hly := Lib.hid (digs_len_fit1 hys)
  refine calls_marks Try.func104 rfl ?_
  simp only [Try.ntmps104, List.size_toArray, List.length_cons, List.length_nil, Nat.reduceAdd, Nat.reduceSub, Array.replicate_succ, Array.replicate_zero, List.push_toArray, List.append_toArray, List.nil_append, List.cons_append]
  go_upto_region 2 with (fail)
  obtain ⟨W, hW⟩ : ∃ W, ((((w.alloc (.cells #[.bool x.neg, .string x.mag] 48)).alloc (.cells #[.bool y.neg, .string y.mag] 48)).alloc (.cells #[.bool false, .string ⟨#[]⟩] 48)).alloc (.cells #[.slice none 0 0] 136)) = W := ⟨_, rfl⟩
  have hA : BoxAt W w.heap.size (.bool x.neg) (.string x.mag) := by rw [← hW]; exact (((BoxAt.new w (.bool x.neg) (.string x.mag) 48).alloc _).alloc _).alloc _
  have hB : BoxAt W (w.heap.size + 1) (.bool y.neg) (.string y.mag) := by
    rw [← hW]
    have := ((BoxAt.new (w.alloc (.cells #[.bool x.neg, .string x.mag] 48)) (.bool y.neg) (.string y.mag) 48).alloc (.cells #[.bool false, .string ⟨#[]⟩] 48)).alloc (.cells #[.slice none 0 0] 136)
    rwa [World.size_alloc] at this
  have hC : BoxAt W (w.heap.size + 1 + 1) (.bool false) (.string ⟨#[]⟩) := by
    rw [← hW]
    have := (BoxAt.new ((w.alloc (.cells #[.bool x.neg, .string x.mag] 48)).alloc (.cells #[.bool y.neg, .string y.mag] 48)) (.bool false) (.string ⟨#[]⟩) 48).alloc (.cells #[.slice none 0 0] 136)
    rwa [World.size_alloc, World.size_alloc] at this
  have hU : Boxed W (w.heap.size + 1 + 1 + 1) 136 (.slice none 0 0) := by
    rw [← hW]
    have := Boxed.new (((w.alloc (.cells #[.bool x.neg, .string x.mag] 48)).alloc (.cells #[.bool y.neg, .string y.mag] 48)).alloc (.cells #[.bool false, .string ⟨#[]⟩] 48)) 136 (.slice none 0 0)
    rwa [World.size_alloc, World.size_alloc, World.size_alloc] at this
  have hb0 : Below w.heap.size w W := by rw [← hW]; exact ((((Below.refl _ _).alloc (Nat.le_refl _) _).alloc (by simp) _).alloc (by simp; omega) _).alloc (by simp; omega) _
  have hs0 : W.heap.size = w.heap.size + 1 + 1 + 1 + 1 := by rw [← hW]; simp
  rw [hW]
  have HA := Lib.hid hA
  have HB := Lib.hid hB
  have HC := Lib.hid hC
  have HU := Lib.hid hU
  have Hb0 := Lib.hid hb0
  have Hs0 := Lib.hid hs0
  obtain ⟨a0, a1, _, _, _⟩ := hA
  obtain ⟨b0, b1, _, _, _⟩ := hB
  clear hC hU hb0 hs0 hW
  go_region_held3 (fun w' => w'.cell? ⟨w.heap.size, 0, none⟩ = some (.bool x.neg) ∧ w'.cell? ⟨w.heap.size, 1, none⟩ = some (.string x.mag) ∧ w'.cell? ⟨w.heap.size + 1, 0, none⟩ = some (.bool y.neg) ∧ w'.cell? ⟨w.heap.size + 1, 1, none⟩ = some (.string y.mag)) (go_keep)
    (first
      | (go_at_call 81; go_fit (digits_any x hx _); rintro e wa ⟨pa, ca, rfl, hN, hca1, hca2, hb⟩; have HNa := Lib.hid hN; have Hwa := Lib.hid (show Below W.heap.size W wa from Below.trans (by repeat (first | exact Below.refl _ _ | refine Below.drew ?_ | refine below_dr ?_)) (hb.mono (Nat.le_refl _))); have HA2 := Lib.hid (HA.out.below Hwa.out (by have := Hs0.out; omega)); have HB2 := Lib.hid (HB.out.below Hwa.out (by have := Hs0.out; omega)); obtain ⟨d0, d1, _, _, _⟩ := HA2.out; obtain ⟨e0, e1, _, _, _⟩ := HB2.out; clear hb hN)
      | (go_at_call 81; go_fit (digits_any y hys _); rintro e wb ⟨pb, cb, rfl, hN, hcb1, hcb2, hb⟩; have HNb := Lib.hid hN; have Hab := Lib.hid (show Below wa.heap.size wa wb from Below.trans (by repeat (first | exact Below.refl _ _ | refine Below.drew ?_ | refine below_dr ?_)) (hb.mono (Nat.le_refl _))); have Hwb := Lib.hid (show Below W.heap.size W wb from Hwa.out.trans (Hab.out.mono Hwa.out.size)); have HA2 := Lib.hid (HA.out.below Hwb.out (by have := Hs0.out; omega)); have HB2 := Lib.hid (HB.out.below Hwb.out (by have := Hs0.out; omega)); obtain ⟨d0, d1, _, _, _⟩ := HA2.out; obtain ⟨e0, e1, _, _, _⟩ := HB2.out; clear hb hN)
      | (go_at_call 127; go_fit (euclid_any _ _ pa pb (digs (absZ x)).length (digs (absZ y)).length ca cb rfl rfl _); rintro e we ⟨rfl, hwe⟩; have Hwe := Lib.hid hwe; have Hbe := Lib.hid (show Below wb.heap.size wb we from by rw [hwe]; exact Below.trans (by repeat (first | exact Below.refl _ _ | refine Below.drew ?_ | refine below_dr ?_)) (((Below.refl _ _).alloc (Nat.le_refl _) _).alloc (by simp) _)); have HA2 := Lib.hid (HA.out.below (Hwb.out.trans (Hbe.out.mono Hwb.out.size)) (by have := Hs0.out; omega)); have HB2 := Lib.hid (HB.out.below (Hwb.out.trans (Hbe.out.mono Hwb.out.size)) (by have := Hs0.out; omega)); obtain ⟨d0, d1, _, _, _⟩ := HA2.out; obtain ⟨e0, e1, _, _, _⟩ := HB2.out; clear hwe))
  go_wp2
  obtain ⟨g, hg⟩ : ∃ g, Nat.gcd (absZ x) (absZ y) = g := ⟨_, rfl⟩
  rw [hg]
  have Hg := Lib.hid hg
  have hbx : Boxed we wb.heap.size 136 (.slice pa (digs (absZ x)).length ca) := by rw [Hwe.out]; exact (Boxed.new _ _ _).alloc _
  have hby : Boxed we (wb.heap.size + 1) 136 (.slice pb (digs (absZ y)).length cb) := by
    rw [Hwe.out]
    have := Boxed.new (wb.alloc (.cells #[.slice pa (digs (absZ x)).length ca] 136)) 136 (.slice pb (digs (absZ y)).length cb)
    rwa [World.size_alloc] at this
  have hse : we.heap.size = wb.heap.size + 1 + 1 := by rw [Hwe.out]; simp
  have hsb : w.heap.size + 1 + 1 + 1 + 1 ≤ wb.heap.size := by have := Hwb.out.size; have := Hs0.out; omega
  have hWe : Below W.heap.size W we := Hwb.out.trans (Hbe.out.mono Hwb.out.size)
  have hue : Boxed we (w.heap.size + 1 + 1 + 1) 136 (.slice none 0 0) := (hWe.block _ (by have := Hs0.out; omega)).trans HU.out
  have hce : BoxAt we (w.heap.size + 1 + 1) (.bool false) (.string ⟨#[]⟩) := HC.out.below hWe (by have := Hs0.out; omega)
  have hpe : NatsAt we pa (digs (absZ x)) := HNa.out.below (Nat.le_refl _) (Hab.out.trans (Hbe.out.mono Hab.out.size))
  have hqe : NatsAt we pb (digs (absZ y)) := HNb.out.below (Nat.le_refl _) Hbe.out
  have hwe0 : Below w.heap.size w we := Hb0.out.trans (hWe.mono (by have := Hs0.out; omega))
  clear hg
  refine rangeW (gf := 143) (lb := #[.pointer (some ⟨wb.heap.size, 0, none⟩), .pointer (some ⟨wb.heap.size + 1, 0, none⟩)]) rfl (enters_of Try.func143 (by kernel_rfl) rfl)
    (encs := encEu) (G := GEu wb.heap.size (wb.heap.size + 1)) (S := SEu g) (T := TEu wb.heap.size (wb.heap.size + 1)) (Kp := KpEu wb.heap.size (wb.heap.size + 1))
    (Pre := fun X => Boxed X wb.heap.size 136 (.slice pa (digs (absZ x)).length ca) ∧ Boxed X (wb.heap.size + 1) 136 (.slice pb (digs (absZ y)).length cb) ∧ NatsAt X pa (digs (absZ x)) ∧ NatsAt X pb (digs (absZ y)))
    (fun l J Jx X hX hJ _ hY h0 => euclid2_in l _ _ g J Jx hJ hY _ _ pa pb ca cb X hX.1 hX.2.1 (by omega) hX.2.2.1 hX.2.2.2 hlx.out ⟨hca1, hca2⟩ ⟨hcb1, hcb2⟩ hly.out Hg.out h0)
    (by rintro r X (rfl | rfl) <;> omega) (fun h k => h.trans k) (fun X l o o' hl ho hc => KpEu.put o' ho hc (by omega) (by omega))
    (fun X hX => ⟨(hX.block _ hbx.lt).trans hbx, (hX.block _ hby.lt).trans hby, hpe.below (Nat.le_refl _) hX, hqe.below (Nat.le_refl _) hX⟩) (fun _ => rfl)
    (fun x pre X X' row h hg hr => ⟨h.1.turn hg hr, h.2⟩)
    (IEu w wb.heap.size (wb.heap.size + 1) (w.heap.size + 1 + 1 + 1)) (fun _ _ _ => False) (IEu.abides (by omega) (by omega) (by omega) (by omega) (by omega)) (fun _ _ _ _ _ h _ _ => h)
    ⟨⟨_, hue, by simp, fun pr x e => by simp at e⟩, hwe0, hce⟩
    (fun z => { tmps := #[.agg #[.bool x.neg, .string x.mag], .agg #[.bool y.neg, .string y.mag], .pointer (some ⟨w.heap.size, 0, none⟩), .pointer (some ⟨w.heap.size + 1, 0, none⟩), .pointer (some ⟨w.heap.size + 1 + 1, 0, none⟩), .pointer (some ⟨w.heap.size + 1 + 1 + 1, 0, none⟩), .slice z.p (digs z.a).length z.c, .agg #[.bool x.neg, .string x.mag], .slice pa (digs (absZ x)).length ca, .agg #[.bool y.neg, .string y.mag], .slice pb (digs (absZ y)).length cb, .func (.func 143) #[] #[.pointer (some ⟨wb.heap.size, 0, none⟩), .pointer (some ⟨wb.heap.size + 1, 0, none⟩)], .slice z.p (digs z.a).length z.c, .slice z.q (digs z.b).length z.d, undef, undef, undef], defers := [] }) ?assign ?body ?done ?stop
  case assign =>
    intro l z X K hK
    dsimp only [encEu]
    gi_wp2
    exact hK
  case body =>
    rintro l pre z X ⟨⟨v, hv, hvz, hl⟩, hb, hbox⟩ hgz
    have hvc := hv.cell
    have hvf := hv.frozen
    clear hl
    gi_wp2
    refine ⟨(KeepsOthers.setCell _ _ _).from _, KpEu.set hv hvz (by omega) (by omega) _, ⟨_, hv.set _, by simp, fun pr q e => ?_⟩, hb.setCell (by simp; omega) _, ?_⟩
    · have e2 := (List.append_inj' e rfl).2
      simp only [List.cons.injEq, and_true] at e2
      subst e2
      refine ⟨rfl, ⟨hgz.1.1.setBox hv hvz _, hgz.1.2⟩, hgz.2⟩
    · exact hbox.of_block (by simp) (Below.heap_setCell _ _ _ _ (by simp))
  case done =>
    rintro D xs X hD ⟨pre, z, rfl, hza⟩ ⟨⟨v, hv, hvz, hl⟩, hb, hbox⟩ hK
    obtain ⟨rfl, hN, hc1, hc2⟩ := hl pre z rfl
    rw [hza] at hN hc1 hv
    have hvc := hv.cell
    have HK := Lib.hid hK
    have Hbox := Lib.hid hbox
    have Hb := Lib.hid hb
    have hD2 : w.heap.size + 1 + 1 < D := by omega
    clear hl hza hK hvz
    go_wp2_with (go_at_call 78; go_fit (number_digs false g z.p z.c _ hN.1 hc1 hc2); rintro e w3 ⟨rfl, hb3⟩; rw [mkZ_pos]; have Hb3 := Lib.hid hb3; have hbox3 := Hbox.out.below hb3 Hbox.out.2.2.2.2; obtain ⟨k0, k1, k2, k3, _⟩ := hbox3; clear hb3)
    have hK3 : w3.heap[D]? = some (.deferred (some [])) := (Hb3.out.block D (Array.getElem?_eq_some_iff.1 HK.out).1).trans HK.out
    have hK4 : ((w3.setCell ⟨w.heap.size + 1 + 1, 0, none⟩ (.bool (canon (g : Int)).neg)).setCell ⟨w.heap.size + 1 + 1, 1, none⟩ (.string (canon (g : Int)).mag)).heap[D]? = some (.deferred (some [])) :=
      (Below.heap_setCell _ _ _ D (by simp; omega)).trans ((Below.heap_setCell _ _ _ D (by simp; omega)).trans hK3)
    rw [Hg.out]
    have v0 : ((w3.setCell ⟨w.heap.size + 1 + 1, 0, none⟩ (.bool (canon (g : Int)).neg)).setCell ⟨w.heap.size + 1 + 1, 1, none⟩ (.string (canon (g : Int)).mag)).cell? ⟨w.heap.size + 1 + 1, 0, none⟩ = some (.bool (canon (g : Int)).neg) := by simp [go_sem, k0]
    have v1 : ((w3.setCell ⟨w.heap.size + 1 + 1, 0, none⟩ (.bool (canon (g : Int)).neg)).setCell ⟨w.heap.size + 1 + 1, 1, none⟩ (.string (canon (g : Int)).mag)).cell? ⟨w.heap.size + 1 + 1, 1, none⟩ = some (.string (canon (g : Int)).mag) := by simp [go_sem, k1]
    have v2 : Below w.heap.size w ((w3.setCell ⟨w.heap.size + 1 + 1, 0, none⟩ (.bool (canon (g : Int)).neg)).setCell ⟨w.heap.size + 1 + 1, 1, none⟩ (.string (canon (g : Int)).mag)) := ((Hb.out.trans (Hb3.out.mono Hb.out.size)).setCell (by simp; omega) _).setCell (by simp; omega) _
    generalize ((w3.setCell ⟨w.heap.size + 1 + 1, 0, none⟩ (.bool (canon (g : Int)).neg)).setCell ⟨w.heap.size + 1 + 1, 1, none⟩ (.string (canon (g : Int)).mag)) = V at *
    refine ⟨by simp, .inl ⟨_, _, rfl, run_takeDeferred hK4, ?_⟩⟩
    have hne : w.heap.size + 1 + 1 ≠ D := by omega
    have f0 := (cell_of_block (World.putObj_heap_other (w := V) (o := .deferred none) hne) 0).trans v0
    have f1 := (cell_of_block (World.putObj_heap_other (w := V) (o := .deferred none) hne) 1).trans v1
    refine ⟨.agg #[.bool (canon (g : Int)).neg, .string (canon (g : Int)).mag], ?_, rfl, ?_⟩
    · simp [results, Try.results104, go_sem, f0, f1]
    · exact v2.trans (belowK_b (w := w) (Nat.le_refl _) _ D _ _ (by omega) hK4 rfl rfl)
  case stop =>
    intro _ _ _ _ _ h _
    exact h.elim
end Go.Proofs.Ytcafeffgaokiaaa
