/- The walk of integer.Div, for a divisor of one digit. -/
import Derived.Test.YtlkajmdcffemeaaInt11
namespace Go.Proofs.Ytlkajmdcffemeaa
open Go.RowKit

/-- Quotient and remainder by sign. -/
def quoZ (x y : ZI) : ZI := if x.neg = y.neg then mkZ false (absZ x / absZ y) else if absZ x % absZ y = 0 then mkZ true (absZ x / absZ y) else mkZ true (absZ x / absZ y + 1)
def remZ (x y : ZI) : ZI := if x.neg = y.neg then mkZ y.neg (absZ x % absZ y) else if absZ x % absZ y = 0 then mkZ y.neg (absZ x % absZ y) else mkZ y.neg (absZ y - absZ x % absZ y)
def RetDiv (q r : ZI) (w : World) (e : Ending) (w' : World) : Prop := e = .returned (.tuple #[.agg #[.bool q.neg, .string q.mag], .agg #[.bool r.neg, .string r.mag], .int .i64 0]) ∧ Below w.heap.size w w'

theorem add_one (m : Nat) (p : Option Addr) (c g : Nat) (w : World) (hX : NatsAt w p (digs m)) (h1 : DigBlk w g (fun _ => 1) 1) (hm : (digs m).length ≤ 200000000) :
    Calls Try.prog 101 #[.slice p (digs m).length c, .slice (some ⟨g, 0, none⟩) 1 1] w (RetNat (m + 1) w) :=
  add_any m 1 p (some ⟨g, 0, none⟩) c 1 w hX h1.nats hm (by decide)

set_option maxRecDepth 100000 in
set_option maxHeartbeats 8000000 in
theorem div_short (x y : ZI) (hx : x.mag.size ≤ 100000000) (hy : y.mag.size ≤ 100000000) (h0 : absZ y ≠ 0) (h1 : absZ y < 4294967296) (w : World) :
    Calls Try.prog 88 #[.agg #[.bool x.neg, .string x.mag], .agg #[.bool y.neg, .string y.mag]] w (RetDiv (quoZ x y) (remZ x y) w) := by
  have hlx := Lib.hid (digs_len_fit1 hx)
  have hdy1 : (digs (absZ y)).length = 1 := by
    have := digs_cons h1 (.inl h0) (m := 0)
    simp only [digs_zero, Nat.mul_zero, Nat.add_zero] at this
    rw [this]; rfl
  have Hdy1 := Lib.hid hdy1
  obtain ⟨a, ha⟩ : ∃ a, absZ x / absZ y = a := ⟨_, rfl⟩
  obtain ⟨r, hr⟩ : ∃ r, absZ x % absZ y = r := ⟨_, rfl⟩
  have hrl : r < absZ y := by rw [← hr]; exact Nat.mod_lt _ (by omega)
  have hal : (digs a).length ≤ 100000000 := Nat.le_trans (digs_len_le (by rw [← ha]; exact Nat.div_le_self _ _)) hlx.out
  have Ha := Lib.hid ha
  have Hr := Lib.hid hr
  have hqu : quoZ x y = if x.neg = y.neg then mkZ false a else if r = 0 then mkZ true a else mkZ true (a + 1) := by unfold quoZ; rw [ha, hr]
  have hre : remZ x y = if x.neg = y.neg then mkZ y.neg r else if r = 0 then mkZ y.neg r else mkZ y.neg (absZ y - r) := by unfold remZ; rw [hr]
  generalize hQ : quoZ x y = Q at *
  generalize hR : remZ x y = R at *
  have Hqu := Lib.hid hqu
  have Hre := Lib.hid hre
  clear hdy1 ha hr hqu hre hQ hR
  go_enter Try.func88, Try.ntmps88
  go_upto_region 1 with (fail)
  obtain ⟨W, hW⟩ : ∃ W, ((((w.alloc (.cells #[.bool x.neg, .string x.mag] 34)).alloc (.cells #[.bool y.neg, .string y.mag] 34)).alloc (.cells #[.bool false, .string ⟨#[]⟩] 34)).alloc (.cells #[.bool false, .string ⟨#[]⟩] 34)) = W := ⟨_, rfl⟩
  have hA : BoxAt W w.heap.size (.bool x.neg) (.string x.mag) := by rw [← hW]; exact (((BoxAt.new w (.bool x.neg) (.string x.mag) 34).alloc _).alloc _).alloc _
  have hB : BoxAt W (w.heap.size + 1) (.bool y.neg) (.string y.mag) := by
    rw [← hW]
    have := ((BoxAt.new (w.alloc (.cells #[.bool x.neg, .string x.mag] 34)) (.bool y.neg) (.string y.mag) 34).alloc (.cells #[.bool false, .string ⟨#[]⟩] 34)).alloc (.cells #[.bool false, .string ⟨#[]⟩] 34)
    rwa [World.size_alloc] at this
  have hC : BoxAt W (w.heap.size + 1 + 1) (.bool false) (.string ⟨#[]⟩) := by
    rw [← hW]
    have := (BoxAt.new ((w.alloc (.cells #[.bool x.neg, .string x.mag] 34)).alloc (.cells #[.bool y.neg, .string y.mag] 34)) (.bool false) (.string ⟨#[]⟩) 34).alloc (.cells #[.bool false, .string ⟨#[]⟩] 34)
    rwa [World.size_alloc, World.size_alloc] at this
  have hE : BoxAt W (w.heap.size + 1 + 1 + 1) (.bool false) (.string ⟨#[]⟩) := by
    rw [← hW]
    have := BoxAt.new (((w.alloc (.cells #[.bool x.neg, .string x.mag] 34)).alloc (.cells #[.bool y.neg, .string y.mag] 34)).alloc (.cells #[.bool false, .string ⟨#[]⟩] 34)) (.bool false) (.string ⟨#[]⟩) 34
    rwa [World.size_alloc, World.size_alloc, World.size_alloc] at this
  have hb0 : Below w.heap.size w W := by rw [← hW]; exact ((((Below.refl _ _).alloc (Nat.le_refl _) _).alloc (by simp) _).alloc (by simp; omega) _).alloc (by simp; omega) _
  have hs0 : W.heap.size = w.heap.size + 1 + 1 + 1 + 1 := by rw [← hW]; simp
  rw [hW]
  have HA := Lib.hid hA
  have HB := Lib.hid hB
  have HC := Lib.hid hC
  have HE := Lib.hid hE
  have Hb0 := Lib.hid hb0
  have Hs0 := Lib.hid hs0
  obtain ⟨a0, a1, _, _, _⟩ := hA
  obtain ⟨b0, b1, _, _, _⟩ := hB
  clear hC hE hb0 hs0 hW
  have n1 : ¬ (w.heap.size = w.heap.size + 1 + 1) := by omega
  have n2 : ¬ (w.heap.size + 1 + 1 = w.heap.size) := by omega
  have n3 : ¬ (w.heap.size = w.heap.size + 1 + 1 + 1) := by omega
  have n4 : ¬ (w.heap.size + 1 + 1 + 1 = w.heap.size) := by omega
  have n5 : ¬ (w.heap.size + 1 = w.heap.size + 1 + 1 + 1) := by omega
  have n6 : ¬ (w.heap.size + 1 + 1 + 1 = w.heap.size + 1) := by omega
  go_cut [7, 8] (fun u v wx => TwoNat W (absZ x) (absZ y) u v wx)
  case first =>
    go_region_held3 (fun w' => w'.cell? ⟨w.heap.size, 0, none⟩ = some (.bool x.neg) ∧ w'.cell? ⟨w.heap.size, 1, none⟩ = some (.string x.mag) ∧ w'.cell? ⟨w.heap.size + 1, 0, none⟩ = some (.bool y.neg) ∧ w'.cell? ⟨w.heap.size + 1, 1, none⟩ = some (.string y.mag)) (go_keep)
    (first
      | (go_at_call 98; go_fit (digits_any x hx _); rintro e wa ⟨pa, ca, rfl, hN, hca1, hca2, hb⟩; have HNa := Lib.hid hN; have Hwa := Lib.hid (show Below W.heap.size W wa from Below.trans (by repeat (first | exact Hwb.out | exact Hwa.out | exact Below.refl _ _ | exact Hab.out | exact Hba.out | refine Below.drew ?_ | refine below_dr ?_)) (hb.mono (by first | exact Nat.le_refl _ | exact Hwa.out.size | exact Hwb.out.size | exact Hab.out.size | exact Hba.out.size))); (try (have Hba := Lib.hid (show Below wb.heap.size wb wa from Below.trans (by repeat (first | exact Hwb.out | exact Hwa.out | exact Below.refl _ _ | exact Hab.out | exact Hba.out | refine Below.drew ?_ | refine below_dr ?_)) (hb.mono (by first | exact Nat.le_refl _ | exact Hwa.out.size | exact Hwb.out.size | exact Hab.out.size | exact Hba.out.size))))); have HA2 := Lib.hid (HA.out.below Hwa.out (by have := Hs0.out; omega)); have HB2 := Lib.hid (HB.out.below Hwa.out (by have := Hs0.out; omega)); obtain ⟨d0, d1, _, _, _⟩ := HA2.out; obtain ⟨e0, e1, _, _, _⟩ := HB2.out; clear hb hN)
      | (go_at_call 98; go_fit (digits_any y hy _); rintro e wb ⟨pb, cb, rfl, hN, hcb1, hcb2, hb⟩; have HNb := Lib.hid hN; have Hwb := Lib.hid (show Below W.heap.size W wb from Below.trans (by repeat (first | exact Hwb.out | exact Hwa.out | exact Below.refl _ _ | exact Hab.out | exact Hba.out | refine Below.drew ?_ | refine below_dr ?_)) (hb.mono (by first | exact Nat.le_refl _ | exact Hwa.out.size | exact Hwb.out.size | exact Hab.out.size | exact Hba.out.size))); (try (have Hab := Lib.hid (show Below wa.heap.size wa wb from Below.trans (by repeat (first | exact Hwb.out | exact Hwa.out | exact Below.refl _ _ | exact Hab.out | exact Hba.out | refine Below.drew ?_ | refine below_dr ?_)) (hb.mono (by first | exact Nat.le_refl _ | exact Hwa.out.size | exact Hwb.out.size | exact Hab.out.size | exact Hba.out.size))))); have HA2 := Lib.hid (HA.out.below Hwb.out (by have := Hs0.out; omega)); have HB2 := Lib.hid (HB.out.below Hwb.out (by have := Hs0.out; omega)); obtain ⟨d0, d1, _, _, _⟩ := HA2.out; obtain ⟨e0, e1, _, _, _⟩ := HB2.out; clear hb hN))
    all_goals
      go_wp2_with fail
      go_meet
      exact ⟨pa, ca, pb, cb, rfl, rfl, HNa.out.below (Nat.le_refl _) (by repeat (first | exact Hwb.out | exact Hwa.out | exact Below.refl _ _ | exact Hab.out | exact Hba.out | refine Below.drew ?_ | refine below_dr ?_)), hca1, hca2, HNb.out.below (Nat.le_refl _) (by repeat (first | exact Hwb.out | exact Hwa.out | exact Below.refl _ _ | exact Hab.out | exact Hba.out | refine Below.drew ?_ | refine below_dr ?_)), hcb1, hcb2, by repeat (first | exact Hwb.out | exact Hwa.out | exact Below.refl _ _ | exact Hab.out | exact Hba.out | refine Below.drew ?_ | refine below_dr ?_)⟩
  case rest =>
    obtain ⟨pa, ca, pb, cb, rfl, rfl, hNa, hca1, hca2, hNb, hcb1, hcb2, hwx⟩ := hcut
    have HNa := Lib.hid hNa
    have HNb := Lib.hid hNb
    have Hwx := Lib.hid hwx
    have HA1 := HA.out.below hwx (by have := Hs0.out; omega)
    have HB1 := HB.out.below hwx (by have := Hs0.out; omega)
    have hdv := divide_short (absZ x) (absZ y) pa pb ca cb wc hNa hNb hlx.out hca1 hca2 h0 h1
    rw [Ha.out, Hr.out] at hdv
    have Hdv := Lib.hid hdv
    clear a0 a1 b0 b1 hNa hNb hwx hdv
    obtain ⟨a0, a1, _, _, _⟩ := HA1
    obtain ⟨b0, b1, _, _, _⟩ := HB1
    have hly : (((digs (absZ y)).length : Int) == 0) = false := by rw [Hdy1.out]; rfl
    by_cases hs : x.neg = y.neg
    · have hsb : (x.neg == y.neg) = true := by rw [beq_iff_eq]; exact hs
      have HQ : Hid (Q = mkZ false a) := Lib.hid (by rw [Hqu.out, if_pos hs])
      have HR : Hid (R = mkZ y.neg r) := Lib.hid (by rw [Hre.out, if_pos hs])
      clear hs
      go_wp2_with (go_at_call 100; go_fit (Hdv.out); rintro e wz ⟨pq, cq, pr, cr, rfl, hNq, hcq1, hcq2, hNr, hcr1, hcr2, hb⟩; have HNq := Lib.hid hNq; have HNr := Lib.hid hNr; have Hdz := Lib.hid hb; have Hwz := Lib.hid (show Below W.heap.size W wz from Hwx.out.trans (hb.mono Hwx.out.size)); have HA2 := Lib.hid (HA.out.below Hwz.out (by have := Hs0.out; omega)); have HB2 := Lib.hid (HB.out.below Hwz.out (by have := Hs0.out; omega)); obtain ⟨d0, d1, _, _, _⟩ := HA2.out; obtain ⟨e0, e1, _, _, _⟩ := HB2.out; clear hNq hNr hb)
      go_region_held3 (fun w' => w'.cell? ⟨w.heap.size, 0, none⟩ = some (.bool x.neg) ∧ w'.cell? ⟨w.heap.size + 1, 0, none⟩ = some (.bool y.neg)) (go_keep)
        (first
          | (go_at_call 70; go_fit (number_digs false (a) pq cq _ (HNq.out.below (Nat.le_refl _) (by repeat (first | exact Hwm.out | exact Below.refl _ _ | refine Below.drew ?_ | refine below_dr ?_))) hcq1 hcq2); rintro e wm ⟨rfl, hb⟩; have Hwm := Lib.hid (show Below wz.heap.size wz wm from Below.trans (by repeat (first | exact Hwm.out | exact Below.refl _ _ | refine Below.drew ?_ | refine below_dr ?_)) (hb.mono (Nat.le_refl _))); have HA3 := Lib.hid (HA.out.below (Hwz.out.trans (Hwm.out.mono Hwz.out.size)) (by have := Hs0.out; omega)); have HB3 := Lib.hid (HB.out.below (Hwz.out.trans (Hwm.out.mono Hwz.out.size)) (by have := Hs0.out; omega)); obtain ⟨g0, g1, _, _, _⟩ := HA3.out; obtain ⟨h0, h1, _, _, _⟩ := HB3.out; clear hb)
          | (go_at_call 70; go_fit (number_digs y.neg (r) pr cr _ (HNr.out.below (Nat.le_refl _) (by repeat (first | exact Hwm.out | exact Below.refl _ _ | refine Below.drew ?_ | refine below_dr ?_))) hcr1 hcr2); rintro e w3 ⟨rfl, hb⟩; have Hw3 := Lib.hid (show Below wz.heap.size wz w3 from Below.trans Hwm.out (Below.trans (by repeat (first | exact Hwm.out | exact Below.refl _ _ | refine Below.drew ?_ | refine below_dr ?_)) (hb.mono Hwm.out.size))); have Hb3 := Lib.hid (show Below W.heap.size W w3 from Hwz.out.trans (Hw3.out.mono Hwz.out.size)); have HA4 := Lib.hid (HA.out.below Hb3.out (by have := Hs0.out; omega)); have HB4 := Lib.hid (HB.out.below Hb3.out (by have := Hs0.out; omega)); have HC4 := Lib.hid (HC.out.below Hb3.out (by have := Hs0.out; omega)); have HE4 := Lib.hid (HE.out.below Hb3.out (by have := Hs0.out; omega)); obtain ⟨g0, g1, _, _, _⟩ := HA4.out; obtain ⟨h0, h1, _, _, _⟩ := HB4.out; obtain ⟨k0, k1, k2, k3, _⟩ := HC4.out; obtain ⟨m0, m1, m2, m3, _⟩ := HE4.out; clear hb))
      all_goals
        go_wp2
        refine bodyPost_ret (v := .tuple #[.agg #[.bool (mkZ false (a)).neg, .string (mkZ false (a)).mag], .agg #[.bool (mkZ y.neg (r)).neg, .string (mkZ y.neg (r)).mag], .int .i64 0]) ?_ rfl ⟨by rw [HQ.out, HR.out], ?_⟩
        · simp [results, Try.results88, go_sem, k0, k1, m0, m1]
        · have hbe := Hb0.out.trans (Hb3.out.mono (by have := Hs0.out; omega))
          repeat (first | exact hbe | refine Below.setCell ?_ (by simp; omega) _ | refine Below.drew ?_)
    · have hsb : (x.neg == y.neg) = false := by rw [beq_eq_false_iff_ne]; exact hs
      by_cases hr0 : r = 0
      · have HQ : Hid (Q = mkZ true a) := Lib.hid (by rw [Hqu.out, if_neg hs, if_pos hr0])
        have HR : Hid (R = mkZ y.neg r) := Lib.hid (by rw [Hre.out, if_neg hs, if_pos hr0])
        have hrl0 : (digs r).length = 0 := by rw [hr0]; rfl
        have hrI : ¬ (0 : Int) < ((digs r).length : Int) := by omega
        have hrB : ¬ 0 < (digs r).length := by omega
        clear hs hr0 hrl0
        go_wp2_with (go_at_call 100; go_fit (Hdv.out); rintro e wz ⟨pq, cq, pr, cr, rfl, hNq, hcq1, hcq2, hNr, hcr1, hcr2, hb⟩; have HNq := Lib.hid hNq; have HNr := Lib.hid hNr; have Hdz := Lib.hid hb; have Hwz := Lib.hid (show Below W.heap.size W wz from Hwx.out.trans (hb.mono Hwx.out.size)); have HA2 := Lib.hid (HA.out.below Hwz.out (by have := Hs0.out; omega)); have HB2 := Lib.hid (HB.out.below Hwz.out (by have := Hs0.out; omega)); obtain ⟨d0, d1, _, _, _⟩ := HA2.out; obtain ⟨e0, e1, _, _, _⟩ := HB2.out; clear hNq hNr hb)
        go_region_held3 (fun w' => w'.cell? ⟨w.heap.size, 0, none⟩ = some (.bool x.neg) ∧ w'.cell? ⟨w.heap.size + 1, 0, none⟩ = some (.bool y.neg)) (go_keep)
          (first
            | (go_at_call 70; go_fit (number_digs true (a) pq cq _ (HNq.out.below (Nat.le_refl _) (by repeat (first | exact Hwm.out | exact Below.refl _ _ | refine Below.drew ?_ | refine below_dr ?_))) hcq1 hcq2); rintro e wm ⟨rfl, hb⟩; have Hwm := Lib.hid (show Below wz.heap.size wz wm from Below.trans (by repeat (first | exact Hwm.out | exact Below.refl _ _ | refine Below.drew ?_ | refine below_dr ?_)) (hb.mono (Nat.le_refl _))); have HA3 := Lib.hid (HA.out.below (Hwz.out.trans (Hwm.out.mono Hwz.out.size)) (by have := Hs0.out; omega)); have HB3 := Lib.hid (HB.out.below (Hwz.out.trans (Hwm.out.mono Hwz.out.size)) (by have := Hs0.out; omega)); obtain ⟨g0, g1, _, _, _⟩ := HA3.out; obtain ⟨h0, h1, _, _, _⟩ := HB3.out; clear hb)
            | (go_at_call 70; go_fit (number_digs y.neg (r) pr cr _ (HNr.out.below (Nat.le_refl _) (by repeat (first | exact Hwm.out | exact Below.refl _ _ | refine Below.drew ?_ | refine below_dr ?_))) hcr1 hcr2); rintro e w3 ⟨rfl, hb⟩; have Hw3 := Lib.hid (show Below wz.heap.size wz w3 from Below.trans Hwm.out (Below.trans (by repeat (first | exact Hwm.out | exact Below.refl _ _ | refine Below.drew ?_ | refine below_dr ?_)) (hb.mono Hwm.out.size))); have Hb3 := Lib.hid (show Below W.heap.size W w3 from Hwz.out.trans (Hw3.out.mono Hwz.out.size)); have HA4 := Lib.hid (HA.out.below Hb3.out (by have := Hs0.out; omega)); have HB4 := Lib.hid (HB.out.below Hb3.out (by have := Hs0.out; omega)); have HC4 := Lib.hid (HC.out.below Hb3.out (by have := Hs0.out; omega)); have HE4 := Lib.hid (HE.out.below Hb3.out (by have := Hs0.out; omega)); obtain ⟨g0, g1, _, _, _⟩ := HA4.out; obtain ⟨h0, h1, _, _, _⟩ := HB4.out; obtain ⟨k0, k1, k2, k3, _⟩ := HC4.out; obtain ⟨m0, m1, m2, m3, _⟩ := HE4.out; clear hb))
        all_goals
          go_wp2
          refine bodyPost_ret (v := .tuple #[.agg #[.bool (mkZ true (a)).neg, .string (mkZ true (a)).mag], .agg #[.bool (mkZ y.neg (r)).neg, .string (mkZ y.neg (r)).mag], .int .i64 0]) ?_ rfl ⟨by rw [HQ.out, HR.out], ?_⟩
          · simp [results, Try.results88, go_sem, k0, k1, m0, m1]
          · have hbe := Hb0.out.trans (Hb3.out.mono (by have := Hs0.out; omega))
            repeat (first | exact hbe | refine Below.setCell ?_ (by simp; omega) _ | refine Below.drew ?_)
      · have HQ : Hid (Q = mkZ true (a + 1)) := Lib.hid (by rw [Hqu.out, if_neg hs, if_neg hr0])
        have HR : Hid (R = mkZ y.neg (absZ y - r)) := Lib.hid (by rw [Hre.out, if_neg hs, if_neg hr0])
        have hrl0 : (digs r).length ≠ 0 := fun h => hr0 (digs_len_pos.1 h)
        have hrI : (0 : Int) < ((digs r).length : Int) := by omega
        have hrB : 0 < (digs r).length := by omega
        clear hs hr0 hrl0
        go_wp2_with first
          | (go_at_call 100; go_fit (Hdv.out); rintro e wz ⟨pq, cq, pr, cr, rfl, hNq, hcq1, hcq2, hNr, hcr1, hcr2, hb⟩; have HNq := Lib.hid hNq; have HNr := Lib.hid hNr; have Hdz := Lib.hid hb; have Hwz := Lib.hid (show Below W.heap.size W wz from Hwx.out.trans (hb.mono Hwx.out.size)); have HA2 := Lib.hid (HA.out.below Hwz.out (by have := Hs0.out; omega)); have HB2 := Lib.hid (HB.out.below Hwz.out (by have := Hs0.out; omega)); obtain ⟨d0, d1, _, _, _⟩ := HA2.out; obtain ⟨e0, e1, _, _, _⟩ := HB2.out; clear hNq hNr hb)
          | (go_at_call 101; go_fit (add_one a pq cq wz.heap.size _ (HNq.out.below (Nat.le_refl _) ((Below.refl _ _).alloc (Nat.le_refl _) _)) (DigBlk.one wz 1) (by omega)); rintro e wu ⟨pq2, cq2, rfl, hN, hcs1, hcs2, hb⟩; have HNq1 := Lib.hid hN; have Hwu := Lib.hid (show Below wz.heap.size wz wu from Below.trans ((Below.refl _ _).alloc (Nat.le_refl _) _) (hb.mono (by simp))); clear hN hb)
          | (go_at_call 102; go_fit (subtract_any (absZ y) r pb pr cb cr wu (HNb.out.below (Nat.le_refl _) (Hdz.out.trans (Hwu.out.mono Hdz.out.size))) (HNr.out.below (Nat.le_refl _) Hwu.out) (by rw [Hdy1.out]; decide) (Nat.le_of_lt hrl)); rintro e wv ⟨pr2, cr2, rfl, hN, hct1, hct2, hb⟩; have HNr2 := Lib.hid hN; have HNq2 := Lib.hid (HNq1.out.below (Nat.le_refl _) hb); have Hwv := Lib.hid (show Below W.heap.size W wv from Hwz.out.trans ((Hwu.out.trans (hb.mono Hwu.out.size)).mono Hwz.out.size)); have HA5 := Lib.hid (HA.out.below Hwv.out (by have := Hs0.out; omega)); have HB5 := Lib.hid (HB.out.below Hwv.out (by have := Hs0.out; omega)); obtain ⟨j0, j1, _, _, _⟩ := HA5.out; obtain ⟨l0, l1, _, _, _⟩ := HB5.out; clear hN hb)
        go_region_held3 (fun w' => w'.cell? ⟨w.heap.size, 0, none⟩ = some (.bool x.neg) ∧ w'.cell? ⟨w.heap.size + 1, 0, none⟩ = some (.bool y.neg)) (go_keep)
          (first
            | (go_at_call 70; go_fit (number_digs true (a + 1) pq2 cq2 _ (HNq2.out.below (Nat.le_refl _) (by repeat (first | exact Hwm.out | exact Below.refl _ _ | refine Below.drew ?_ | refine below_dr ?_))) hcs1 hcs2); rintro e wm ⟨rfl, hb⟩; have Hwm := Lib.hid (show Below wv.heap.size wv wm from Below.trans (by repeat (first | exact Hwm.out | exact Below.refl _ _ | refine Below.drew ?_ | refine below_dr ?_)) (hb.mono (Nat.le_refl _))); have HA3 := Lib.hid (HA.out.below (Hwv.out.trans (Hwm.out.mono Hwv.out.size)) (by have := Hs0.out; omega)); have HB3 := Lib.hid (HB.out.below (Hwv.out.trans (Hwm.out.mono Hwv.out.size)) (by have := Hs0.out; omega)); obtain ⟨g0, g1, _, _, _⟩ := HA3.out; obtain ⟨h0, h1, _, _, _⟩ := HB3.out; clear hb)
            | (go_at_call 70; go_fit (number_digs y.neg (absZ y - r) pr2 cr2 _ (HNr2.out.below (Nat.le_refl _) (by repeat (first | exact Hwm.out | exact Below.refl _ _ | refine Below.drew ?_ | refine below_dr ?_))) hct1 hct2); rintro e w3 ⟨rfl, hb⟩; have Hw3 := Lib.hid (show Below wv.heap.size wv w3 from Below.trans Hwm.out (Below.trans (by repeat (first | exact Hwm.out | exact Below.refl _ _ | refine Below.drew ?_ | refine below_dr ?_)) (hb.mono Hwm.out.size))); have Hb3 := Lib.hid (show Below W.heap.size W w3 from Hwv.out.trans (Hw3.out.mono Hwv.out.size)); have HA4 := Lib.hid (HA.out.below Hb3.out (by have := Hs0.out; omega)); have HB4 := Lib.hid (HB.out.below Hb3.out (by have := Hs0.out; omega)); have HC4 := Lib.hid (HC.out.below Hb3.out (by have := Hs0.out; omega)); have HE4 := Lib.hid (HE.out.below Hb3.out (by have := Hs0.out; omega)); obtain ⟨g0, g1, _, _, _⟩ := HA4.out; obtain ⟨h0, h1, _, _, _⟩ := HB4.out; obtain ⟨k0, k1, k2, k3, _⟩ := HC4.out; obtain ⟨m0, m1, m2, m3, _⟩ := HE4.out; clear hb))
        all_goals
          go_wp2
          refine bodyPost_ret (v := .tuple #[.agg #[.bool (mkZ true (a + 1)).neg, .string (mkZ true (a + 1)).mag], .agg #[.bool (mkZ y.neg (absZ y - r)).neg, .string (mkZ y.neg (absZ y - r)).mag], .int .i64 0]) ?_ rfl ⟨by rw [HQ.out, HR.out], ?_⟩
          · simp [results, Try.results88, go_sem, k0, k1, m0, m1]
          · have hbe := Hb0.out.trans (Hb3.out.mono (by have := Hs0.out; omega))
            repeat (first | exact hbe | refine Below.setCell ?_ (by simp; omega) _ | refine Below.drew ?_)
end Go.Proofs.Ytlkajmdcffemeaa
