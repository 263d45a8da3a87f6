/- The walk of the statement PropagationBursts: it returns true for every input. -/
import Derived.Test.YtndfppafddfnaaaLawB
namespace Go.Proofs.Ytndfppafddfnaaa
open Go.RowKit

/-- How many blocks behind the first a burst may reach. -/
def reach (b k : Int) : Int := (k - 1 + b - 1) / b
theorem reach_one {b : Int} (h : 1 ≤ b) : reach b 1 = 0 := by
  unfold reach; exact Int.ediv_eq_zero_of_lt (by omega) (by omega)
theorem reach_nonneg {b k : Int} (h : 1 ≤ b) (hk : 1 ≤ k) : 0 ≤ reach b k := Int.ediv_nonneg (by omega) (by omega)
theorem reach_le {b k : Int} (h : 1 ≤ b) (hk : 1 ≤ k) : reach b k ≤ k + b := by
  have := IntWalk.tdiv_le (k - 1 + b - 1) b (by omega) h
  unfold reach; omega
theorem reach_block {b k : Int} (h : 1 ≤ b) : reach b (k + b) = reach b k + 1 := by
  unfold reach
  rw [show k + b - 1 + b - 1 = (k - 1 + b - 1) + 1 * b from by omega, Int.add_mul_ediv_right _ _ (by omega)]
theorem reach_succ {b k : Int} (h : 1 ≤ b) : reach b k ≤ reach b (k + 1) ∧ reach b (k + 1) ≤ reach b k + 1 := by
  constructor
  · unfold reach; exact Int.ediv_le_ediv (by omega) (by omega)
  · rw [← reach_block h]; unfold reach; exact Int.ediv_le_ediv (by omega) (by omega)
theorem burstVal_ok {l b i p f : Int} {es : List Ent} {k : Int} (h : decCheck l b i p f es = 0) (h1 : 1 ≤ k) (h2 : k ≤ 65536) : burstVal l b i p f es k = 1 + reach b k + p + f := by
  unfold burstVal; rw [if_neg (by simpa using h), if_neg (by omega)]; rfl
theorem burstErr_ok {l b i p f : Int} {es : List Ent} {k : Int} (h : decCheck l b i p f es = 0) (h1 : 1 ≤ k) (h2 : k ≤ 65536) : burstErr l b i p f es k = 0 := by
  unfold burstErr; rw [if_neg (by simpa using h), if_neg (by omega)]

set_option maxRecDepth 100000 in
set_option maxHeartbeats 8000000 in
theorem burstsLaw (l b i p f : Int) (es : List Ent) (a : Option Addr) (c : Nat) (m : Int) (w : World) (hE : EntsAt w a es) (hwins : WinsFit es) (hn : es.length ≤ 100000000000000) (hm0 : 0 ≤ m) (hm1 : m ≤ 65535) :
    Calls Try.prog 5 #[.agg #[.int .i64 l, .int .i64 b, .int .i64 i, .int .i64 p, .int .i64 f, .slice a es.length c], .int .u16 m] w fun e w' => e = .returned (.bool true) ∧ Below w.heap.size w w' := by
  have HE := Lib.hid hE
  have HE2 := Lib.hid (hE.mono (Nat.le_refl _) ((Below.refl w.heap.size w).alloc (Nat.le_refl _) (.cells #[.int .i64 l, .int .i64 b, .int .i64 i, .int .i64 p, .int .i64 f, .slice a es.length c] 24)))
  have HW := Lib.hid hwins
  clear hE hwins
  go_enter Try.func5, Try.ntmps5
  go_wp2_with fail
  refine (great_any l b i p f es a c _ HE2.out HW.out hn).mono ?_; rintro e w1 ⟨g, rfl, hg, hb⟩
  have HbX := Lib.hid (hb.mono (B' := w.heap.size + 1) (by simp))
  obtain ⟨⟨c0, c1, c2, c3, c4, c5⟩, hsz, hbw⟩ := box6 HbX.out
  have Hb1 := Lib.hid hbw
  clear hb hbw hg
  cases g
  case true =>
    go_wp2_with (go_at_call 12; refine (awake_any _).mono ?_; rintro e w9 ⟨rfl, hb⟩; have Hb9 := Lib.hid hb; clear hb)
    all_goals
      go_ret
      exact ⟨rfl, Hb1.out.trans (Hb9.out.mono Hb1.out.size)⟩
  case false =>
    by_cases hz : m = 0
    · have hz' : (m == 0) = true := by simpa using hz
      clear hz
      go_wp2_with (go_at_call 12; refine (awake_any _).mono ?_; rintro e w9 ⟨rfl, hb⟩; have Hb9 := Lib.hid hb; clear hb)
      all_goals
        go_ret
        exact ⟨rfl, Hb1.out.trans (Hb9.out.mono Hb1.out.size)⟩
    · have hz' : (m == 0) = false := by simpa using hz
      have hm2 : 1 ≤ m := by omega
      clear hz
      have HX1 := HbX
      go_wp2_with fail
      refine (bound_any l b i p f es a c _ (SlAt.mono HE.out (Nat.le_refl _) Hb1.out) HW.out).mono ?_
      rintro e w2 ⟨rfl, hb⟩
      have HX2 := Lib.hid (HX1.out.trans (hb.mono (by omega)))
      have Hs2 := Lib.hid hb
      clear c0 c1 c2 c3 c4 c5 hb
      obtain ⟨⟨c0, c1, c2, c3, c4, c5⟩, hsz2, hbw⟩ := box6 HX2.out
      have Hb2 := Lib.hid hbw
      clear hbw
      go_wp2_with fail
      refine (burst_any l b i p f es a c 1 _ (SlAt.mono HE.out (Nat.le_refl _) Hb2.out) HW.out).mono ?_
      rintro e w3 ⟨rfl, hb⟩
      have HX3 := Lib.hid (HX2.out.trans (hb.mono (by omega)))
      have Hs3 := Lib.hid hb
      clear c0 c1 c2 c3 c4 c5 hb
      obtain ⟨⟨c0, c1, c2, c3, c4, c5⟩, hsz3, hbw⟩ := box6 HX3.out
      have Hb3 := Lib.hid hbw
      clear hbw
      by_cases hdc : decCheck l b i p f es = 0
      case neg =>
        have g1 : boundErr l b i p f es = 1 := by unfold boundErr; rw [if_pos hdc]
        have g2 : burstErr l b i p f es 1 = 1 := by unfold burstErr; rw [if_pos hdc]
        rw [g1, g2]
        clear g1 g2 hdc
        go_wp2_with (go_at_call 12; refine (awake_any _).mono ?_; rintro e w9 ⟨rfl, hb⟩; have Hb9 := Lib.hid hb; clear hb)
        all_goals
          go_ret
          exact ⟨rfl, Hb3.out.trans (Hb9.out.mono Hb3.out.size)⟩
      obtain ⟨⟨l1, l2⟩, ⟨b1, b2, i1, i2, p1, f1, pp2, f2⟩, hes⟩ := decCheck_ok hdc
      have g1 : boundErr l b i p f es = 0 := by unfold boundErr; rw [if_neg (by simpa using hdc)]
      have g2 : boundVal l b i p f es = p + 1 + f := by unfold boundVal; rw [if_neg (by simpa using hdc)]
      rw [g1, g2, burstErr_ok hdc (by omega) (by omega), burstVal_ok hdc (by omega) (by omega), reach_one b1, show (1 + 0 + p + f : Int) = p + 1 + f from by omega]
      clear g1 g2
      have HD := Lib.hid hdc
      clear hdc
      go_wp2_with fail
      refine (burst_any l b i p f es a c m _ (SlAt.mono HE.out (Nat.le_refl _) Hb3.out) HW.out).mono ?_
      rintro e w4 ⟨rfl, hb⟩
      have HX4 := Lib.hid (HX3.out.trans (hb.mono (by omega)))
      have Hs4 := Lib.hid hb
      clear c0 c1 c2 c3 c4 c5 hb
      obtain ⟨⟨c0, c1, c2, c3, c4, c5⟩, hsz4, hbw⟩ := box6 HX4.out
      have Hb4 := Lib.hid hbw
      clear hbw
      rw [burstErr_ok HD.out (by omega) (by omega), burstVal_ok HD.out (by omega) (by omega)]
      go_wp2_with fail
      refine (burst_any l b i p f es a c (m + 1) _ (SlAt.mono HE.out (Nat.le_refl _) Hb4.out) HW.out).mono ?_
      rintro e w5 ⟨rfl, hb⟩
      have HX5 := Lib.hid (HX4.out.trans (hb.mono (by omega)))
      have Hs5 := Lib.hid hb
      clear c0 c1 c2 c3 c4 c5 hb
      obtain ⟨⟨c0, c1, c2, c3, c4, c5⟩, hsz5, hbw⟩ := box6 HX5.out
      have Hb5 := Lib.hid hbw
      clear hbw
      rw [burstErr_ok HD.out (by omega) (by omega), burstVal_ok HD.out (by omega) (by omega)]
      have r1 := reach_nonneg b1 hm2
      have r2 := reach_le b1 hm2
      have r3 := reach_succ (k := m) b1
      have r4 := reach_block (k := m) b1
      have HR := Lib.hid r4
      clear r4
      generalize hq : reach b m = q at *
      generalize hq2 : reach b (m + 1) = q2 at *
      clear hq hq2
      have hself : ((p + 1 + f) != (p + 1 + f)) = false := by simp
      by_cases hbig : 65536 < m + b
      · clear HR
        go_wp2_with (go_at_call 12; refine (awake_any _).mono ?_; rintro e w9 ⟨rfl, hb⟩; have Hb9 := Lib.hid hb; clear hb)
        all_goals
          go_ret
          exact ⟨rfl, Hb5.out.trans (Hb9.out.mono Hb5.out.size)⟩
      · go_wp2_with fail
        refine (burst_any l b i p f es a c (m + b) _ (SlAt.mono HE.out (Nat.le_refl _) Hb5.out) HW.out).mono ?_
        rintro e w6 ⟨rfl, hb⟩
        have HX6 := Lib.hid (HX5.out.trans (hb.mono (by omega)))
        have Hs6 := Lib.hid hb
        clear c0 c1 c2 c3 c4 c5 hb
        obtain ⟨⟨c0, c1, c2, c3, c4, c5⟩, hsz6, hbw⟩ := box6 HX6.out
        have Hb6 := Lib.hid hbw
        clear hbw
        rw [burstErr_ok HD.out (by omega) (by omega), burstVal_ok HD.out (by omega) (by omega), HR.out]
        have hsum : (1 + (q + 1) + p + f == 1 + q + p + f + 1) = true := by simp; omega
        go_wp2_with (go_at_call 12; refine (awake_any _).mono ?_; rintro e w9 ⟨rfl, hb⟩; have Hb9 := Lib.hid hb; clear hb)
        all_goals
          go_ret
          exact ⟨rfl, Hb6.out.trans (Hb9.out.mono Hb6.out.size)⟩
end Go.Proofs.Ytndfppafddfnaaa
