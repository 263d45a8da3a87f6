/- The walk of the statement PropagationWindows: it returns true for every input. -/
import Derived.Test.YtndfppafddfnaaaLawB
namespace Go.Proofs.Ytndfppafddfnaaa
open Go.RowKit

set_option maxRecDepth 100000 in
set_option maxHeartbeats 8000000 in
theorem windowsLaw (l b i p f : Int) (es : List Ent) (a : Option Addr) (c : Nat) (s : ByteArray) (at_ k : Int) (w : World) (hE : EntsAt w a es) (hwins : WinsFit es) (hn : es.length ≤ 100000000000000) (hs : s.size ≤ 9223372036854775807) :
    Calls Try.prog 4 #[.agg #[.int .i64 l, .int .i64 b, .int .i64 i, .int .i64 p, .int .i64 f, .slice a es.length c], .string s, .int .i64 at_, .int .i64 k] w fun e w' => e = .returned (.bool true) ∧ Below w.heap.size w w' := by
  have HE := Lib.hid hE
  have HE2 := Lib.hid (hE.mono (Nat.le_refl _) ((Below.refl w.heap.size w).alloc (Nat.le_refl _) (.cells #[.int .i64 l, .int .i64 b, .int .i64 i, .int .i64 p, .int .i64 f, .slice a es.length c] 24)))
  have HW := Lib.hid hwins
  clear hE hwins
  go_enter Try.func4, Try.ntmps4
  go_wp2_with fail
  refine (great_any l b i p f es a c _ HE2.out HW.out hn).mono ?_; rintro e w1 ⟨g, rfl, hg, hb⟩
  have HbX := Lib.hid (hb.mono (B' := w.heap.size + 1) (by simp))
  obtain ⟨⟨c0, c1, c2, c3, c4, c5⟩, hsz, hbw⟩ := box6 HbX.out
  have Hb1 := Lib.hid hbw
  clear hb hbw hg
  cases g
  case true =>
    go_wp2_with (go_at_call 12; refine (awake_any _).mono ?_; rintro e w2 ⟨rfl, hb⟩; have Hb2 := Lib.hid hb; clear hb)
    go_ret
    exact ⟨rfl, Hb1.out.trans (Hb2.out.mono Hb1.out.size)⟩
  case false =>
    by_cases h20 : 20 < s.size
    · go_wp2_with (go_at_call 12; refine (awake_any _).mono ?_; rintro e w2 ⟨rfl, hb⟩; have Hb2 := Lib.hid hb; clear hb)
      go_ret
      exact ⟨rfl, Hb1.out.trans (Hb2.out.mono Hb1.out.size)⟩
    · go_wp2_with fail
      refine (changed_any l b i p f es a c s at_ k _ (SlAt.mono HE.out (Nat.le_refl _) Hb1.out) HW.out hs).mono ?_
      rintro e w2 ⟨v2, rfl, hown, hb⟩
      have Hown2 := Lib.hid hown
      clear hown
      have HX2 := Lib.hid (HbX.out.trans (hb.mono (by omega)))
      have Hs2 := Lib.hid hb
      clear c0 c1 c2 c3 c4 c5 hb
      obtain ⟨⟨c0, c1, c2, c3, c4, c5⟩, hsz2, hbw⟩ := box6 HX2.out
      have Hb2 := Lib.hid hbw
      clear hbw
      go_wp2_with fail
      refine (bound_any l b i p f es a c _ (SlAt.mono HE.out (Nat.le_refl _) Hb2.out) HW.out).mono ?_
      rintro e w3 ⟨rfl, hb⟩
      have HX3 := Lib.hid (HX2.out.trans (hb.mono (by omega)))
      have Hs3 := Lib.hid hb
      clear c0 c1 c2 c3 c4 c5 hb
      obtain ⟨⟨c0, c1, c2, c3, c4, c5⟩, hsz3, hbw⟩ := box6 HX3.out
      have Hb3 := Lib.hid hbw
      clear hbw
      obtain ⟨p2, d2, rfl, _, hI2, _⟩ := Hown2.out.form
      have HI2 := Lib.hid (hI2.below (Nat.le_refl _) Hs3.out)
      clear hI2 Hown2
      by_cases hce : chErr l b i p f es s at_ k = 0
      case neg =>
        have hce' : (chErr l b i p f es s at_ k != 0) = true := by simpa using hce
        have hnil := chOut_nil hce
        rw [hnil]
        clear hnil hce
        go_wp2_with (go_at_call 12; refine (awake_any _).mono ?_; rintro e w4 ⟨rfl, hb⟩; have Hb4 := Lib.hid hb; clear hb)
        go_ret
        exact ⟨rfl, Hb3.out.trans (Hb4.out.mono Hb3.out.size)⟩
      have hce' : (chErr l b i p f es s at_ k != 0) = false := by simpa using hce
      have hde := chErr_zero.1 hce
      have hdc := (decErr_zero.1 hde.1).1
      obtain ⟨⟨l1, l2⟩, ⟨b1, b2, i1, i2, p1, f1, pp2, f2⟩, hes⟩ := decCheck_ok hdc
      have hbe : boundErr l b i p f es = 0 := by unfold boundErr; rw [if_neg (by simpa using hdc)]
      have hbv : boundVal l b i p f es = p + 1 + f := by unfold boundVal; rw [if_neg (by simpa using hdc)]
      rw [hbe, hbv]
      have hlen := chOut_len hce
      have hmem := fun (x : Int) hx => chOut_mem (x := x) hce hx
      have hinc := chOut_inc l b i p f es s at_ k
      have hsm := chOut_small l b i p f es s at_ k
      have hB0 := IntWalk.tdiv_le at_ b hde.2.1.1 b1
      have a1 : 0 ≤ at_ := hde.2.1.1
      have a2 : at_ < s.size := hde.2.1.2
      have hbeq : ((p + 1 + f) != (p + 1 + f)) = false := by simp
      have HCE := Lib.hid hce
      clear hce hde hdc hbe hbv HE2
      generalize chOut l b i p f es s at_ k = xs at *
      have Hmem := Lib.hid hmem
      have Hinc := Lib.hid hinc
      clear hmem hinc
      go_wp2
      go_loop [74] (fun t => ∃ j : Nat, j ≤ xs.length ∧ t = .int .i64 j) (fun t => xs.length - (intOf t).toNat)
      case atStart => exact ⟨0, by omega, rfl⟩
      case round =>
        obtain ⟨j, hj, rfl⟩ := hrel
        by_cases hlt : j < xs.length
        · obtain ⟨ab, ao, rfl, hab, hca⟩ := IntsAt.cells HI2.out hlt
          have hx := hca j hlt
          obtain ⟨x, hxe⟩ : ∃ x, xs.getD j 0 = x := ⟨_, rfl⟩
          rw [hxe] at hx
          obtain ⟨m1, m2, m3⟩ := Hmem.out x (by rw [← hxe]; exact getD_mem _ _ _ hlt)
          have n1 : (0 : Int) ≤ (j : Int) := by omega
          have n2 : (j : Int) < (xs.length : Int) := by omega
          rcases Nat.eq_zero_or_pos j with h0 | h0
          · have h0' : ¬ (0 : Int) < (j : Int) := by omega
            have h0'' : decide (0 < j) = false := by simp; omega
            clear hca hxe h0
            go_wp2
            go_round
            case rel => exact ⟨j + 1, by omega, by go_num⟩
            case measure => simp [intOf]; omega
          · have hy := hca (j - 1) (by omega)
            obtain ⟨y, hye⟩ : ∃ y, xs.getD (j - 1) 0 = y := ⟨_, rfl⟩
            rw [hye] at hy
            have hyx : y < x := by rw [← hxe, ← hye]; exact inc_get Hinc.out h0 hlt
            have h0' : (0 : Int) < (j : Int) := by omega
            have h0'' : decide (0 < j) = true := by simp; omega
            have n3 : (j : Int) - 1 < (xs.length : Int) := by omega
            clear hca hxe hye
            go_wp2
            go_round
            case rel => exact ⟨j + 1, by omega, by go_num⟩
            case measure => simp [intOf]; omega
        · go_wp2_with (go_at_call 12; refine (awake_any _).mono ?_; rintro e w4 ⟨rfl, hb⟩; have Hb4 := Lib.hid hb; clear hb)
          go_ret
          exact ⟨rfl, Hb3.out.trans (Hb4.out.mono Hb3.out.size)⟩
end Go.Proofs.Ytndfppafddfnaaa
