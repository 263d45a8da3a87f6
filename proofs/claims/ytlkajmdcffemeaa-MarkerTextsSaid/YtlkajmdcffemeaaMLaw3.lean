/- The walk of MarkerTexts. -/
import Derived.Test.YtlkajmdcffemeaaQ3
import Derived.Test.YtlkajmdcffemeaaQ4
import Derived.Test.YtlkajmdcffemeaaAwk
import Derived.Test.YtlkajmdcffemeaaFine
namespace Go.Proofs.Ytlkajmdcffemeaa
open Go.RowKit

theorem rateV_form (b : Int) (m : ByteArray) : ∃ n1 m1 n2 m2, rateV b m = .agg #[.bool n1, .string m1, .bool n2, .string m2] := by
  unfold rateV
  split
  · exact ⟨_, _, _, _, rfl⟩
  · exact ⟨_, _, _, _, rfl⟩

set_option maxRecDepth 100000 in
set_option maxHeartbeats 8000000 in
theorem textsLaw (b : Int) (m s : ByteArray) (w : World) (hm : m.size ≤ maxLen) (hs : s.size ≤ maxLen) :
    Calls Try.prog 4 #[.int .i64 b, .string m, .string s] w fun e w' => e = .returned (.bool true) ∧ Below w.heap.size w w' := by
  have Hls := Lib.hid (long_any 60 s)
  have Hlm := Lib.hid (long_any 60 m)
  cases hS : longB 60 s
  case true =>
    rw [hS] at Hls
    clear hS
    go_enter Try.func4, Try.ntmps4
    go_wp2_with first
      | (go_at_call 14; go_fit (Hls.out _); rintro e w1 ⟨rfl, rfl⟩)
      | (go_at_call 12; go_fit (awake_any _); rintro e w2 ⟨rfl, hb2⟩; have Hb2 := Lib.hid hb2; clear hb2)
    go_ret
    exact ⟨rfl, Hb2.out⟩
  case false =>
    rw [hS] at Hls
    clear hS
    have HL : Hid (∀ x, x = s ∨ x = m → ∀ w, Calls Try.prog 14 #[.string x, .int .i64 60] w fun e w' => e = .returned (.bool (longB 60 x)) ∧ w = w') := Lib.hid fun x _ => long_any 60 x
    cases hM : longB 60 m
    case true =>
      rw [hM] at Hlm
      clear hM
      go_enter Try.func4, Try.ntmps4
      go_wp2_with fail
      refine (Hls.out _).mono ?_
      rintro e w1 ⟨rfl, rfl⟩
      go_wp2_with fail
      refine (Hlm.out _).mono ?_
      rintro e w1 ⟨rfl, rfl⟩
      go_wp2_with (go_at_call 12; go_fit (awake_any _); rintro e w2 ⟨rfl, hb2⟩; have Hb2 := Lib.hid hb2; clear hb2)
      go_ret
      exact ⟨rfl, Hb2.out⟩
    case false =>
      rw [hM] at Hlm
      clear hM
      have Hi1 := Lib.hid (Insert_any b m s hm hs)
      have Hi2 := Lib.hid (refInsert_any b m s hm hs)
      have Hr1 := Lib.hid (Remove_any b m s hm hs)
      have Hr2 := Lib.hid (refRemove_any b m s hm hs)
      have Hq1 := Lib.hid (Rate_any b m hm)
      have Hq2 := Lib.hid (refRate_any b m hm)
      obtain ⟨n1, m1, n2, m2, hV⟩ := rateV_form b m
      rw [hV] at Hq1 Hq2
      clear hV
      generalize insOut b m s = A at *
      generalize insErr b m s = e1 at *
      generalize remOut b m s = B at *
      generalize remErr b m s = e2 at *
      generalize rateErr b m = e3 at *
      go_enter Try.func4, Try.ntmps4
      go_wp2_with fail
      refine (Hls.out _).mono ?_
      rintro e w1 ⟨rfl, rfl⟩
      go_wp2_with fail
      refine (Hlm.out _).mono ?_
      rintro e w1 ⟨rfl, rfl⟩
      go_wp2_with fail
      refine (Hi1.out _).mono ?_
      rintro e w1 ⟨rfl, hb⟩
      have Hw1 := Lib.hid hb
      clear hb
      go_wp2_with fail
      refine (Hi2.out _).mono ?_
      rintro e w2 ⟨rfl, hb⟩
      have Hw2 := Lib.hid (below_call Hw1.out Hw1.out.size hb)
      clear hb
      go_wp2_with fail
      refine (Hr1.out _).mono ?_
      rintro e w3 ⟨rfl, hb⟩
      have Hw3 := Lib.hid (below_call Hw2.out Hw2.out.size hb)
      clear hb
      go_wp2_with fail
      refine (Hr2.out _).mono ?_
      rintro e w4 ⟨rfl, rfl⟩
      go_wp2_with fail
      refine (Hq1.out _).mono ?_
      rintro e w5 ⟨rfl, hb⟩
      have Hw5 := Lib.hid (below_call Hw3.out Hw3.out.size hb)
      clear hb
      have hs5 := Hw5.out.size
      go_wp2_with fail
      refine (Hq2.out _).mono ?_
      rintro e w6 ⟨rfl, hb⟩
      have HB5 := Lib.hid ((Box4.new w5 (.bool n1) (.string m1) (.bool n2) (.string m2) 36).below hb (by simp))
      have Hw6 := Lib.hid (show Below w.heap.size w w6 from (Hw5.out.alloc hs5 _).trans (hb.mono (by simp; omega)))
      clear hb
      go_upto_region 9 with (fail)
      have HB7 := Lib.hid (Box4.new w6 (.bool n1) (.string m1) (.bool n2) (.string m2) 36)
      have hb6 : Below w6.heap.size w6 (w6.alloc (.cells #[.bool n1, .string m1, .bool n2, .string m2] 36)) := (Below.refl _ _).alloc (Nat.le_refl _) _
      have HB5b := Lib.hid (HB5.out.below hb6 HB5.out.2.2.2.2.2)
      have Hw7 := Lib.hid (Hw6.out.trans (hb6.mono Hw6.out.size))
      clear hb6
      generalize (w6.alloc (.cells #[.bool n1, .string m1, .bool n2, .string m2] 36)) = V at *
      obtain ⟨c0, c1, c2, c3, _, hc⟩ := HB5b.out
      obtain ⟨g0, g1, g2, g3, _, hg⟩ := HB7.out
      go_wp2_with (go_at_call 12; go_fit (awake_any _); rintro e w8 ⟨rfl, hb8⟩; have Hb8 := Lib.hid hb8; clear hb8)
      go_ret
      exact ⟨rfl, Hw7.out.trans (Hb8.out.mono Hw7.out.size)⟩
end Go.Proofs.Ytlkajmdcffemeaa
