/- The walk of MarkerSearches. -/
import Derived.Test.YtlkajmdcffemeaaRsr
import Derived.Test.YtlkajmdcffemeaaAwk
namespace Go.Proofs.Ytlkajmdcffemeaa
open Go.RowKit

set_option maxRecDepth 100000 in
set_option maxHeartbeats 8000000 in
theorem searchesLaw (b : Int) (m : ByteArray) (most : Int) (p : Option Addr) (c : Nat) (ws : List ByteArray) (w : World) (hm : m.size ≤ maxLen) (hS : StrsAt w p ws) (hx : ∀ x ∈ ws, x.size ≤ maxLen) (hc : ws.length ≤ c) (hc2 : c ≤ maxLen) :
    Calls Try.prog 9 #[.int .i64 b, .string m, .int .i64 most, .slice p ws.length c] w fun e w' => e = .returned (.bool true) ∧ Below w.heap.size w w' := by
  have HG := Lib.hid (greatList_any ws p c (by omega) w hS)
  have HLo := Lib.hid (long_any 20 m)
  have HS := Lib.hid hS
  have HX := Lib.hid hx
  have HM := Lib.hid hm
  clear hS hx hm
  go_enter Try.func9, Try.ntmps9
  go_wp2_with fail
  refine HG.out.mono ?_
  rintro e w1 ⟨v, rfl, hv, hd⟩
  have HS1 := Lib.hid (HS.out.below (Nat.le_refl _) (Drawn.below hd _))
  have Hb1 := Lib.hid (Drawn.below hd w.heap.size)
  have Hv := Lib.hid hv
  clear hv hd
  cases v
  · cases hlo : longB 20 m
    · rw [hlo] at HLo
      by_cases hmo : 5 < most
      · have hmoD : decide ((5 : Int) < most) = true := by rw [decide_eq_true_eq]; exact hmo
        by_cases h16 : most ≤ 16
        · have h16D : decide (most ≤ (16 : Int)) = true := by rw [decide_eq_true_eq]; exact h16
          clear hlo
          go_wp2_with first
            | (go_at_call 14; go_fit (HLo.out _); rintro e w2 ⟨rfl, rfl⟩)
            | (go_at_call 12; go_fit (awake_any _); rintro e wz ⟨rfl, hbz⟩; have Hbz := Lib.hid hbz; clear hbz)
          go_ret
          exact ⟨rfl, below_then Hb1.out Hb1.out.size Hbz.out⟩
        · have h16D : decide (most ≤ (16 : Int)) = false := by rw [decide_eq_false_iff_not]; exact h16
          clear hlo
          go_wp2_with (go_at_call 14; go_fit (HLo.out _); rintro e w2 ⟨rfl, rfl⟩)
          have hwl : ws.length ≤ 1100 := Hv.out (by first | trivial | rfl)
          have HS0 := HS1
          refine (Valid_any b m ws p c HM.out (by omega) HX.out _ HS0.out).mono ?_
          rintro e w3 ⟨v1, rfl, hv1, hb⟩
          have HS3 := Lib.hid (HS0.out.below (Nat.le_refl _) hb)
          have Hb3 := Lib.hid (below_then Hb1.out Hb1.out.size hb)
          clear hb
          have Hv1 := Lib.hid hv1
          clear hv1
          go_wp2_with fail
          refine (refValid49_any b m ws p c HM.out (by omega) HX.out hc hc2 _ HS3.out).mono ?_
          rintro e w4 ⟨v2, rfl, hv2, hb⟩
          have HS4 := Lib.hid (HS3.out.below (Nat.le_refl _) hb)
          have Hb4 := Lib.hid (below_then Hb3.out Hb3.out.size hb)
          have hvv : v2 = v1 := by
            have h1 := Hv1.out
            cases v1 <;> cases v2 <;> simp_all
          subst hvv
          clear hb hv2
          go_wp2_with fail
          refine (Search_any b most ws p c (by omega) HX.out _ HS4.out).mono ?_
          rintro e w5 ⟨s, E1, rfl, hs1, hs2, hb⟩
          have HS5 := Lib.hid (HS4.out.below (Nat.le_refl _) hb)
          have Hb5 := Lib.hid (below_then Hb4.out Hb4.out.size hb)
          have Hs1 := Lib.hid hs1
          have Hs2 := Lib.hid hs2
          clear hb hs1 hs2
          go_wp2_with fail
          refine (refSearch_any b most ws p c (by omega) HX.out hc hc2 _ HS5.out).mono ?_
          rintro e w6 ⟨s', E2, rfl, ht1, ht2, hb⟩
          have Hb6 := Lib.hid (below_then Hb5.out Hb5.out.size hb)
          have hss : s' = s ∧ E2 = E1 := by
            by_cases h0 : srchErr b most ws = 0
            · exact srch_unique (ht2 h0) (Hs2.out h0)
            · obtain ⟨a1, a2⟩ := Hs1.out h0
              obtain ⟨b1, b2⟩ := ht1 h0
              exact ⟨b2.trans a2.symm, b1.trans a1.symm⟩
          obtain ⟨rfl, rfl⟩ := hss
          have q1 : (s'.toList == s'.toList) = true := beq_self_eq_true _
          have q2 : (E2 == E2) = true := beq_self_eq_true _
          have q3 : (v2 == v2) = true := beq_self_eq_true _
          have q4 : (validErr b m ws == validErr b m ws) = true := beq_self_eq_true _
          clear hb ht1 ht2 Hs1 Hs2 Hv1
          generalize validErr b m ws = E0 at *
          go_wp2_with (go_at_call 12; go_fit (awake_any _); rintro e wz ⟨rfl, hbz⟩; have Hbz := Lib.hid hbz; clear hbz)
          go_ret
          exact ⟨rfl, below_then Hb6.out Hb6.out.size Hbz.out⟩
      · have hmoD : decide ((5 : Int) < most) = false := by rw [decide_eq_false_iff_not]; exact hmo
        clear hlo
        go_wp2_with (go_at_call 14; go_fit (HLo.out _); rintro e w2 ⟨rfl, rfl⟩)
        have hwl : ws.length ≤ 1100 := Hv.out (by first | trivial | rfl)
        have HS0 := HS1
        refine (Valid_any b m ws p c HM.out (by omega) HX.out _ HS0.out).mono ?_
        rintro e w3 ⟨v1, rfl, hv1, hb⟩
        have HS3 := Lib.hid (HS0.out.below (Nat.le_refl _) hb)
        have Hb3 := Lib.hid (below_then Hb1.out Hb1.out.size hb)
        clear hb
        have Hv1 := Lib.hid hv1
        clear hv1
        go_wp2_with fail
        refine (refValid49_any b m ws p c HM.out (by omega) HX.out hc hc2 _ HS3.out).mono ?_
        rintro e w4 ⟨v2, rfl, hv2, hb⟩
        have HS4 := Lib.hid (HS3.out.below (Nat.le_refl _) hb)
        have Hb4 := Lib.hid (below_then Hb3.out Hb3.out.size hb)
        have hvv : v2 = v1 := by
          have h1 := Hv1.out
          cases v1 <;> cases v2 <;> simp_all
        subst hvv
        clear hb hv2
        go_wp2_with fail
        refine (Search_any b most ws p c (by omega) HX.out _ HS4.out).mono ?_
        rintro e w5 ⟨s, E1, rfl, hs1, hs2, hb⟩
        have HS5 := Lib.hid (HS4.out.below (Nat.le_refl _) hb)
        have Hb5 := Lib.hid (below_then Hb4.out Hb4.out.size hb)
        have Hs1 := Lib.hid hs1
        have Hs2 := Lib.hid hs2
        clear hb hs1 hs2
        go_wp2_with fail
        refine (refSearch_any b most ws p c (by omega) HX.out hc hc2 _ HS5.out).mono ?_
        rintro e w6 ⟨s', E2, rfl, ht1, ht2, hb⟩
        have Hb6 := Lib.hid (below_then Hb5.out Hb5.out.size hb)
        have hss : s' = s ∧ E2 = E1 := by
          by_cases h0 : srchErr b most ws = 0
          · exact srch_unique (ht2 h0) (Hs2.out h0)
          · obtain ⟨a1, a2⟩ := Hs1.out h0
            obtain ⟨b1, b2⟩ := ht1 h0
            exact ⟨b2.trans a2.symm, b1.trans a1.symm⟩
        obtain ⟨rfl, rfl⟩ := hss
        have q1 : (s'.toList == s'.toList) = true := beq_self_eq_true _
        have q2 : (E2 == E2) = true := beq_self_eq_true _
        have q3 : (v2 == v2) = true := beq_self_eq_true _
        have q4 : (validErr b m ws == validErr b m ws) = true := beq_self_eq_true _
        clear hb ht1 ht2 Hs1 Hs2 Hv1
        generalize validErr b m ws = E0 at *
        go_wp2_with (go_at_call 12; go_fit (awake_any _); rintro e wz ⟨rfl, hbz⟩; have Hbz := Lib.hid hbz; clear hbz)
        go_ret
        exact ⟨rfl, below_then Hb6.out Hb6.out.size Hbz.out⟩
    · rw [hlo] at HLo
      clear hlo
      go_wp2_with first
        | (go_at_call 14; go_fit (HLo.out _); rintro e w2 ⟨rfl, rfl⟩)
        | (go_at_call 12; go_fit (awake_any _); rintro e wz ⟨rfl, hbz⟩; have Hbz := Lib.hid hbz; clear hbz)
      go_ret
      exact ⟨rfl, below_then Hb1.out Hb1.out.size Hbz.out⟩
  · go_wp2_with (go_at_call 12; go_fit (awake_any _); rintro e wz ⟨rfl, hbz⟩; have Hbz := Lib.hid hbz; clear hbz)
    go_ret
    exact ⟨rfl, below_then Hb1.out Hb1.out.size Hbz.out⟩
end Go.Proofs.Ytlkajmdcffemeaa
