/- grooveref03.term: the walk. -/
import Derived.Test.YteoemijgdcpopaaDoorE43
import Derived.Test.YteoemijgdcpopaaDoorE38
import Derived.Test.YteoemijgdcpopaaDoorE31
namespace Go.Proofs.YteoemijgdcpopaaDoor
open Go.RowKit Go.Shelf
theorem decL_dec : ∀ v, 0 < v → decL v = Lib.decDigits v := by
  intro v
  induction v using Nat.strongRecOn with
  | ind v ih =>
    intro hv
    rw [decL_ten v (by omega), Lib.decDigits]
    by_cases h : v < 10
    · rw [dif_pos h, Nat.div_eq_of_lt h, decL_zero, Nat.mod_eq_of_lt h]; rfl
    · rw [dif_neg h, ih (v / 10) (by omega) (by omega)]
theorem prI_dec {v : Nat} (h : 0 < v) : prI (v : Int) = Lib.decDigits v := by
  unfold prI
  rw [if_neg (by omega), if_neg (by omega), List.nil_append, Int.natAbs_natCast, decL_dec v h]
theorem prI_one (v : Nat) : (prI (v : Int) == [49]) = decide (v = 1) := by
  rw [Bool.eq_iff_iff, beq_iff_eq, decide_eq_true_eq]
  constructor
  · intro h
    rcases Nat.eq_zero_or_pos v with h0 | h0
    · subst h0
      have : prI ((0 : Nat) : Int) = [48] := rfl
      rw [this] at h
      exact absurd h (by decide)
    · rw [prI_dec h0, Lib.decDigits] at h
      by_cases h1 : v < 10
      · rw [dif_pos h1] at h
        have h2 := (List.cons.inj h).1
        have h3 : (UInt8.ofNat (48 + v)).toNat = 49 := by rw [h2]; rfl
        rw [UInt8.toNat_ofNat', Nat.mod_eq_of_lt (by omega)] at h3
        omega
      · rw [dif_neg h1] at h
        have h2 := congrArg List.length h
        rw [List.length_append] at h2
        have h3 : 0 < (Lib.decDigits (v / 10)).length := by
          rw [Lib.decDigits]
          split <;> simp
        have h4 : (Lib.decDigits (v / 10)).length + 1 = 1 := h2
        omega
  · rintro rfl
    rw [prI_dec (by decide), Lib.decDigits, dif_pos (by decide)]; rfl
set_option maxRecDepth 100000 in
set_option maxHeartbeats 8000000 in
theorem refTerm_any (n : Nat) (hn : n < 100) (z : ZI) (hz : z.mag.size ≤ 1000000) (w : World) :
    Calls Tryd.prog 69 #[.agg #[.bool z.neg, .string z.mag], .int .i64 (n : Int)] w fun e w' => e = .returned (.string ⟨(termL n (valZ z).natAbs).toArray⟩) ∧ Below w.heap.size w w' := by
  obtain ⟨x, hx⟩ : ∃ x, valZ z = x := ⟨_, rfl⟩
  have HCm := Lib.hid (fun W => refCmpZ_any z ⟨false, ⟨#[]⟩⟩ (by omega) (by decide) x 0 hx rfl W)
  have HNg := Lib.hid (fun W => refNeg_any z (by omega) W)
  have hP0 := fun W => refPrint_any z hz W
  have hcs : (canon (-x)).mag.size ≤ 1000000 := by
    have h1 := canon_size_le z
    have h2 : (canon (-x)).mag = (canon x).mag := by
      unfold canon
      rw [Int.natAbs_neg]
    rw [h2, ← hx]
    exact Nat.le_trans h1 hz
  have hP1 := fun W => refPrint_any (canon (-x)) hcs W
  rw [valZ_canon] at hP1
  rw [hx] at hP0 HNg ⊢
  have hv : x.natAbs < 256 ^ (canon x).mag.size := by
    have := absZ_lt (canon x)
    rwa [absZ_canon] at this
  have hpl := prI_nat_len hv
  have hms : (canon x).mag.size ≤ 1000000 := by rw [← hx]; exact Nat.le_trans (canon_size_le z) hz
  have hpw := powL_len hn
  have HOf := Lib.hid (fun W => refOf_any n (by omega) W)
  have hPn := fun W => refPrint_any (canon (n : Int)) (by
    have := canon_size (n : Int) (k := 1) (by omega)
    omega) W
  rw [valZ_canon] at hPn
  have h1 := prI_one x.natAbs
  have z1 : ({data := #[42]} : ByteArray).size = 1 := rfl
  have z2 : ({data := #[120, 94]} : ByteArray).size = 2 := rfl
  have z3 : ({data := #[120]} : ByteArray).size = 1 := rfl
  obtain ⟨P, hP⟩ : ∃ P : ByteArray, (⟨(prI (x.natAbs : Int)).toArray⟩ : ByteArray) = P := ⟨_, rfl⟩
  obtain ⟨D, hD⟩ : ∃ P : ByteArray, (⟨(prI (n : Int)).toArray⟩ : ByteArray) = P := ⟨_, rfl⟩
  obtain ⟨b1, hb1⟩ : ∃ b, decide (x.natAbs = 1) = b := ⟨_, rfl⟩
  have hPs : P.size ≤ 4000000 := by rw [← hP]; simp [ByteArray.size]; omega
  have hDs : D.size ≤ 4 := by
    have h2 := prI_nat_len (v := n) (k := 1) (by omega)
    rw [← hD]; simp [ByteArray.size]; omega
  have hT : (⟨(termL n x.natAbs).toArray⟩ : ByteArray) = if n = 0 then P else if n = 1 then (if b1 = true then ⟨#[120]⟩ else P ++ ⟨#[42]⟩ ++ ⟨#[120]⟩) else if b1 = true then (⟨#[120, 94]⟩ ++ D) else P ++ ⟨#[42]⟩ ++ (⟨#[120, 94]⟩ ++ D) := by
    unfold termL powL
    rw [← hP, ← hD, ← hb1]
    simp only [decide_eq_true_eq]
    by_cases h0 : n = 0
    · rw [if_pos h0, if_pos h0]
    · rw [if_neg h0, if_neg h0, prI_dec (show 0 < n by omega)]
      by_cases h2 : x.natAbs = 1 <;> by_cases h3 : n = 1 <;> simp only [h2, h3, if_true, if_false] <;> (apply ByteArray.ext; simp)
  have hp1 : P.toList = prI (x.natAbs : Int) := by rw [← hP, ByteArray.toList_eq]
  rw [← hp1, hb1] at h1
  rw [hD] at hPn
  have HT := Lib.hid hT
  have HPn := Lib.hid hPn
  obtain ⟨RES, hRES⟩ : ∃ s : ByteArray, (⟨(termL n x.natAbs).toArray⟩ : ByteArray) = s := ⟨_, rfl⟩
  rw [hRES] at HT ⊢
  have HP0 : Hid (¬ x < 0 → ∀ W, Calls Tryd.prog 100 #[.agg #[.bool z.neg, .string z.mag]] W fun e w' => e = .returned (.string P) ∧ Below W.heap.size W w') := Lib.hid (fun h W => by
    have h2 := hP0 W
    rw [show prI x = prI (x.natAbs : Int) from by congr 1; omega, hP] at h2
    exact h2)
  have HP1 : Hid (x < 0 → ∀ W, Calls Tryd.prog 100 #[.agg #[.bool (canon (-x)).neg, .string (canon (-x)).mag]] W fun e w' => e = .returned (.string P) ∧ Below W.heap.size W w') := Lib.hid (fun h W => by
    have h2 := hP1 W
    rw [show prI (-x) = prI (x.natAbs : Int) from by congr 1; omega, hP] at h2
    exact h2)
  have hbx := BoxAt.new w (.bool z.neg) (.string z.mag) 35
  have hal := (Below.refl w.heap.size w).alloc (Nat.le_refl _) (.cells #[.bool z.neg, .string z.mag] 35)
  have HX := Lib.hid hbx
  have HB := Lib.hid hal
  have hc : ∃ c : Int, cmpI x 0 = c ∧ (x < 0 → c = -1) ∧ (¬ x < 0 → ¬ c < 0) := ⟨_, rfl, fun h => by unfold cmpI; rw [if_pos h], fun h => by unfold cmpI; rw [if_neg h]; split <;> omega⟩
  obtain ⟨c, hcc, hc1, hc2⟩ := hc
  rw [hcc] at HCm
  obtain ⟨Y, hY⟩ : ∃ Y, canon (-x) = Y := ⟨_, rfl⟩
  rw [hY] at HNg HP1
  clear hx hz hP0 hP1 hcs hv hpl hms hpw hPn hP hD hb1 hT hp1 hRES hbx hal hcc hY
  go_enter Tryd.func69, Tryd.ntmps69
  go_upto_region 1 with (fail)
  obtain ⟨gx, hgx⟩ : ∃ g, w.heap.size = g := ⟨_, rfl⟩
  have hwg : w.heap.size ≤ gx := by omega
  rw [hgx] at HX ⊢
  clear hgx
  generalize w.alloc (.cells #[.bool z.neg, .string z.mag] 35) = V at *
  obtain ⟨a0, a1, _, _, _⟩ := HX.out
  go_wp2_with fail
  refine (HCm.out V).mono ?_
  rintro e V1 ⟨rfl, hb1⟩
  dsimp only
  have HX1 := Lib.hid (HX.out.below hb1 HX.out.2.2.2.2)
  have HB1 := Lib.hid (HB.out.trans (hb1.mono HB.out.size))
  clear hb1 a0 a1 HX HB HCm
  by_cases hneg : x < 0
  · have hcl := hc1 hneg
    subst hcl
    have HPR := Lib.hid (HP1.out hneg)
    clear hc1 hc2 hneg HP0 HP1
    obtain ⟨a0, a1, _, _, _⟩ := HX1.out
    go_wp2_with fail
    refine (HNg.out V1).mono ?_
    rintro e V2 ⟨rfl, hb2⟩
    dsimp only
    have HX2 := Lib.hid (HX1.out.below hb2 HX1.out.2.2.2.2)
    have HB2 := Lib.hid (HB1.out.trans (hb2.mono HB1.out.size))
    clear hb2 a0 a1 HX1 HB1 HNg
    have HX3 := Lib.hid (HX2.out.set2 (.bool Y.neg) (.string Y.mag))
    have HB3 := Lib.hid ((HB2.out.setCell (p := ⟨gx, 0, none⟩) hwg (.bool Y.neg)).setCell (p := ⟨gx, 1, none⟩) hwg (.string Y.mag))
    obtain ⟨b0, b1_, b2, b3, b4⟩ := HX2.out
    go_upto_region 3 with (fail)
    clear b0 b1_ b2 b3 b4 HX2 HB2
    generalize (V2.setCell ⟨gx, 0, none⟩ (.bool Y.neg)).setCell ⟨gx, 1, none⟩ (.string Y.mag) = V3 at *
    obtain ⟨c0, c1, _, _, _⟩ := HX3.out
    go_wp2_with fail
    refine (HPR.out V3).mono ?_
    rintro e V4 ⟨rfl, hb4⟩
    dsimp only
    have HB4 := Lib.hid (HB3.out.trans (hb4.mono HB3.out.size))
    clear hb4 c0 c1 HX3 HB3 HPR
    by_cases n0 : n = 0
    · subst n0
      go_wp2_with fail
      go_ret
      exact ⟨by rw [HT.out]; simp, HB4.out⟩
    have n0I : ¬ (n : Int) = 0 := by omega
    by_cases n1 : n = 1
    · subst n1
      go_upto_region 9 with (fail)
      obtain ⟨PW, hPW⟩ : ∃ s : ByteArray, ({data := #[120]} : ByteArray) = s := ⟨_, rfl⟩
      have hPWs : PW.size ≤ 6 := by rw [← hPW]; omega
      try rw [hPW]
      have HPW := Lib.hid hPW
      have HBW := HB4
      clear hPW
      have h2 : (P.toList == ({data := #[49]} : ByteArray).toList) = b1 := by rw [ByteArray.toList_eq]; rw [ByteArray.toList_eq] at h1; rw [ByteArray.toList_eq]; exact h1
      cases b1 with
      | true =>
        go_wp2_with fail
        go_ret
        exact ⟨by rw [HT.out, ← HPW.out]; simp [], HBW.out⟩
      | false =>
        have s1 : ¬ 9223372036854775807 < P.size + ({data := #[42]} : ByteArray).size := by omega
        have s2 : ¬ 9223372036854775807 < (P ++ ({data := #[42]} : ByteArray)).size + PW.size := by rw [ByteArray.size_append]; omega
        go_wp2_with fail
        go_ret
        exact ⟨by rw [HT.out, ← HPW.out]; simp [], HBW.out⟩
    · have n1I : (n : Int) > 1 := by omega
      have s0 : ¬ 9223372036854775807 < ({data := #[120, 94]} : ByteArray).size + D.size := by omega
      go_wp2_with fail
      refine (HOf.out V4).mono ?_
      rintro e V5 ⟨rfl, hb5⟩
      dsimp only
      have HB5 := Lib.hid (HB4.out.trans (hb5.mono HB4.out.size))
      clear hb5
      go_wp2_with fail
      refine (HPn.out V5).mono ?_
      rintro e V6 ⟨rfl, hb6⟩
      dsimp only
      have HBW := Lib.hid (HB5.out.trans (hb6.mono HB5.out.size))
      clear hb6 HB4 HB5
      go_upto_region 9 with (fail)
      obtain ⟨PW, hPW⟩ : ∃ s : ByteArray, (({data := #[120, 94]} : ByteArray) ++ D) = s := ⟨_, rfl⟩
      have hPWs : PW.size ≤ 6 := by rw [← hPW, ByteArray.size_append]; omega
      try rw [hPW]
      have HPW := Lib.hid hPW
      clear hPW
      have h2 : (P.toList == ({data := #[49]} : ByteArray).toList) = b1 := by rw [ByteArray.toList_eq]; rw [ByteArray.toList_eq] at h1; rw [ByteArray.toList_eq]; exact h1
      cases b1 with
      | true =>
        go_wp2_with fail
        go_ret
        exact ⟨by rw [HT.out, ← HPW.out]; simp [n0, n1], HBW.out⟩
      | false =>
        have s1 : ¬ 9223372036854775807 < P.size + ({data := #[42]} : ByteArray).size := by omega
        have s2 : ¬ 9223372036854775807 < (P ++ ({data := #[42]} : ByteArray)).size + PW.size := by rw [ByteArray.size_append]; omega
        go_wp2_with fail
        go_ret
        exact ⟨by rw [HT.out, ← HPW.out]; simp [n0, n1], HBW.out⟩
  · have hcl := hc2 (by omega)
    have HPR := Lib.hid (HP0.out (by omega))
    have HX3 := HX1
    have HB3 := HB1
    clear hc1 hc2 hneg HP0 HP1 HX1 HB1
    obtain ⟨V3, hV3⟩ : ∃ V, V1 = V := ⟨_, rfl⟩
    rw [hV3] at HX3 HB3 ⊢
    go_upto_region 3 with (fail)
    obtain ⟨c0, c1, _, _, _⟩ := HX3.out
    go_wp2_with fail
    refine (HPR.out V3).mono ?_
    rintro e V4 ⟨rfl, hb4⟩
    dsimp only
    have HB4 := Lib.hid (HB3.out.trans (hb4.mono HB3.out.size))
    clear hb4 c0 c1 HX3 HB3 HPR
    by_cases n0 : n = 0
    · subst n0
      go_wp2_with fail
      go_ret
      exact ⟨by rw [HT.out]; simp, HB4.out⟩
    have n0I : ¬ (n : Int) = 0 := by omega
    by_cases n1 : n = 1
    · subst n1
      go_upto_region 9 with (fail)
      obtain ⟨PW, hPW⟩ : ∃ s : ByteArray, ({data := #[120]} : ByteArray) = s := ⟨_, rfl⟩
      have hPWs : PW.size ≤ 6 := by rw [← hPW]; omega
      try rw [hPW]
      have HPW := Lib.hid hPW
      have HBW := HB4
      clear hPW
      have h2 : (P.toList == ({data := #[49]} : ByteArray).toList) = b1 := by rw [ByteArray.toList_eq]; rw [ByteArray.toList_eq] at h1; rw [ByteArray.toList_eq]; exact h1
      cases b1 with
      | true =>
        go_wp2_with fail
        go_ret
        exact ⟨by rw [HT.out, ← HPW.out]; simp [], HBW.out⟩
      | false =>
        have s1 : ¬ 9223372036854775807 < P.size + ({data := #[42]} : ByteArray).size := by omega
        have s2 : ¬ 9223372036854775807 < (P ++ ({data := #[42]} : ByteArray)).size + PW.size := by rw [ByteArray.size_append]; omega
        go_wp2_with fail
        go_ret
        exact ⟨by rw [HT.out, ← HPW.out]; simp [], HBW.out⟩
    · have n1I : (n : Int) > 1 := by omega
      have s0 : ¬ 9223372036854775807 < ({data := #[120, 94]} : ByteArray).size + D.size := by omega
      go_wp2_with fail
      refine (HOf.out V4).mono ?_
      rintro e V5 ⟨rfl, hb5⟩
      dsimp only
      have HB5 := Lib.hid (HB4.out.trans (hb5.mono HB4.out.size))
      clear hb5
      go_wp2_with fail
      refine (HPn.out V5).mono ?_
      rintro e V6 ⟨rfl, hb6⟩
      dsimp only
      have HBW := Lib.hid (HB5.out.trans (hb6.mono HB5.out.size))
      clear hb6 HB4 HB5
      go_upto_region 9 with (fail)
      obtain ⟨PW, hPW⟩ : ∃ s : ByteArray, (({data := #[120, 94]} : ByteArray) ++ D) = s := ⟨_, rfl⟩
      have hPWs : PW.size ≤ 6 := by rw [← hPW, ByteArray.size_append]; omega
      try rw [hPW]
      have HPW := Lib.hid hPW
      clear hPW
      have h2 : (P.toList == ({data := #[49]} : ByteArray).toList) = b1 := by rw [ByteArray.toList_eq]; rw [ByteArray.toList_eq] at h1; rw [ByteArray.toList_eq]; exact h1
      cases b1 with
      | true =>
        go_wp2_with fail
        go_ret
        exact ⟨by rw [HT.out, ← HPW.out]; simp [n0, n1], HBW.out⟩
      | false =>
        have s1 : ¬ 9223372036854775807 < P.size + ({data := #[42]} : ByteArray).size := by omega
        have s2 : ¬ 9223372036854775807 < (P ++ ({data := #[42]} : ByteArray)).size + PW.size := by rw [ByteArray.size_append]; omega
        go_wp2_with fail
        go_ret
        exact ⟨by rw [HT.out, ← HPW.out]; simp [n0, n1], HBW.out⟩
end Go.Proofs.YteoemijgdcpopaaDoor
