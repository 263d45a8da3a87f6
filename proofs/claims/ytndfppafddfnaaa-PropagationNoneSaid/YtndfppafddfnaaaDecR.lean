/- The walk of grooveref26.Decode: it returns what window.Decode returns. -/
import Derived.Test.YtndfppafddfnaaaDec
import Derived.Test.YtndfppafddfnaaaWinR
namespace Go.Proofs.Ytndfppafddfnaaa
open Go.RowKit

set_option maxRecDepth 100000 in
set_option maxHeartbeats 4000000 in
theorem refDecode_any (l b i p f : Int) (es : List Ent) (a : Option Addr) (c : Nat) (s : ByteArray) (w : World) (hE : EntsAt w a es) (hwins : WinsFit es) (hs : s.size ≤ 9223372036854775807) :
    Calls Try.prog 42 #[.agg #[.int .i64 l, .int .i64 b, .int .i64 i, .int .i64 p, .int .i64 f, .slice a es.length c], .string s] w fun e w' =>
      ∃ v, e = .returned (.tuple #[v, .int .i64 (decErr l b i p f es s)]) ∧ OwnInts w' w.heap.size v (decOut l b i p f es s) ∧ Below w.heap.size w w' := by
  have HE := Lib.hid hE
  have HE2 := Lib.hid (hE.mono (Nat.le_refl _) ((Below.refl w.heap.size w).alloc (Nat.le_refl _) (.cells #[.int .i64 l, .int .i64 b, .int .i64 i, .int .i64 p, .int .i64 f, .slice a es.length c] 24)))
  have HW := Lib.hid hwins
  clear hE hwins
  by_cases e1 : decCheck l b i p f es = 0
  case neg =>
    have hv : decErr l b i p f es s = 1 := by unfold decErr; rw [if_pos e1]
    have ho : decOut l b i p f es s = [] := by unfold decOut; rw [hv]; rfl
    have Hv := Lib.hid hv
    have Ho := Lib.hid ho
    have e1' : (decCheck l b i p f es != 0) = true := by simpa using e1
    clear hv ho e1
    go_enter Try.func42, Try.ntmps42
    go_wp2_with (go_at_call 20; refine (refCheck26_any l b i p f es a c _ HE2.out HW.out).mono ?_; rintro e w' ⟨rfl, hb⟩; have Hb := Lib.hid hb; clear hb)
    go_ret2
    exact ⟨_, by rw [Hv.out]; rfl, by rw [Ho.out]; exact OwnInts.made _ (Nat.le_trans (by simp) Hb.out.size), (((Below.refl _ _).alloc (Nat.le_refl _) _).trans (Hb.out.mono (by simp))).alloc (Nat.le_trans (by simp) Hb.out.size) _⟩
  have e1' : (decCheck l b i p f es != 0) = false := by simpa using e1
  obtain ⟨⟨l1, l2⟩, ⟨b1, b2, i1, i2, p1, f1, p2, f2⟩, hes⟩ := decCheck_ok e1
  have E1 := Lib.hid e1
  clear e1
  by_cases e2 : wordCheck l s.data.toList = 0
  case neg =>
    have hv : decErr l b i p f es s = wordCheck l s.data.toList := by unfold decErr; rw [if_neg (by rw [E1.out]; simp), if_pos e2]
    have ho : decOut l b i p f es s = [] := by unfold decOut; rw [hv, if_neg e2]
    have Hv := Lib.hid hv
    have Ho := Lib.hid ho
    have e2' : (wordCheck l s.data.toList != 0) = true := by simpa using e2
    clear hv ho e2
    go_enter Try.func42, Try.ntmps42
    go_wp2_with (first
      | (go_at_call 20; refine (refCheck26_any l b i p f es a c _ HE2.out HW.out).mono ?_; rintro e w' ⟨rfl, hb⟩; obtain ⟨⟨c0, c1, c2, c3, c4, c5⟩, hsz, hbw⟩ := box6 (hb.mono (by simp)); have Hb := Lib.hid hbw; clear hb hbw)
      | (go_at_call 46; refine (refCheck7_any _ _ (by unfold maxLen; exact hs) _).mono ?_; rintro e w' ⟨rfl, rfl⟩))
    go_ret2
    exact ⟨_, by rw [Hv.out]; rfl, by rw [Ho.out]; exact OwnInts.made _ Hb.out.size, Hb.out.alloc Hb.out.size _⟩
  have e2' : (wordCheck l s.data.toList != 0) = false := by simpa using e2
  have hs2 : s.size ≤ 65536 := by have := wordCheck_len e2; simpa using this
  have E2 := Lib.hid e2
  clear e2
  by_cases e3 : (s.size : Int) % b = 0
  case neg =>
    have hv : decErr l b i p f es s = 11 := by unfold decErr; rw [if_neg (by rw [E1.out]; simp), if_neg (by rw [E2.out]; simp), if_pos e3]
    have ho : decOut l b i p f es s = [] := by unfold decOut; rw [hv]; rfl
    have Hv := Lib.hid hv
    have Ho := Lib.hid ho
    have e3' : ((s.size : Int) % b != 0) = true := by simpa using e3
    clear hv ho e3
    go_enter Try.func42, Try.ntmps42
    go_wp2_with (first
      | (go_at_call 20; refine (refCheck26_any l b i p f es a c _ HE2.out HW.out).mono ?_; rintro e w' ⟨rfl, hb⟩; obtain ⟨⟨c0, c1, c2, c3, c4, c5⟩, hsz, hbw⟩ := box6 (hb.mono (by simp)); have Hb := Lib.hid hbw; clear hb hbw)
      | (go_at_call 46; refine (refCheck7_any _ _ (by unfold maxLen; exact hs) _).mono ?_; rintro e w' ⟨rfl, rfl⟩))
    go_ret2
    exact ⟨_, by rw [Hv.out]; rfl, by rw [Ho.out]; exact OwnInts.made _ Hb.out.size, Hb.out.alloc Hb.out.size _⟩
  have hv : decErr l b i p f es s = 0 := by unfold decErr; rw [if_neg (by rw [E1.out]; simp), if_neg (by rw [E2.out]; simp), if_neg (by simpa using e3)]
  have ho : decOut l b i p f es s = decList b p f es s := by unfold decOut; rw [if_pos hv]
  have Hv := Lib.hid hv
  have Ho := Lib.hid ho
  have e3' : ((s.size : Int) % b != 0) = false := by simpa using e3
  clear hv ho e3
  have hmul := mul_wrap (a := p + 1 + f) (b := b) (A := 16) (B := 16) (by omega) (by omega) (by omega) (by omega) (by decide)
  have hm0 : 0 ≤ (p + 1 + f) * b := Int.mul_nonneg (by omega) (by omega)
  have hm1 : (p + 1 + f) * b ≤ 256 := Int.le_trans (Int.mul_le_mul_of_nonneg_right (show p + 1 + f ≤ 16 by omega) (by omega)) (by omega)
  obtain ⟨bn, rfl⟩ : ∃ bn : Nat, b = bn := ⟨b.toNat, by omega⟩
  obtain ⟨N, hN⟩ : ∃ N : Nat, (p + 1 + f) * (bn : Int) = N := ⟨((p + 1 + f) * (bn : Int)).toNat, by omega⟩
  have hN2 : IntKind.i64.wrap ((p + 1 + f) * (bn : Int)) = N := by rw [IntWalk.i64_in _ (by omega), hN]
  have hNle : N ≤ 256 := by omega
  have hL : decList bn p f es s = (List.range (winCount s.size N bn)).map fun k => decAt es s N (k * bn) := by
    unfold decList; rw [hN]; rfl
  have HL := Lib.hid hL
  clear hL hN hmul hm0 hm1
  have hb0 : 0 < bn := by omega
  go_enter Try.func42, Try.ntmps42
  go_wp2_with (first
      | (go_at_call 20; refine (refCheck26_any l bn i p f es a c _ HE2.out HW.out).mono ?_; rintro e w' ⟨rfl, hb⟩; obtain ⟨⟨c0, c1, c2, c3, c4, c5⟩, hsz, hbw⟩ := box6 (hb.mono (by simp)); have Hb := Lib.hid hbw; have HbX := Lib.hid (hb.mono (B' := w.heap.size + 1) (by simp)); clear hb hbw)
      | (go_at_call 46; refine (refCheck7_any _ _ (by unfold maxLen; exact hs) _).mono ?_; rintro e w' ⟨rfl, rfl⟩))
  go_loopw [7, 9] (fun v at_ wr => ∃ k A : Nat, at_ = .int .i64 A ∧ A ≤ s.size + bn ∧ Hid (A = k * bn) ∧ Hid (∀ j, j < k → j * bn + N ≤ s.size) ∧ Below (w.heap.size + 1) (w.alloc (.cells #[.int .i64 l, .int .i64 bn, .int .i64 i, .int .i64 p, .int .i64 f, .slice a es.length c] 24)) wr ∧ Hid (OwnInts wr (w.heap.size + 1) v ((List.range k).map fun k => decAt es s N (k * bn)))) (fun _ at_ _ => s.size + bn + 1 - (intOf at_).toNat)
  case atStart => exact ⟨0, 0, rfl, by omega, Lib.hid (by simp), Lib.hid (fun j hj => by omega), HbX.out.alloc (by simpa using HbX.out.size) _, Lib.hid (OwnInts.made _ (by simpa using HbX.out.size))⟩
  case round =>
    clear c0 c1 c2 c3 c4 c5 hsz
    obtain ⟨k, A, rfl, hA, HA, Hj, hb, Hown⟩ := hrel
    obtain ⟨⟨c0, c1, c2, c3, c4, c5⟩, hsz, hbw⟩ := box6 hb
    have Hbb := Lib.hid hb
    have Hbw := Lib.hid hbw
    clear hb hbw
    by_cases hlt : A + N ≤ s.size
    · have HE3 := Lib.hid (SlAt.mono HE.out (Nat.le_refl _) Hbw.out)
      have hA1 : (0 : Int) ≤ (A : Int) := by omega
      have hA2 : (A : Int) + (N : Int) ≤ (s.size : Int) := by omega
      have hA3 : (A : Int) ≤ (A : Int) + (N : Int) := by omega
      have hA4 : IntKind.i64.wrap ((A : Int) + (N : Int)) = (A : Int) + (N : Int) := IntWalk.i64_in _ (by omega)
      have hA5 : ((A : Int) + (N : Int)).toNat = A + N := by omega
      have hd : decAt es s N A = if hasAt es (s.extract A (A + N)) then (es.getD (placeOf es (s.extract A (A + N))) default).inp else -1 := by
        unfold decAt findE; cases hasAt es (s.extract A (A + N)) <;> rfl
      have hr1 : ((List.range (k + 1)).map fun k => decAt es s N (k * bn)) = ((List.range k).map fun k => decAt es s N (k * bn)) ++ [decAt es s N A] := by
        rw [List.range_succ, List.map_append, HA.out]; rfl
      have hj1 : ∀ j, j < k + 1 → j * bn + N ≤ s.size := fun j hj => by
        rcases Nat.lt_or_ge j k with h | h
        · exact Hj.out j h
        · have : j = k := by omega
          subst this; rw [← HA.out]; exact hlt
      have ha1 : A + bn = (k + 1) * bn := by rw [HA.out, Nat.add_mul, Nat.one_mul]
      have hklen : k ≤ s.size := by
        have := HA.out
        have h2 : k * 1 ≤ k * bn := Nat.mul_le_mul_left k hb0
        omega
      obtain ⟨P, hP⟩ : ∃ P, placeOf es (s.extract A (A + N)) = P := ⟨_, rfl⟩
      have hPle : P ≤ es.length := by rw [← hP]; exact placeOf_le _ _
      have hH : hasAt es (s.extract A (A + N)) = (decide (P < es.length) && ((es.getD P default).win.toList == (s.extract A (A + N)).toList)) := by unfold hasAt; rw [hP]
      rw [hP] at hd
      have Hr1 := Lib.hid hr1
      have Hj1 := Lib.hid hj1
      have Ha1 := Lib.hid ha1
      have HP := Lib.hid hP
      clear hr1 hj1 ha1 hP
      by_cases hPl : P < es.length
      · obtain ⟨eb, eo, rfl, heb, hcell⟩ := EntsAt.cells HE.out hPl
        obtain ⟨x, hx⟩ : ∃ x, es.getD P default = x := ⟨_, rfl⟩
        obtain ⟨d0, d1⟩ := EntsAt.fact hcell Hbw.out heb hPl hx
        rw [hx] at hH hd
        have hq1 : (P : Int) < (es.length : Int) := by omega
        have hq2 : (0 : Int) ≤ (P : Int) := by omega
        have hq3 : decide (P < es.length) = true := by simpa using hPl
        have Hx := Lib.hid hx
        clear hx hcell
        cases hok : (x.win.toList == (s.extract A (A + N)).toList)
        case false =>
          rw [hok] at hH
          rw [hH] at hd
          have Hd := Lib.hid hd
          clear hd hH
          go_wp2_with fail
          go_quiet ((go_at_call 72; exact quiet_l (place_any es _ c _ _ (SlAt.mono HE.out (Nat.le_refl _) (by exact below_dr Hbw.out)) hes)))
          rw [HP.out]
          go_wp2_with fail
          go_quiet (fail)
          go_wp2_with (at_builtin; refine wpList_append_int rfl _ _ rfl (w.heap.size + 1) _ _ rfl ((Hown.out.drewN _).alloc _) wr.heap.size 1 (-1) rfl ?_ ?_ ?_ ?_)
          · exact cell_new0 _ _ _
          · simp; omega
          · simp; omega
          · intro v' w2 hown2 hgrow
            have Hb4 := Lib.hid (below_append ((below_dr Hbb.out).alloc (by simp; omega) _) ((Hown.out.drewN _).alloc _) hgrow (by simp; omega) (Nat.le_refl _))
            obtain ⟨⟨g0, g1, g2, g3, g4, g5⟩, hsz2, hbw2⟩ := box6 Hb4.out
            have Hown2 := Lib.hid hown2
            clear hown2 hgrow hbw2
            go_wp2
            go_roundw
            case rel => exact ⟨k + 1, A + bn, by go_num, by omega, Ha1, Hj1, Hb4.out, Lib.hid (by rw [Hr1.out, Hd.out]; simpa using Hown2.out)⟩
            case measure => simp [intOf]; omega
        case true =>
          rw [hok] at hH
          rw [hH, hq3] at hd
          have Hd := Lib.hid hd
          clear hd hH
          go_wp2_with fail
          go_quiet ((go_at_call 72; exact quiet_l (place_any es _ c _ _ (SlAt.mono HE.out (Nat.le_refl _) (by exact below_dr Hbw.out)) hes)))
          rw [HP.out]
          go_wp2_with fail
          go_quiet (fail)
          go_wp2_with (at_builtin; refine wpList_append_int rfl _ _ rfl (w.heap.size + 1) _ _ rfl ((Hown.out.drewN _).alloc _) wr.heap.size 1 x.inp rfl ?_ ?_ ?_ ?_)
          · exact cell_new0 _ _ _
          · simp; omega
          · simp; omega
          · intro v' w2 hown2 hgrow
            have Hb4 := Lib.hid (below_append ((below_dr Hbb.out).alloc (by simp; omega) _) ((Hown.out.drewN _).alloc _) hgrow (by simp; omega) (Nat.le_refl _))
            obtain ⟨⟨g0, g1, g2, g3, g4, g5⟩, hsz2, hbw2⟩ := box6 Hb4.out
            have Hown2 := Lib.hid hown2
            clear hown2 hgrow hbw2
            go_wp2
            go_roundw
            case rel => exact ⟨k + 1, A + bn, by go_num, by omega, Ha1, Hj1, Hb4.out, Lib.hid (by rw [Hr1.out, Hd.out]; simpa using Hown2.out)⟩
            case measure => simp [intOf]; omega
      · have hq3 : decide (P < es.length) = false := by simpa using hPl
        have hq1 : ¬ (P : Int) < (es.length : Int) := by omega
        have hq4 : decide ((P : Int) < (es.length : Int)) = false := by simpa using hq1
        rw [hq3] at hH
        rw [hH] at hd
        have Hd := Lib.hid hd
        clear hd hH
        go_wp2_with fail
        go_quiet ((go_at_call 72; exact quiet_l (place_any es _ c _ _ (SlAt.mono HE.out (Nat.le_refl _) (by exact below_dr Hbw.out)) hes)))
        rw [HP.out]
        go_wp2_with fail
        go_quiet (fail)
        go_wp2_with (at_builtin; refine wpList_append_int rfl _ _ rfl (w.heap.size + 1) _ _ rfl ((Hown.out.drewN _).alloc _) wr.heap.size 1 (-1) rfl ?_ ?_ ?_ ?_)
        · exact cell_new0 _ _ _
        · simp; omega
        · simp; omega
        · intro v' w2 hown2 hgrow
          have Hb4 := Lib.hid (below_append ((below_dr Hbb.out).alloc (by simp; omega) _) ((Hown.out.drewN _).alloc _) hgrow (by simp; omega) (Nat.le_refl _))
          obtain ⟨⟨g0, g1, g2, g3, g4, g5⟩, hsz2, hbw2⟩ := box6 Hb4.out
          have Hown2 := Lib.hid hown2
          clear hown2 hgrow hbw2
          go_wp2
          go_roundw
          case rel => exact ⟨k + 1, A + bn, by go_num, by omega, Ha1, Hj1, Hb4.out, Lib.hid (by rw [Hr1.out, Hd.out]; simpa using Hown2.out)⟩
          case measure => simp [intOf]; omega
    · have hk : k = winCount s.size N bn := winCount_eq (by rw [← HA.out]; exact hlt) Hj.out
      have Hk := Lib.hid hk
      clear hk
      go_wp2
      go_ret2
      exact ⟨_, by rw [Hv.out]; rfl, by rw [Ho.out, HL.out, ← Hk.out]; exact Hown.out.base (by omega), Hbw.out⟩
end Go.Proofs.Ytndfppafddfnaaa
