/- The walk of grooveref26.Check: it returns what window.Check returns. The walk of grooveref26.Decode: it returns what window.Decode returns. -/
import Derived.Test.YtcafeffgaokiaaaZ1
import Derived.Test.YtcafeffgaokiaaaZ3
namespace Go.Proofs.Ytcafeffgaokiaaa
open Go.RowKit

set_option maxHeartbeats 400000 in
theorem sides_any (p f : Int) (w : World) :
    Calls Try.prog 95 #[.int .i64 p, .int .i64 f] w fun e w' => e = .returned (.int .i64 (if p < 0 ∨ f < 0 ∨ 16 ≤ p ∨ 16 - p ≤ f then 2 else 0)) ∧ w = w' := by
  by_cases h : p < 0 ∨ f < 0 ∨ 16 ≤ p ∨ 16 - p ≤ f
  · rw [if_pos h]
    go_enter Try.func95, Try.ntmps95
    go_wp2
    all_goals
      go_ret
      exact ⟨rfl, rfl⟩
  · rw [if_neg h]
    have a5 : 0 ≤ p := by omega
    have a6 : 0 ≤ f := by omega
    have a7 : p < 16 := by omega
    have a8 : f < 16 - p := by omega
    clear h
    go_enter Try.func95, Try.ntmps95
    go_wp2
    all_goals
      go_ret
      exact ⟨rfl, rfl⟩

set_option maxRecDepth 100000 in
set_option maxHeartbeats 4000000 in
theorem refCheck26_any (l b i p f : Int) (es : List Ent) (a : Option Addr) (c : Nat) (w : World) (hE : EntsAt w a es) (hwins : WinsFit es) :
    Calls Try.prog 72 #[.agg #[.int .i64 l, .int .i64 b, .int .i64 i, .int .i64 p, .int .i64 f, .slice a es.length c]] w fun e w' => e = .returned (.int .i64 (decCheck l b i p f es)) ∧ Below w.heap.size w w' := by
  have HE := Lib.hid hE
  have HW := Lib.hid hwins
  clear hE hwins
  by_cases h1 : l < 1 ∨ 16 < l
  · have hv : decCheck l b i p f es = 12 := by simp [decCheck, h1]
    have Hv := Lib.hid hv
    clear hv
    go_enter Try.func72, Try.ntmps72
    go_wp2
    all_goals
      go_ret
      exact ⟨ret_int Hv.out.symm, (Below.refl _ _).alloc (Nat.le_refl _) _⟩
  have h1a : 1 ≤ l := by omega
  have h1b : l ≤ 16 := by omega
  by_cases h2 : b < 1 ∨ 16 < b ∨ i < 1 ∨ 256 < i ∨ p < 0 ∨ f < 0 ∨ 16 ≤ p ∨ 16 - p ≤ f
  · have hv : decCheck l b i p f es = 2 := by unfold decCheck; rw [if_neg h1, if_pos h2]
    have Hv := Lib.hid hv
    clear hv h1
    go_enter Try.func72, Try.ntmps72
    go_wp2_with (go_at_call 95; refine (sides_any _ _ _).mono ?_; rintro e w' ⟨rfl, rfl⟩)
    all_goals
      go_ret
      exact ⟨ret_int Hv.out.symm, (Below.refl _ _).alloc (Nat.le_refl _) _⟩
  have hv : decCheck l b i p f es = if 65536 < es.length then 4 else firstFrom (entBody l b i p f es) 0 es.length 0 := by
    unfold decCheck; rw [if_neg h1, if_neg h2]
  have Hv := Lib.hid hv
  clear hv
  have a1 : 1 ≤ b := by omega
  have a2 : b ≤ 16 := by omega
  have a3 : 1 ≤ i := by omega
  have a4 : i ≤ 256 := by omega
  have a5 : 0 ≤ p := by omega
  have a6 : 0 ≤ f := by omega
  have a7 : p < 16 := by omega
  have a8 : f < 16 - p := by omega
  clear h1 h2
  by_cases h3 : 65536 < es.length
  · have hs : (if p < 0 ∨ f < 0 ∨ 16 ≤ p ∨ 16 - p ≤ f then (2 : Int) else 0) = 0 := if_neg (by omega)
    go_enter Try.func72, Try.ntmps72
    go_wp2_with (go_at_call 95; refine (sides_any _ _ _).mono ?_; rintro e w' ⟨rfl, rfl⟩; rw [hs])
    go_ret
    exact ⟨ret_int (by rw [Hv.out, if_pos h3]), (Below.refl _ _).alloc (Nat.le_refl _) _⟩
  have hmul := mul_wrap (a := p + 1 + f) (b := b) (A := 16) (B := 16) (by omega) (by omega) (by omega) (by omega) (by decide)
  have hs : (if p < 0 ∨ f < 0 ∨ 16 ≤ p ∨ 16 - p ≤ f then (2 : Int) else 0) = 0 := if_neg (by omega)
  go_enter Try.func72, Try.ntmps72
  go_wp2_with (go_at_call 95; refine (sides_any _ _ _).mono ?_; rintro e w' ⟨rfl, rfl⟩; rw [hs])
  clear hs
  go_loopw [3] (fun s wr => ∃ k : Nat, k ≤ es.length ∧ s = .int .i64 k ∧ Below (w.heap.size + 1) (w.alloc (.cells #[.int .i64 l, .int .i64 b, .int .i64 i, .int .i64 p, .int .i64 f, .slice a es.length c] 30)) wr ∧ Hid (decCheck l b i p f es = firstFrom (entBody l b i p f es) 0 (es.length - k) k)) (fun s _ => es.length - (intOf s).toNat)
  case atStart => exact ⟨0, by omega, rfl, Below.refl _ _, Lib.hid (by rw [Hv.out, if_neg h3]; rfl)⟩
  case round =>
    obtain ⟨k, hk, rfl, hb, hr⟩ := hrel
    obtain ⟨⟨c0, c1, c2, c3, c4, c5⟩, hsz, hbw⟩ := box6 hb
    by_cases hlt : k < es.length
    · obtain ⟨eb, eo, rfl, heb, hcell⟩ := EntsAt.cells HE.out hlt
      obtain ⟨x, hx⟩ : ∃ x, es.getD k default = x := ⟨_, rfl⟩
      obtain ⟨d0, d1⟩ := EntsAt.fact hcell hbw heb hlt hx
      have heb' : eb < wr.heap.size := by omega
      have hkw : x.win.size ≤ 9223372036854775807 := HW.out _ (by rw [← hx]; exact getD_mem _ _ _ hlt)
      have Hx := Lib.hid hx
      have Hb := Lib.hid hb
      have Hc := Lib.hid hcell
      have Hbw := Lib.hid hbw
      clear hx hb hcell hbw
      by_cases e1 : (x.win.size : Int) = (p + 1 + f) * b
      case neg =>
        have hv2 : decCheck l b i p f es = 11 := by
          rw [hr.out, firstFrom_some hlt (r := 11)]
          unfold entBody; rw [Hx.out, if_pos e1]
        have Hv2 := Lib.hid hv2
        have e1' : ((x.win.size : Int) != (p + 1 + f) * b) = true := by simpa using e1
        clear hv2 e1
        go_wp2
        go_ret
        exact ⟨ret_int Hv2.out.symm, (Hbw.out).alloc (by omega) _⟩
      have e1' : ((x.win.size : Int) != (p + 1 + f) * b) = false := by simpa using e1
      have E1 := Lib.hid e1
      clear e1
      by_cases e2 : wordCheck l x.win.data.toList = 0
      case neg =>
        have hv2 : decCheck l b i p f es = wordCheck l x.win.data.toList := by
          rw [hr.out, firstFrom_some hlt (r := wordCheck l x.win.data.toList)]
          unfold entBody; rw [Hx.out, if_neg (by simpa using E1.out), if_pos e2]
        have Hv2 := Lib.hid hv2
        have e2' : (wordCheck l x.win.data.toList != 0) = true := by simpa using e2
        clear hv2 e2
        go_wp2_with (go_at_call 94; refine (refCheck7_any _ _ (by unfold maxLen; omega) _).mono ?_; rintro e w' ⟨rfl, rfl⟩)
        go_ret
        exact ⟨ret_int Hv2.out.symm, by repeat (first | exact Hbw.out.alloc (by omega) _ | refine below_dr ?_)⟩
      have e2' : (wordCheck l x.win.data.toList != 0) = false := by simpa using e2
      have E2 := Lib.hid e2
      clear e2
      by_cases e3 : x.inp < 0 ∨ i ≤ x.inp
      · have hv2 : decCheck l b i p f es = 2 := by
          rw [hr.out, firstFrom_some hlt (r := 2)]
          unfold entBody; rw [Hx.out, if_neg (by simpa using E1.out), if_neg (by simpa using E2.out), if_pos e3]
        have Hv2 := Lib.hid hv2
        clear hv2
        go_wp2_with (go_at_call 94; refine (refCheck7_any _ _ (by unfold maxLen; omega) _).mono ?_; rintro e w' ⟨rfl, rfl⟩)
        all_goals
          go_ret
          exact ⟨ret_int Hv2.out.symm, by repeat (first | exact Hbw.out.alloc (by omega) _ | refine below_dr ?_)⟩
      have e3a : 0 ≤ x.inp := by omega
      have e3b : x.inp < i := by omega
      have E3 := Lib.hid e3
      clear e3
      by_cases hk0 : k = 0
      · have H0 := Lib.hid hk0
        have hk0' : decide ((0 : Int) < (k : Int)) = false := by simp; omega
        have hk0'' : decide (0 < k) = false := by simp; omega
        have hv2 : decCheck l b i p f es = firstFrom (entBody l b i p f es) 0 (es.length - (k + 1)) (k + 1) := by
          rw [hr.out, firstFrom_none hlt]
          unfold entBody; rw [Hx.out, if_neg (by simpa using E1.out), if_neg (by simpa using E2.out), if_neg E3.out, if_neg (by omega)]
        have Hv2 := Lib.hid hv2
        clear hv2 hk0
        go_wp2_with (go_at_call 94; refine (refCheck7_any _ _ (by unfold maxLen; omega) _).mono ?_; rintro e w' ⟨rfl, rfl⟩)
        go_quiet (fail)
        go_wp2
        go_roundw
        case rel => exact ⟨k + 1, by omega, by go_num, by repeat (first | exact Hb.out.alloc (by omega) _ | refine below_dr ?_), Hv2⟩
        case measure => simp [intOf]; omega
      have hk1 : (0 : Int) < (k : Int) := by omega
      have hk2 : 0 < k := by omega
      have hk3 : (k : Int) - 1 < (es.length : Int) := by omega
      have hk4 : ((k : Int) - 1).toNat = k - 1 := by omega
      obtain ⟨y, hy⟩ : ∃ y, es.getD (k - 1) default = y := ⟨_, rfl⟩
      obtain ⟨g0, g1⟩ := EntsAt.fact Hc.out Hbw.out heb (k := k - 1) (by omega) hy
      have Hy := Lib.hid hy
      clear hy
      by_cases e4 : leStr x.win y.win = true
      · have hv2 : decCheck l b i p f es = 10 := by
          rw [hr.out, firstFrom_some hlt (r := 10)]
          unfold entBody; rw [Hx.out, Hy.out, if_neg (by simpa using E1.out), if_neg (by simpa using E2.out), if_neg E3.out, if_pos ⟨hk2, e4⟩]
        have Hv2 := Lib.hid hv2
        clear hv2 hk0
        unfold leStr at e4
        go_wp2_with (go_at_call 94; refine (refCheck7_any _ _ (by unfold maxLen; omega) _).mono ?_; rintro e w' ⟨rfl, rfl⟩)
        go_quiet (fail)
        go_wp2
        go_ret
        exact ⟨ret_int Hv2.out.symm, by repeat (first | exact Hbw.out.alloc (by omega) _ | refine below_dr ?_)⟩
      · have hv2 : decCheck l b i p f es = firstFrom (entBody l b i p f es) 0 (es.length - (k + 1)) (k + 1) := by
          rw [hr.out, firstFrom_none hlt]
          unfold entBody; rw [Hx.out, Hy.out, if_neg (by simpa using E1.out), if_neg (by simpa using E2.out), if_neg E3.out, if_neg (fun h => e4 h.2)]
        have Hv2 := Lib.hid hv2
        have e4 : (Op.bytesLess x.win.toList y.win.toList || x.win.toList == y.win.toList) = false := by simpa [leStr] using e4
        clear hv2 hk0
        go_wp2_with (go_at_call 94; refine (refCheck7_any _ _ (by unfold maxLen; omega) _).mono ?_; rintro e w' ⟨rfl, rfl⟩)
        go_quiet (fail)
        go_wp2
        go_roundw
        case rel => exact ⟨k + 1, by omega, by go_num, by repeat (first | exact Hb.out.alloc (by omega) _ | refine below_dr ?_), Hv2⟩
        case measure => simp [intOf]; omega
    · go_wp2
      go_ret
      refine ⟨ret_int ?_, hbw⟩
      rw [hr.out, firstFrom_end (by omega)]
end Go.Proofs.Ytcafeffgaokiaaa
namespace Go.Proofs.Ytcafeffgaokiaaa
open Go.RowKit

set_option maxRecDepth 100000 in
set_option maxHeartbeats 4000000 in
theorem refDecode_any (l b i p f : Int) (es : List Ent) (a : Option Addr) (c : Nat) (s : ByteArray) (w : World) (hE : EntsAt w a es) (hwins : WinsFit es) (hs : s.size ≤ 9223372036854775807) :
    Calls Try.prog 98 #[.agg #[.int .i64 l, .int .i64 b, .int .i64 i, .int .i64 p, .int .i64 f, .slice a es.length c], .string s] w fun e w' =>
      ∃ v, e = .returned (.tuple #[v, .int .i64 (decErr l b i p f es s)]) ∧ OwnInts w' w.heap.size v (decOut l b i p f es s) ∧ Below w.heap.size w w' := by
  have HE := Lib.hid hE
  have HE2 := Lib.hid (hE.mono (Nat.le_refl _) ((Below.refl w.heap.size w).alloc (Nat.le_refl _) (.cells #[.int .i64 l, .int .i64 b, .int .i64 i, .int .i64 p, .int .i64 f, .slice a es.length c] 30)))
  have HW := Lib.hid hwins
  clear hE hwins
  by_cases e1 : decCheck l b i p f es = 0
  case neg =>
    have hv : decErr l b i p f es s = 1 := by unfold decErr; rw [if_pos e1]
    have ho : decOut l b i p f es s = [] := by unfold decOut; rw [hv]; rfl
    have Hv := Lib.hid hv
    have Ho := Lib.hid ho
    have e1' : (decCheck l b i p f es != 0) = true := by simpa using e1
    clear hv ho e1
    go_enter Try.func98, Try.ntmps98
    go_wp2_with (go_at_call 72; refine (refCheck26_any l b i p f es a c _ HE2.out HW.out).mono ?_; rintro e w' ⟨rfl, hb⟩; have Hb := Lib.hid hb; clear hb)
    go_ret2
    exact ⟨_, by rw [Hv.out]; rfl, by rw [Ho.out]; exact OwnInts.made _ (Nat.le_trans (by simp) Hb.out.size), (((Below.refl _ _).alloc (Nat.le_refl _) _).trans (Hb.out.mono (by simp))).alloc (Nat.le_trans (by simp) Hb.out.size) _⟩
  have e1' : (decCheck l b i p f es != 0) = false := by simpa using e1
  obtain ⟨⟨l1, l2⟩, ⟨b1, b2, i1, i2, p1, f1, p2, f2⟩, hes⟩ := decCheck_ok e1
  have E1 := Lib.hid e1
  clear e1
  by_cases e2 : wordCheck l s.data.toList = 0
  case neg =>
    have hv : decErr l b i p f es s = wordCheck l s.data.toList := by unfold decErr; rw [if_neg (by rw [E1.out]; simp), if_pos e2]
    have ho : decOut l b i p f es s = [] := by unfold decOut; rw [hv, if_neg e2]
    have Hv := Lib.hid hv
    have Ho := Lib.hid ho
    have e2' : (wordCheck l s.data.toList != 0) = true := by simpa using e2
    clear hv ho e2
    go_enter Try.func98, Try.ntmps98
    go_wp2_with (first
      | (go_at_call 72; refine (refCheck26_any l b i p f es a c _ HE2.out HW.out).mono ?_; rintro e w' ⟨rfl, hb⟩; obtain ⟨⟨c0, c1, c2, c3, c4, c5⟩, hsz, hbw⟩ := box6 (hb.mono (by simp)); have Hb := Lib.hid hbw; clear hb hbw)
      | (go_at_call 94; refine (refCheck7_any _ _ (by unfold maxLen; exact hs) _).mono ?_; rintro e w' ⟨rfl, rfl⟩))
    go_ret2
    exact ⟨_, by rw [Hv.out]; rfl, by rw [Ho.out]; exact OwnInts.made _ Hb.out.size, Hb.out.alloc Hb.out.size _⟩
  have e2' : (wordCheck l s.data.toList != 0) = false := by simpa using e2
  have hs2 : s.size ≤ 65536 := by have := wordCheck_len e2; simpa using this
  have E2 := Lib.hid e2
  clear e2
  by_cases e3 : (s.size : Int) % b = 0
  case neg =>
    have hv : decErr l b i p f es s = 11 := by unfold decErr; rw [if_neg (by rw [E1.out]; simp), if_neg (by rw [E2.out]; simp), if_pos e3]
    have ho : decOut l b i p f es s = [] := by unfold decOut; rw [hv]; rfl
    have Hv := Lib.hid hv
    have Ho := Lib.hid ho
    have e3' : ((s.size : Int) % b != 0) = true := by simpa using e3
    clear hv ho e3
    go_enter Try.func98, Try.ntmps98
    go_wp2_with (first
      | (go_at_call 72; refine (refCheck26_any l b i p f es a c _ HE2.out HW.out).mono ?_; rintro e w' ⟨rfl, hb⟩; obtain ⟨⟨c0, c1, c2, c3, c4, c5⟩, hsz, hbw⟩ := box6 (hb.mono (by simp)); have Hb := Lib.hid hbw; clear hb hbw)
      | (go_at_call 94; refine (refCheck7_any _ _ (by unfold maxLen; exact hs) _).mono ?_; rintro e w' ⟨rfl, rfl⟩))
    go_ret2
    exact ⟨_, by rw [Hv.out]; rfl, by rw [Ho.out]; exact OwnInts.made _ Hb.out.size, Hb.out.alloc Hb.out.size _⟩
  have hv : decErr l b i p f es s = 0 := by unfold decErr; rw [if_neg (by rw [E1.out]; simp), if_neg (by rw [E2.out]; simp), if_neg (by simpa using e3)]
  have ho : decOut l b i p f es s = decList b p f es s := by unfold decOut; rw [if_pos hv]
  have Hv := Lib.hid hv
  have Ho := Lib.hid ho
  have e3' : ((s.size : Int) % b != 0) = false := by simpa using e3
  clear hv ho e3
  have hmul := mul_wrap (a := p + 1 + f) (b := b) (A := 16) (B := 16) (by omega) (by omega) (by omega) (by omega) (by decide)
  have hm0 : 0 ≤ (p + 1 + f) * b := Int.mul_nonneg (by omega) (by omega)
  have hm1 : (p + 1 + f) * b ≤ 256 := Int.le_trans (Int.mul_le_mul_of_nonneg_right (show p + 1 + f ≤ 16 by omega) (by omega)) (by omega)
  obtain ⟨bn, rfl⟩ : ∃ bn : Nat, b = bn := ⟨b.toNat, by omega⟩
  obtain ⟨N, hN⟩ : ∃ N : Nat, (p + 1 + f) * (bn : Int) = N := ⟨((p + 1 + f) * (bn : Int)).toNat, by omega⟩
  have hN2 : IntKind.i64.wrap ((p + 1 + f) * (bn : Int)) = N := by rw [IntWalk.i64_in _ (by omega), hN]
  have hNle : N ≤ 256 := by omega
  have hL : decList bn p f es s = (List.range (winCount s.size N bn)).map fun k => decAt es s N (k * bn) := by
    unfold decList; rw [hN]; rfl
  have HL := Lib.hid hL
  clear hL hN hmul hm0 hm1
  have hb0 : 0 < bn := by omega
  go_enter Try.func98, Try.ntmps98
  go_wp2_with (first
      | (go_at_call 72; refine (refCheck26_any l bn i p f es a c _ HE2.out HW.out).mono ?_; rintro e w' ⟨rfl, hb⟩; obtain ⟨⟨c0, c1, c2, c3, c4, c5⟩, hsz, hbw⟩ := box6 (hb.mono (by simp)); have Hb := Lib.hid hbw; have HbX := Lib.hid (hb.mono (B' := w.heap.size + 1) (by simp)); clear hb hbw)
      | (go_at_call 94; refine (refCheck7_any _ _ (by unfold maxLen; exact hs) _).mono ?_; rintro e w' ⟨rfl, rfl⟩))
  go_loopw [7, 9] (fun v at_ wr => ∃ k A : Nat, at_ = .int .i64 A ∧ A ≤ s.size + bn ∧ Hid (A = k * bn) ∧ Hid (∀ j, j < k → j * bn + N ≤ s.size) ∧ Below (w.heap.size + 1) (w.alloc (.cells #[.int .i64 l, .int .i64 bn, .int .i64 i, .int .i64 p, .int .i64 f, .slice a es.length c] 30)) wr ∧ Hid (OwnInts wr (w.heap.size + 1) v ((List.range k).map fun k => decAt es s N (k * bn)))) (fun _ at_ _ => s.size + bn + 1 - (intOf at_).toNat)
  case atStart => exact ⟨0, 0, rfl, by omega, Lib.hid (by simp), Lib.hid (fun j hj => by omega), HbX.out.alloc (by simpa using HbX.out.size) _, Lib.hid (OwnInts.made _ (by simpa using HbX.out.size))⟩
  case round =>
    clear c0 c1 c2 c3 c4 c5 hsz
    obtain ⟨k, A, rfl, hA, HA, Hj, hb, Hown⟩ := hrel
    obtain ⟨⟨c0, c1, c2, c3, c4, c5⟩, hsz, hbw⟩ := box6 hb
    have Hbb := Lib.hid hb
    have Hbw := Lib.hid hbw
    clear hb hbw
    by_cases hlt : A + N ≤ s.size
    · have HE3 := Lib.hid (SlAt.mono HE.out (Nat.le_refl _) Hbw.out)
      have hA1 : (0 : Int) ≤ (A : Int) := by omega
      have hA2 : (A : Int) + (N : Int) ≤ (s.size : Int) := by omega
      have hA3 : (A : Int) ≤ (A : Int) + (N : Int) := by omega
      have hA4 : IntKind.i64.wrap ((A : Int) + (N : Int)) = (A : Int) + (N : Int) := IntWalk.i64_in _ (by omega)
      have hA5 : ((A : Int) + (N : Int)).toNat = A + N := by omega
      have hd : decAt es s N A = if hasAt es (s.extract A (A + N)) then (es.getD (placeOf es (s.extract A (A + N))) default).inp else -1 := by
        unfold decAt findE; cases hasAt es (s.extract A (A + N)) <;> rfl
      have hr1 : ((List.range (k + 1)).map fun k => decAt es s N (k * bn)) = ((List.range k).map fun k => decAt es s N (k * bn)) ++ [decAt es s N A] := by
        rw [List.range_succ, List.map_append, HA.out]; rfl
      have hj1 : ∀ j, j < k + 1 → j * bn + N ≤ s.size := fun j hj => by
        rcases Nat.lt_or_ge j k with h | h
        · exact Hj.out j h
        · have : j = k := by omega
          subst this; rw [← HA.out]; exact hlt
      have ha1 : A + bn = (k + 1) * bn := by rw [HA.out, Nat.add_mul, Nat.one_mul]
      have hklen : k ≤ s.size := by
        have := HA.out
        have h2 : k * 1 ≤ k * bn := Nat.mul_le_mul_left k hb0
        omega
      obtain ⟨P, hP⟩ : ∃ P, placeOf es (s.extract A (A + N)) = P := ⟨_, rfl⟩
      have hPle : P ≤ es.length := by rw [← hP]; exact placeOf_le _ _
      have hH : hasAt es (s.extract A (A + N)) = (decide (P < es.length) && ((es.getD P default).win.toList == (s.extract A (A + N)).toList)) := by unfold hasAt; rw [hP]
      rw [hP] at hd
      have Hr1 := Lib.hid hr1
      have Hj1 := Lib.hid hj1
      have Ha1 := Lib.hid ha1
      have HP := Lib.hid hP
      clear hr1 hj1 ha1 hP
      by_cases hPl : P < es.length
      · obtain ⟨eb, eo, rfl, heb, hcell⟩ := EntsAt.cells HE.out hPl
        obtain ⟨x, hx⟩ : ∃ x, es.getD P default = x := ⟨_, rfl⟩
        obtain ⟨d0, d1⟩ := EntsAt.fact hcell Hbw.out heb hPl hx
        rw [hx] at hH hd
        have hq1 : (P : Int) < (es.length : Int) := by omega
        have hq2 : (0 : Int) ≤ (P : Int) := by omega
        have hq3 : decide (P < es.length) = true := by simpa using hPl
        have Hx := Lib.hid hx
        clear hx hcell
        cases hok : (x.win.toList == (s.extract A (A + N)).toList)
        case false =>
          rw [hok] at hH
          rw [hH] at hd
          have Hd := Lib.hid hd
          clear hd hH
          go_wp2_with fail
          go_quiet ((go_at_call 122; exact quiet_l (place_any es _ c _ _ (SlAt.mono HE.out (Nat.le_refl _) (by exact below_dr Hbw.out)) hes)))
          rw [HP.out]
          go_wp2_with fail
          go_quiet (fail)
          go_wp2_with (at_builtin; refine wpList_append_int rfl _ _ rfl (w.heap.size + 1) _ _ rfl ((Hown.out.drewN _).alloc _) wr.heap.size 1 (-1) rfl ?_ ?_ ?_ ?_)
          · exact cell_new0 _ _ _
          · simp; omega
          · simp; omega
          · intro v' w2 hown2 hgrow
            have Hb4 := Lib.hid (below_append ((below_dr Hbb.out).alloc (by simp; omega) _) ((Hown.out.drewN _).alloc _) hgrow (by simp; omega) (Nat.le_refl _))
            obtain ⟨⟨g0, g1, g2, g3, g4, g5⟩, hsz2, hbw2⟩ := box6 Hb4.out
            have Hown2 := Lib.hid hown2
            clear hown2 hgrow hbw2
            go_wp2
            go_roundw
            case rel => exact ⟨k + 1, A + bn, by go_num, by omega, Ha1, Hj1, Hb4.out, Lib.hid (by rw [Hr1.out, Hd.out]; simpa using Hown2.out)⟩
            case measure => simp [intOf]; omega
        case true =>
          rw [hok] at hH
          rw [hH, hq3] at hd
          have Hd := Lib.hid hd
          clear hd hH
          go_wp2_with fail
          go_quiet ((go_at_call 122; exact quiet_l (place_any es _ c _ _ (SlAt.mono HE.out (Nat.le_refl _) (by exact below_dr Hbw.out)) hes)))
          rw [HP.out]
          go_wp2_with fail
          go_quiet (fail)
          go_wp2_with (at_builtin; refine wpList_append_int rfl _ _ rfl (w.heap.size + 1) _ _ rfl ((Hown.out.drewN _).alloc _) wr.heap.size 1 x.inp rfl ?_ ?_ ?_ ?_)
          · exact cell_new0 _ _ _
          · simp; omega
          · simp; omega
          · intro v' w2 hown2 hgrow
            have Hb4 := Lib.hid (below_append ((below_dr Hbb.out).alloc (by simp; omega) _) ((Hown.out.drewN _).alloc _) hgrow (by simp; omega) (Nat.le_refl _))
            obtain ⟨⟨g0, g1, g2, g3, g4, g5⟩, hsz2, hbw2⟩ := box6 Hb4.out
            have Hown2 := Lib.hid hown2
            clear hown2 hgrow hbw2
            go_wp2
            go_roundw
            case rel => exact ⟨k + 1, A + bn, by go_num, by omega, Ha1, Hj1, Hb4.out, Lib.hid (by rw [Hr1.out, Hd.out]; simpa using Hown2.out)⟩
            case measure => simp [intOf]; omega
      · have hq3 : decide (P < es.length) = false := by simpa using hPl
        have hq1 : ¬ (P : Int) < (es.length : Int) := by omega
        have hq4 : decide ((P : Int) < (es.length : Int)) = false := by simpa using hq1
        rw [hq3] at hH
        rw [hH] at hd
        have Hd := Lib.hid hd
        clear hd hH
        go_wp2_with fail
        go_quiet ((go_at_call 122; exact quiet_l (place_any es _ c _ _ (SlAt.mono HE.out (Nat.le_refl _) (by exact below_dr Hbw.out)) hes)))
        rw [HP.out]
        go_wp2_with fail
        go_quiet (fail)
        go_wp2_with (at_builtin; refine wpList_append_int rfl _ _ rfl (w.heap.size + 1) _ _ rfl ((Hown.out.drewN _).alloc _) wr.heap.size 1 (-1) rfl ?_ ?_ ?_ ?_)
        · exact cell_new0 _ _ _
        · simp; omega
        · simp; omega
        · intro v' w2 hown2 hgrow
          have Hb4 := Lib.hid (below_append ((below_dr Hbb.out).alloc (by simp; omega) _) ((Hown.out.drewN _).alloc _) hgrow (by simp; omega) (Nat.le_refl _))
          obtain ⟨⟨g0, g1, g2, g3, g4, g5⟩, hsz2, hbw2⟩ := box6 Hb4.out
          have Hown2 := Lib.hid hown2
          clear hown2 hgrow hbw2
          go_wp2
          go_roundw
          case rel => exact ⟨k + 1, A + bn, by go_num, by omega, Ha1, Hj1, Hb4.out, Lib.hid (by rw [Hr1.out, Hd.out]; simpa using Hown2.out)⟩
          case measure => simp [intOf]; omega
    · have hk : k = winCount s.size N bn := winCount_eq (by rw [← HA.out]; exact hlt) Hj.out
      have Hk := Lib.hid hk
      clear hk
      go_wp2
      go_ret2
      exact ⟨_, by rw [Hv.out]; rfl, by rw [Ho.out, HL.out, ← Hk.out]; exact Hown.out.base (by omega), Hbw.out⟩
end Go.Proofs.Ytcafeffgaokiaaa
