/- The walk of grooveref26.Check: it returns what window.Check returns. -/
import Derived.Test.YtndfppafddfnaaaWin
namespace Go.Proofs.Ytndfppafddfnaaa
open Go.RowKit

set_option maxHeartbeats 400000 in
theorem sides_any (p f : Int) (w : World) :
    Calls Try.prog 45 #[.int .i64 p, .int .i64 f] w fun e w' => e = .returned (.int .i64 (if p < 0 ∨ f < 0 ∨ 16 ≤ p ∨ 16 - p ≤ f then 2 else 0)) ∧ w = w' := by
  by_cases h : p < 0 ∨ f < 0 ∨ 16 ≤ p ∨ 16 - p ≤ f
  · rw [if_pos h]
    go_enter Try.func45, Try.ntmps45
    go_wp2
    all_goals
      go_ret
      exact ⟨rfl, rfl⟩
  · rw [if_neg h]
    have a5 : 0 ≤ p := by omega
    have a6 : 0 ≤ f := by omega
    have a7 : p < 16 := by omega
    have a8 : f < 16 - p := by omega
    clear h
    go_enter Try.func45, Try.ntmps45
    go_wp2
    all_goals
      go_ret
      exact ⟨rfl, rfl⟩

set_option maxRecDepth 100000 in
set_option maxHeartbeats 4000000 in
theorem refCheck26_any (l b i p f : Int) (es : List Ent) (a : Option Addr) (c : Nat) (w : World) (hE : EntsAt w a es) (hwins : WinsFit es) :
    Calls Try.prog 20 #[.agg #[.int .i64 l, .int .i64 b, .int .i64 i, .int .i64 p, .int .i64 f, .slice a es.length c]] w fun e w' => e = .returned (.int .i64 (decCheck l b i p f es)) ∧ Below w.heap.size w w' := by
  have HE := Lib.hid hE
  have HW := Lib.hid hwins
  clear hE hwins
  by_cases h1 : l < 1 ∨ 16 < l
  · have hv : decCheck l b i p f es = 12 := by simp [decCheck, h1]
    have Hv := Lib.hid hv
    clear hv
    go_enter Try.func20, Try.ntmps20
    go_wp2
    all_goals
      go_ret
      exact ⟨ret_int Hv.out.symm, (Below.refl _ _).alloc (Nat.le_refl _) _⟩
  have h1a : 1 ≤ l := by omega
  have h1b : l ≤ 16 := by omega
  by_cases h2 : b < 1 ∨ 16 < b ∨ i < 1 ∨ 256 < i ∨ p < 0 ∨ f < 0 ∨ 16 ≤ p ∨ 16 - p ≤ f
  · have hv : decCheck l b i p f es = 2 := by unfold decCheck; rw [if_neg h1, if_pos h2]
    have Hv := Lib.hid hv
    clear hv h1
    go_enter Try.func20, Try.ntmps20
    go_wp2_with (go_at_call 45; refine (sides_any _ _ _).mono ?_; rintro e w' ⟨rfl, rfl⟩)
    all_goals
      go_ret
      exact ⟨ret_int Hv.out.symm, (Below.refl _ _).alloc (Nat.le_refl _) _⟩
  have hv : decCheck l b i p f es = if 65536 < es.length then 4 else firstFrom (entBody l b i p f es) 0 es.length 0 := by
    unfold decCheck; rw [if_neg h1, if_neg h2]
  have Hv := Lib.hid hv
  clear hv
  have a1 : 1 ≤ b := by omega
  have a2 : b ≤ 16 := by omega
  have a3 : 1 ≤ i := by omega
  have a4 : i ≤ 256 := by omega
  have a5 : 0 ≤ p := by omega
  have a6 : 0 ≤ f := by omega
  have a7 : p < 16 := by omega
  have a8 : f < 16 - p := by omega
  clear h1 h2
  by_cases h3 : 65536 < es.length
  · have hs : (if p < 0 ∨ f < 0 ∨ 16 ≤ p ∨ 16 - p ≤ f then (2 : Int) else 0) = 0 := if_neg (by omega)
    go_enter Try.func20, Try.ntmps20
    go_wp2_with (go_at_call 45; refine (sides_any _ _ _).mono ?_; rintro e w' ⟨rfl, rfl⟩; rw [hs])
    go_ret
    exact ⟨ret_int (by rw [Hv.out, if_pos h3]), (Below.refl _ _).alloc (Nat.le_refl _) _⟩
  have hmul := mul_wrap (a := p + 1 + f) (b := b) (A := 16) (B := 16) (by omega) (by omega) (by omega) (by omega) (by decide)
  have hs : (if p < 0 ∨ f < 0 ∨ 16 ≤ p ∨ 16 - p ≤ f then (2 : Int) else 0) = 0 := if_neg (by omega)
  go_enter Try.func20, Try.ntmps20
  go_wp2_with (go_at_call 45; refine (sides_any _ _ _).mono ?_; rintro e w' ⟨rfl, rfl⟩; rw [hs])
  clear hs
  go_loopw [3] (fun s wr => ∃ k : Nat, k ≤ es.length ∧ s = .int .i64 k ∧ Below (w.heap.size + 1) (w.alloc (.cells #[.int .i64 l, .int .i64 b, .int .i64 i, .int .i64 p, .int .i64 f, .slice a es.length c] 24)) wr ∧ Hid (decCheck l b i p f es = firstFrom (entBody l b i p f es) 0 (es.length - k) k)) (fun s _ => es.length - (intOf s).toNat)
  case atStart => exact ⟨0, by omega, rfl, Below.refl _ _, Lib.hid (by rw [Hv.out, if_neg h3]; rfl)⟩
  case round =>
    obtain ⟨k, hk, rfl, hb, hr⟩ := hrel
    obtain ⟨⟨c0, c1, c2, c3, c4, c5⟩, hsz, hbw⟩ := box6 hb
    by_cases hlt : k < es.length
    · obtain ⟨eb, eo, rfl, heb, hcell⟩ := EntsAt.cells HE.out hlt
      obtain ⟨x, hx⟩ : ∃ x, es.getD k default = x := ⟨_, rfl⟩
      obtain ⟨d0, d1⟩ := EntsAt.fact hcell hbw heb hlt hx
      have heb' : eb < wr.heap.size := by omega
      have hkw : x.win.size ≤ 9223372036854775807 := HW.out _ (by rw [← hx]; exact getD_mem _ _ _ hlt)
      have Hx := Lib.hid hx
      have Hb := Lib.hid hb
      have Hc := Lib.hid hcell
      have Hbw := Lib.hid hbw
      clear hx hb hcell hbw
      by_cases e1 : (x.win.size : Int) = (p + 1 + f) * b
      case neg =>
        have hv2 : decCheck l b i p f es = 11 := by
          rw [hr.out, firstFrom_some hlt (r := 11)]
          unfold entBody; rw [Hx.out, if_pos e1]
        have Hv2 := Lib.hid hv2
        have e1' : ((x.win.size : Int) != (p + 1 + f) * b) = true := by simpa using e1
        clear hv2 e1
        go_wp2
        go_ret
        exact ⟨ret_int Hv2.out.symm, (Hbw.out).alloc (by omega) _⟩
      have e1' : ((x.win.size : Int) != (p + 1 + f) * b) = false := by simpa using e1
      have E1 := Lib.hid e1
      clear e1
      by_cases e2 : wordCheck l x.win.data.toList = 0
      case neg =>
        have hv2 : decCheck l b i p f es = wordCheck l x.win.data.toList := by
          rw [hr.out, firstFrom_some hlt (r := wordCheck l x.win.data.toList)]
          unfold entBody; rw [Hx.out, if_neg (by simpa using E1.out), if_pos e2]
        have Hv2 := Lib.hid hv2
        have e2' : (wordCheck l x.win.data.toList != 0) = true := by simpa using e2
        clear hv2 e2
        go_wp2_with (go_at_call 46; refine (refCheck7_any _ _ (by unfold maxLen; omega) _).mono ?_; rintro e w' ⟨rfl, rfl⟩)
        go_ret
        exact ⟨ret_int Hv2.out.symm, by repeat (first | exact Hbw.out.alloc (by omega) _ | refine below_dr ?_)⟩
      have e2' : (wordCheck l x.win.data.toList != 0) = false := by simpa using e2
      have E2 := Lib.hid e2
      clear e2
      by_cases e3 : x.inp < 0 ∨ i ≤ x.inp
      · have hv2 : decCheck l b i p f es = 2 := by
          rw [hr.out, firstFrom_some hlt (r := 2)]
          unfold entBody; rw [Hx.out, if_neg (by simpa using E1.out), if_neg (by simpa using E2.out), if_pos e3]
        have Hv2 := Lib.hid hv2
        clear hv2
        go_wp2_with (go_at_call 46; refine (refCheck7_any _ _ (by unfold maxLen; omega) _).mono ?_; rintro e w' ⟨rfl, rfl⟩)
        all_goals
          go_ret
          exact ⟨ret_int Hv2.out.symm, by repeat (first | exact Hbw.out.alloc (by omega) _ | refine below_dr ?_)⟩
      have e3a : 0 ≤ x.inp := by omega
      have e3b : x.inp < i := by omega
      have E3 := Lib.hid e3
      clear e3
      by_cases hk0 : k = 0
      · have H0 := Lib.hid hk0
        have hk0' : decide ((0 : Int) < (k : Int)) = false := by simp; omega
        have hk0'' : decide (0 < k) = false := by simp; omega
        have hv2 : decCheck l b i p f es = firstFrom (entBody l b i p f es) 0 (es.length - (k + 1)) (k + 1) := by
          rw [hr.out, firstFrom_none hlt]
          unfold entBody; rw [Hx.out, if_neg (by simpa using E1.out), if_neg (by simpa using E2.out), if_neg E3.out, if_neg (by omega)]
        have Hv2 := Lib.hid hv2
        clear hv2 hk0
        go_wp2_with (go_at_call 46; refine (refCheck7_any _ _ (by unfold maxLen; omega) _).mono ?_; rintro e w' ⟨rfl, rfl⟩)
        go_quiet (fail)
        go_wp2
        go_roundw
        case rel => exact ⟨k + 1, by omega, by go_num, by repeat (first | exact Hb.out.alloc (by omega) _ | refine below_dr ?_), Hv2⟩
        case measure => simp [intOf]; omega
      have hk1 : (0 : Int) < (k : Int) := by omega
      have hk2 : 0 < k := by omega
      have hk3 : (k : Int) - 1 < (es.length : Int) := by omega
      have hk4 : ((k : Int) - 1).toNat = k - 1 := by omega
      obtain ⟨y, hy⟩ : ∃ y, es.getD (k - 1) default = y := ⟨_, rfl⟩
      obtain ⟨g0, g1⟩ := EntsAt.fact Hc.out Hbw.out heb (k := k - 1) (by omega) hy
      have Hy := Lib.hid hy
      clear hy
      by_cases e4 : leStr x.win y.win = true
      · have hv2 : decCheck l b i p f es = 10 := by
          rw [hr.out, firstFrom_some hlt (r := 10)]
          unfold entBody; rw [Hx.out, Hy.out, if_neg (by simpa using E1.out), if_neg (by simpa using E2.out), if_neg E3.out, if_pos ⟨hk2, e4⟩]
        have Hv2 := Lib.hid hv2
        clear hv2 hk0
        unfold leStr at e4
        go_wp2_with (go_at_call 46; refine (refCheck7_any _ _ (by unfold maxLen; omega) _).mono ?_; rintro e w' ⟨rfl, rfl⟩)
        go_quiet (fail)
        go_wp2
        go_ret
        exact ⟨ret_int Hv2.out.symm, by repeat (first | exact Hbw.out.alloc (by omega) _ | refine below_dr ?_)⟩
      · have hv2 : decCheck l b i p f es = firstFrom (entBody l b i p f es) 0 (es.length - (k + 1)) (k + 1) := by
          rw [hr.out, firstFrom_none hlt]
          unfold entBody; rw [Hx.out, Hy.out, if_neg (by simpa using E1.out), if_neg (by simpa using E2.out), if_neg E3.out, if_neg (fun h => e4 h.2)]
        have Hv2 := Lib.hid hv2
        have e4 : (Op.bytesLess x.win.toList y.win.toList || x.win.toList == y.win.toList) = false := by simpa [leStr] using e4
        clear hv2 hk0
        go_wp2_with (go_at_call 46; refine (refCheck7_any _ _ (by unfold maxLen; omega) _).mono ?_; rintro e w' ⟨rfl, rfl⟩)
        go_quiet (fail)
        go_wp2
        go_roundw
        case rel => exact ⟨k + 1, by omega, by go_num, by repeat (first | exact Hb.out.alloc (by omega) _ | refine below_dr ?_), Hv2⟩
        case measure => simp [intOf]; omega
    · go_wp2
      go_ret
      refine ⟨ret_int ?_, hbw⟩
      rw [hr.out, firstFrom_end (by omega)]
end Go.Proofs.Ytndfppafddfnaaa
