/- The walks of Bound, Burst and Changed, of the program and of the reference. -/
import Derived.Test.YtndfppafddfnaaaDecR
import Derived.Test.YtndfppafddfnaaaChg
namespace Go.Proofs.Ytndfppafddfnaaa
open Go.RowKit

def boundErr (l b i p f : Int) (es : List Ent) : Int := if decCheck l b i p f es ≠ 0 then 1 else 0
def boundVal (l b i p f : Int) (es : List Ent) : Int := if decCheck l b i p f es ≠ 0 then 0 else p + 1 + f
def burstErr (l b i p f : Int) (es : List Ent) (k : Int) : Int := if decCheck l b i p f es ≠ 0 then 1 else if k < 1 ∨ 65536 < k then 2 else 0
def burstVal (l b i p f : Int) (es : List Ent) (k : Int) : Int := if decCheck l b i p f es ≠ 0 then 0 else if k < 1 ∨ 65536 < k then 0 else 1 + (k - 1 + b - 1) / b + p + f

set_option maxHeartbeats 1000000 in
theorem bound_any (l b i p f : Int) (es : List Ent) (a : Option Addr) (c : Nat) (w : World) (hE : EntsAt w a es) (hwins : WinsFit es) :
    Calls Try.prog 15 #[.agg #[.int .i64 l, .int .i64 b, .int .i64 i, .int .i64 p, .int .i64 f, .slice a es.length c]] w fun e w' =>
      e = .returned (.tuple #[.int .i64 (boundVal l b i p f es), .int .i64 (boundErr l b i p f es)]) ∧ Below w.heap.size w w' := by
  have HE2 := Lib.hid (hE.mono (Nat.le_refl _) ((Below.refl w.heap.size w).alloc (Nat.le_refl _) (.cells #[.int .i64 l, .int .i64 b, .int .i64 i, .int .i64 p, .int .i64 f, .slice a es.length c] 24)))
  have HW := Lib.hid hwins
  clear hE hwins
  by_cases e1 : decCheck l b i p f es = 0
  · obtain ⟨⟨l1, l2⟩, ⟨b1, b2, i1, i2, p1, f1, p2, f2⟩, hes⟩ := decCheck_ok e1
    have e1' : (decCheck l b i p f es != 0) = false := by simpa using e1
    have hv : boundVal l b i p f es = p + 1 + f := by unfold boundVal; rw [if_neg (by simpa using e1)]
    have he : boundErr l b i p f es = 0 := by unfold boundErr; rw [if_neg (by simpa using e1)]
    have Hv := Lib.hid hv
    have He := Lib.hid he
    clear hv he e1
    go_enter Try.func15, Try.ntmps15
    go_wp2_with (go_at_call 44; refine (winCheck_any l b i p f es a c _ HE2.out HW.out).mono ?_; rintro e w' ⟨rfl, hb⟩; obtain ⟨⟨c0, c1, c2, c3, c4, c5⟩, hsz, hbw⟩ := box6 (hb.mono (by simp)); have Hb := Lib.hid hbw; clear hb hbw)
    go_ret2
    exact ⟨by rw [Hv.out, He.out]; rfl, Hb.out⟩
  · have e1' : (decCheck l b i p f es != 0) = true := by simpa using e1
    have hv : boundVal l b i p f es = 0 := by unfold boundVal; rw [if_pos e1]
    have he : boundErr l b i p f es = 1 := by unfold boundErr; rw [if_pos e1]
    have Hv := Lib.hid hv
    have He := Lib.hid he
    clear hv he e1
    go_enter Try.func15, Try.ntmps15
    go_wp2_with (go_at_call 44; refine (winCheck_any l b i p f es a c _ HE2.out HW.out).mono ?_; rintro e w' ⟨rfl, hb⟩; obtain ⟨⟨c0, c1, c2, c3, c4, c5⟩, hsz, hbw⟩ := box6 (hb.mono (by simp)); have Hb := Lib.hid hbw; clear hb hbw)
    go_ret2
    exact ⟨by rw [Hv.out, He.out]; rfl, Hb.out⟩

set_option maxHeartbeats 1000000 in
theorem refBound_any (l b i p f : Int) (es : List Ent) (a : Option Addr) (c : Nat) (w : World) (hE : EntsAt w a es) (hwins : WinsFit es) :
    Calls Try.prog 16 #[.agg #[.int .i64 l, .int .i64 b, .int .i64 i, .int .i64 p, .int .i64 f, .slice a es.length c]] w fun e w' =>
      e = .returned (.tuple #[.int .i64 (boundVal l b i p f es), .int .i64 (boundErr l b i p f es)]) ∧ Below w.heap.size w w' := by
  have HE2 := Lib.hid (hE.mono (Nat.le_refl _) ((Below.refl w.heap.size w).alloc (Nat.le_refl _) (.cells #[.int .i64 l, .int .i64 b, .int .i64 i, .int .i64 p, .int .i64 f, .slice a es.length c] 24)))
  have HW := Lib.hid hwins
  clear hE hwins
  by_cases e1 : decCheck l b i p f es = 0
  · obtain ⟨⟨l1, l2⟩, ⟨b1, b2, i1, i2, p1, f1, p2, f2⟩, hes⟩ := decCheck_ok e1
    have e1' : (decCheck l b i p f es != 0) = false := by simpa using e1
    have hv : boundVal l b i p f es = p + 1 + f := by unfold boundVal; rw [if_neg (by simpa using e1)]
    have he : boundErr l b i p f es = 0 := by unfold boundErr; rw [if_neg (by simpa using e1)]
    have Hv := Lib.hid hv
    have He := Lib.hid he
    clear hv he e1
    go_enter Try.func16, Try.ntmps16
    go_wp2_with (go_at_call 20; refine (refCheck26_any l b i p f es a c _ HE2.out HW.out).mono ?_; rintro e w' ⟨rfl, hb⟩; obtain ⟨⟨c0, c1, c2, c3, c4, c5⟩, hsz, hbw⟩ := box6 (hb.mono (by simp)); have Hb := Lib.hid hbw; clear hb hbw)
    go_ret2
    exact ⟨by rw [Hv.out, He.out]; rfl, Hb.out⟩
  · have e1' : (decCheck l b i p f es != 0) = true := by simpa using e1
    have hv : boundVal l b i p f es = 0 := by unfold boundVal; rw [if_pos e1]
    have he : boundErr l b i p f es = 1 := by unfold boundErr; rw [if_pos e1]
    have Hv := Lib.hid hv
    have He := Lib.hid he
    clear hv he e1
    go_enter Try.func16, Try.ntmps16
    go_wp2_with (go_at_call 20; refine (refCheck26_any l b i p f es a c _ HE2.out HW.out).mono ?_; rintro e w' ⟨rfl, hb⟩; obtain ⟨⟨c0, c1, c2, c3, c4, c5⟩, hsz, hbw⟩ := box6 (hb.mono (by simp)); have Hb := Lib.hid hbw; clear hb hbw)
    go_ret2
    exact ⟨by rw [Hv.out, He.out]; rfl, Hb.out⟩

set_option maxHeartbeats 2000000 in
theorem burst_any (l b i p f : Int) (es : List Ent) (a : Option Addr) (c : Nat) (k : Int) (w : World) (hE : EntsAt w a es) (hwins : WinsFit es) :
    Calls Try.prog 17 #[.agg #[.int .i64 l, .int .i64 b, .int .i64 i, .int .i64 p, .int .i64 f, .slice a es.length c], .int .i64 k] w fun e w' =>
      e = .returned (.tuple #[.int .i64 (burstVal l b i p f es k), .int .i64 (burstErr l b i p f es k)]) ∧ Below w.heap.size w w' := by
  have HE2 := Lib.hid (hE.mono (Nat.le_refl _) ((Below.refl w.heap.size w).alloc (Nat.le_refl _) (.cells #[.int .i64 l, .int .i64 b, .int .i64 i, .int .i64 p, .int .i64 f, .slice a es.length c] 24)))
  have HW := Lib.hid hwins
  clear hE hwins
  by_cases e1 : decCheck l b i p f es = 0
  · obtain ⟨⟨l1, l2⟩, ⟨b1, b2, i1, i2, p1, f1, p2, f2⟩, hes⟩ := decCheck_ok e1
    have e1' : (decCheck l b i p f es != 0) = false := by simpa using e1
    by_cases hk : k < 1 ∨ 65536 < k
    · have hv : burstVal l b i p f es k = 0 := by unfold burstVal; rw [if_neg (by simpa using e1), if_pos hk]
      have he : burstErr l b i p f es k = 2 := by unfold burstErr; rw [if_neg (by simpa using e1), if_pos hk]
      have Hv := Lib.hid hv
      have He := Lib.hid he
      clear hv he e1
      go_enter Try.func17, Try.ntmps17
      go_wp2_with (go_at_call 44; refine (winCheck_any l b i p f es a c _ HE2.out HW.out).mono ?_; rintro e w' ⟨rfl, hb⟩; obtain ⟨⟨c0, c1, c2, c3, c4, c5⟩, hsz, hbw⟩ := box6 (hb.mono (by simp)); have Hb := Lib.hid hbw; clear hb hbw)
      all_goals
        go_ret2
        exact ⟨by rw [Hv.out, He.out]; rfl, Hb.out⟩
    · have hv : burstVal l b i p f es k = 1 + (k - 1 + b - 1) / b + p + f := by unfold burstVal; rw [if_neg (by simpa using e1), if_neg hk]
      have he : burstErr l b i p f es k = 0 := by unfold burstErr; rw [if_neg (by simpa using e1), if_neg hk]
      have k1 : 1 ≤ k := by omega
      have k2 : k ≤ 65536 := by omega
      have hq := IntWalk.tdiv_le (k - 1 + b - 1) b (by omega) b1
      have Hv := Lib.hid hv
      have He := Lib.hid he
      clear hv he e1 hk
      go_enter Try.func17, Try.ntmps17
      go_wp2_with (go_at_call 44; refine (winCheck_any l b i p f es a c _ HE2.out HW.out).mono ?_; rintro e w' ⟨rfl, hb⟩; obtain ⟨⟨c0, c1, c2, c3, c4, c5⟩, hsz, hbw⟩ := box6 (hb.mono (by simp)); have Hb := Lib.hid hbw; clear hb hbw)
      go_ret2
      exact ⟨by rw [Hv.out, He.out]; rfl, Hb.out⟩
  · have e1' : (decCheck l b i p f es != 0) = true := by simpa using e1
    have hv : burstVal l b i p f es k = 0 := by unfold burstVal; rw [if_pos e1]
    have he : burstErr l b i p f es k = 1 := by unfold burstErr; rw [if_pos e1]
    have Hv := Lib.hid hv
    have He := Lib.hid he
    clear hv he e1
    go_enter Try.func17, Try.ntmps17
    go_wp2_with (go_at_call 44; refine (winCheck_any l b i p f es a c _ HE2.out HW.out).mono ?_; rintro e w' ⟨rfl, hb⟩; obtain ⟨⟨c0, c1, c2, c3, c4, c5⟩, hsz, hbw⟩ := box6 (hb.mono (by simp)); have Hb := Lib.hid hbw; clear hb hbw)
    go_ret2
    exact ⟨by rw [Hv.out, He.out]; rfl, Hb.out⟩

set_option maxHeartbeats 2000000 in
theorem refBurst_any (l b i p f : Int) (es : List Ent) (a : Option Addr) (c : Nat) (k : Int) (w : World) (hE : EntsAt w a es) (hwins : WinsFit es) :
    Calls Try.prog 18 #[.agg #[.int .i64 l, .int .i64 b, .int .i64 i, .int .i64 p, .int .i64 f, .slice a es.length c], .int .i64 k] w fun e w' =>
      e = .returned (.tuple #[.int .i64 (burstVal l b i p f es k), .int .i64 (burstErr l b i p f es k)]) ∧ Below w.heap.size w w' := by
  have HE2 := Lib.hid (hE.mono (Nat.le_refl _) ((Below.refl w.heap.size w).alloc (Nat.le_refl _) (.cells #[.int .i64 l, .int .i64 b, .int .i64 i, .int .i64 p, .int .i64 f, .slice a es.length c] 24)))
  have HW := Lib.hid hwins
  clear hE hwins
  by_cases e1 : decCheck l b i p f es = 0
  · obtain ⟨⟨l1, l2⟩, ⟨b1, b2, i1, i2, p1, f1, p2, f2⟩, hes⟩ := decCheck_ok e1
    have e1' : (decCheck l b i p f es != 0) = false := by simpa using e1
    by_cases hk : k < 1 ∨ 65536 < k
    · have hv : burstVal l b i p f es k = 0 := by unfold burstVal; rw [if_neg (by simpa using e1), if_pos hk]
      have he : burstErr l b i p f es k = 2 := by unfold burstErr; rw [if_neg (by simpa using e1), if_pos hk]
      have Hv := Lib.hid hv
      have He := Lib.hid he
      clear hv he e1
      go_enter Try.func18, Try.ntmps18
      go_wp2_with (go_at_call 20; refine (refCheck26_any l b i p f es a c _ HE2.out HW.out).mono ?_; rintro e w' ⟨rfl, hb⟩; obtain ⟨⟨c0, c1, c2, c3, c4, c5⟩, hsz, hbw⟩ := box6 (hb.mono (by simp)); have Hb := Lib.hid hbw; clear hb hbw)
      all_goals
        go_ret2
        exact ⟨by rw [Hv.out, He.out]; rfl, Hb.out⟩
    · have hv : burstVal l b i p f es k = 1 + (k - 1 + b - 1) / b + p + f := by unfold burstVal; rw [if_neg (by simpa using e1), if_neg hk]
      have he : burstErr l b i p f es k = 0 := by unfold burstErr; rw [if_neg (by simpa using e1), if_neg hk]
      have k1 : 1 ≤ k := by omega
      have k2 : k ≤ 65536 := by omega
      have hq := IntWalk.tdiv_le (k - 1 + b - 1) b (by omega) b1
      have Hv := Lib.hid hv
      have He := Lib.hid he
      clear hv he e1 hk
      go_enter Try.func18, Try.ntmps18
      go_wp2_with (go_at_call 20; refine (refCheck26_any l b i p f es a c _ HE2.out HW.out).mono ?_; rintro e w' ⟨rfl, hb⟩; obtain ⟨⟨c0, c1, c2, c3, c4, c5⟩, hsz, hbw⟩ := box6 (hb.mono (by simp)); have Hb := Lib.hid hbw; clear hb hbw)
      go_ret2
      exact ⟨by rw [Hv.out, He.out]; rfl, Hb.out⟩
  · have e1' : (decCheck l b i p f es != 0) = true := by simpa using e1
    have hv : burstVal l b i p f es k = 0 := by unfold burstVal; rw [if_pos e1]
    have he : burstErr l b i p f es k = 1 := by unfold burstErr; rw [if_pos e1]
    have Hv := Lib.hid hv
    have He := Lib.hid he
    clear hv he e1
    go_enter Try.func18, Try.ntmps18
    go_wp2_with (go_at_call 20; refine (refCheck26_any l b i p f es a c _ HE2.out HW.out).mono ?_; rintro e w' ⟨rfl, hb⟩; obtain ⟨⟨c0, c1, c2, c3, c4, c5⟩, hsz, hbw⟩ := box6 (hb.mono (by simp)); have Hb := Lib.hid hbw; clear hb hbw)
    go_ret2
    exact ⟨by rw [Hv.out, He.out]; rfl, Hb.out⟩

end Go.Proofs.Ytndfppafddfnaaa
