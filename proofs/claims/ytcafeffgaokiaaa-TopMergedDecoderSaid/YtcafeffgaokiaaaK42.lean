/- The walks of Bound, Burst and Changed, of the program and of the reference. The walk of grooveref26.Great: where it says no, the decoder is small. -/
import Derived.Test.YtcafeffgaokiaaaK8
import Derived.Test.YtcafeffgaokiaaaK9
import Derived.Test.YtcafeffgaokiaaaK2
namespace Go.Proofs.Ytcafeffgaokiaaa
open Go.RowKit

def boundErr (l b i p f : Int) (es : List Ent) : Int := if decCheck l b i p f es ≠ 0 then 1 else 0
def boundVal (l b i p f : Int) (es : List Ent) : Int := if decCheck l b i p f es ≠ 0 then 0 else p + 1 + f
set_option maxHeartbeats 1000000 in
theorem bound_any (l b i p f : Int) (es : List Ent) (a : Option Addr) (c : Nat) (w : World) (hE : EntsAt w a es) (hwins : WinsFit es) :
    Calls Try.prog 14 #[.agg #[.int .i64 l, .int .i64 b, .int .i64 i, .int .i64 p, .int .i64 f, .slice a es.length c]] w fun e w' =>
      e = .returned (.tuple #[.int .i64 (boundVal l b i p f es), .int .i64 (boundErr l b i p f es)]) ∧ Below w.heap.size w w' := by
  have HE2 := Lib.hid (hE.mono (Nat.le_refl _) ((Below.refl w.heap.size w).alloc (Nat.le_refl _) (.cells #[.int .i64 l, .int .i64 b, .int .i64 i, .int .i64 p, .int .i64 f, .slice a es.length c] 30)))
  have HW := Lib.hid hwins
  clear hE hwins
  by_cases e1 : decCheck l b i p f es = 0
  · obtain ⟨⟨l1, l2⟩, ⟨b1, b2, i1, i2, p1, f1, p2, f2⟩, hes⟩ := decCheck_ok e1
    have e1' : (decCheck l b i p f es != 0) = false := by simpa using e1
    have hv : boundVal l b i p f es = p + 1 + f := by unfold boundVal; rw [if_neg (by simpa using e1)]
    have he : boundErr l b i p f es = 0 := by unfold boundErr; rw [if_neg (by simpa using e1)]
    have Hv := Lib.hid hv
    have He := Lib.hid he
    clear hv he e1
    go_enter Try.func14, Try.ntmps14
    go_wp2_with (go_at_call 36; refine (winCheck_any l b i p f es a c _ HE2.out HW.out).mono ?_; rintro e w' ⟨rfl, hb⟩; obtain ⟨⟨c0, c1, c2, c3, c4, c5⟩, hsz, hbw⟩ := box6 (hb.mono (by simp)); have Hb := Lib.hid hbw; clear hb hbw)
    go_ret2
    exact ⟨by rw [Hv.out, He.out]; rfl, Hb.out⟩
  · have e1' : (decCheck l b i p f es != 0) = true := by simpa using e1
    have hv : boundVal l b i p f es = 0 := by unfold boundVal; rw [if_pos e1]
    have he : boundErr l b i p f es = 1 := by unfold boundErr; rw [if_pos e1]
    have Hv := Lib.hid hv
    have He := Lib.hid he
    clear hv he e1
    go_enter Try.func14, Try.ntmps14
    go_wp2_with (go_at_call 36; refine (winCheck_any l b i p f es a c _ HE2.out HW.out).mono ?_; rintro e w' ⟨rfl, hb⟩; obtain ⟨⟨c0, c1, c2, c3, c4, c5⟩, hsz, hbw⟩ := box6 (hb.mono (by simp)); have Hb := Lib.hid hbw; clear hb hbw)
    go_ret2
    exact ⟨by rw [Hv.out, He.out]; rfl, Hb.out⟩

end Go.Proofs.Ytcafeffgaokiaaa
namespace Go.Proofs.Ytcafeffgaokiaaa
open Go.RowKit

end Go.Proofs.Ytcafeffgaokiaaa
