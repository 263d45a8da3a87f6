/- The walks of Bound, Burst and Changed, of the program and of the reference. The walks of Changed, of the program and of the reference. The walks of grooveref28.changed and Changed. Sizes of what the replacements add up to; a letter by its number: plain facts. -/
import Derived.Test.YtcafeffgaokiaaaZ4
import Derived.Test.YtcafeffgaokiaaaZ5
import Derived.Deep.RegionHeld3
import Derived.Test.YtcafeffgaokiaaaZ10
namespace Go.Proofs.Ytcafeffgaokiaaa
open Go.RowKit

def boundErr (l b i p f : Int) (es : List Ent) : Int := if decCheck l b i p f es ≠ 0 then 1 else 0
def boundVal (l b i p f : Int) (es : List Ent) : Int := if decCheck l b i p f es ≠ 0 then 0 else p + 1 + f
def burstErr (l b i p f : Int) (es : List Ent) (k : Int) : Int := if decCheck l b i p f es ≠ 0 then 1 else if k < 1 ∨ 65536 < k then 2 else 0
def burstVal (l b i p f : Int) (es : List Ent) (k : Int) : Int := if decCheck l b i p f es ≠ 0 then 0 else if k < 1 ∨ 65536 < k then 0 else 1 + (k - 1 + b - 1) / b + p + f

set_option maxHeartbeats 1000000 in
theorem bound_any (l b i p f : Int) (es : List Ent) (a : Option Addr) (c : Nat) (w : World) (hE : EntsAt w a es) (hwins : WinsFit es) :
    Calls Try.prog 14 #[.agg #[.int .i64 l, .int .i64 b, .int .i64 i, .int .i64 p, .int .i64 f, .slice a es.length c]] w fun e w' =>
      e = .returned (.tuple #[.int .i64 (boundVal l b i p f es), .int .i64 (boundErr l b i p f es)]) ∧ Below w.heap.size w w' := by
  have HE2 := Lib.hid (hE.mono (Nat.le_refl _) ((Below.refl w.heap.size w).alloc (Nat.le_refl _) (.cells #[.int .i64 l, .int .i64 b, .int .i64 i, .int .i64 p, .int .i64 f, .slice a es.length c] 30)))
  have HW := Lib.hid hwins
  clear hE hwins
  by_cases e1 : decCheck l b i p f es = 0
  · obtain ⟨⟨l1, l2⟩, ⟨b1, b2, i1, i2, p1, f1, p2, f2⟩, hes⟩ := decCheck_ok e1
    have e1' : (decCheck l b i p f es != 0) = false := by simpa using e1
    have hv : boundVal l b i p f es = p + 1 + f := by unfold boundVal; rw [if_neg (by simpa using e1)]
    have he : boundErr l b i p f es = 0 := by unfold boundErr; rw [if_neg (by simpa using e1)]
    have Hv := Lib.hid hv
    have He := Lib.hid he
    clear hv he e1
    go_enter Try.func14, Try.ntmps14
    go_wp2_with (go_at_call 36; refine (winCheck_any l b i p f es a c _ HE2.out HW.out).mono ?_; rintro e w' ⟨rfl, hb⟩; obtain ⟨⟨c0, c1, c2, c3, c4, c5⟩, hsz, hbw⟩ := box6 (hb.mono (by simp)); have Hb := Lib.hid hbw; clear hb hbw)
    go_ret2
    exact ⟨by rw [Hv.out, He.out]; rfl, Hb.out⟩
  · have e1' : (decCheck l b i p f es != 0) = true := by simpa using e1
    have hv : boundVal l b i p f es = 0 := by unfold boundVal; rw [if_pos e1]
    have he : boundErr l b i p f es = 1 := by unfold boundErr; rw [if_pos e1]
    have Hv := Lib.hid hv
    have He := Lib.hid he
    clear hv he e1
    go_enter Try.func14, Try.ntmps14
    go_wp2_with (go_at_call 36; refine (winCheck_any l b i p f es a c _ HE2.out HW.out).mono ?_; rintro e w' ⟨rfl, hb⟩; obtain ⟨⟨c0, c1, c2, c3, c4, c5⟩, hsz, hbw⟩ := box6 (hb.mono (by simp)); have Hb := Lib.hid hbw; clear hb hbw)
    go_ret2
    exact ⟨by rw [Hv.out, He.out]; rfl, Hb.out⟩

set_option maxHeartbeats 2000000 in
theorem burst_any (l b i p f : Int) (es : List Ent) (a : Option Addr) (c : Nat) (k : Int) (w : World) (hE : EntsAt w a es) (hwins : WinsFit es) :
    Calls Try.prog 43 #[.agg #[.int .i64 l, .int .i64 b, .int .i64 i, .int .i64 p, .int .i64 f, .slice a es.length c], .int .i64 k] w fun e w' =>
      e = .returned (.tuple #[.int .i64 (burstVal l b i p f es k), .int .i64 (burstErr l b i p f es k)]) ∧ Below w.heap.size w w' := by
  have HE2 := Lib.hid (hE.mono (Nat.le_refl _) ((Below.refl w.heap.size w).alloc (Nat.le_refl _) (.cells #[.int .i64 l, .int .i64 b, .int .i64 i, .int .i64 p, .int .i64 f, .slice a es.length c] 30)))
  have HW := Lib.hid hwins
  clear hE hwins
  by_cases e1 : decCheck l b i p f es = 0
  · obtain ⟨⟨l1, l2⟩, ⟨b1, b2, i1, i2, p1, f1, p2, f2⟩, hes⟩ := decCheck_ok e1
    have e1' : (decCheck l b i p f es != 0) = false := by simpa using e1
    by_cases hk : k < 1 ∨ 65536 < k
    · have hv : burstVal l b i p f es k = 0 := by unfold burstVal; rw [if_neg (by simpa using e1), if_pos hk]
      have he : burstErr l b i p f es k = 2 := by unfold burstErr; rw [if_neg (by simpa using e1), if_pos hk]
      have Hv := Lib.hid hv
      have He := Lib.hid he
      clear hv he e1
      go_enter Try.func43, Try.ntmps43
      go_wp2_with (go_at_call 36; refine (winCheck_any l b i p f es a c _ HE2.out HW.out).mono ?_; rintro e w' ⟨rfl, hb⟩; obtain ⟨⟨c0, c1, c2, c3, c4, c5⟩, hsz, hbw⟩ := box6 (hb.mono (by simp)); have Hb := Lib.hid hbw; clear hb hbw)
      all_goals
        go_ret2
        exact ⟨by rw [Hv.out, He.out]; rfl, Hb.out⟩
    · have hv : burstVal l b i p f es k = 1 + (k - 1 + b - 1) / b + p + f := by unfold burstVal; rw [if_neg (by simpa using e1), if_neg hk]
      have he : burstErr l b i p f es k = 0 := by unfold burstErr; rw [if_neg (by simpa using e1), if_neg hk]
      have k1 : 1 ≤ k := by omega
      have k2 : k ≤ 65536 := by omega
      have hq := IntWalk.tdiv_le (k - 1 + b - 1) b (by omega) b1
      have Hv := Lib.hid hv
      have He := Lib.hid he
      clear hv he e1 hk
      go_enter Try.func43, Try.ntmps43
      go_wp2_with (go_at_call 36; refine (winCheck_any l b i p f es a c _ HE2.out HW.out).mono ?_; rintro e w' ⟨rfl, hb⟩; obtain ⟨⟨c0, c1, c2, c3, c4, c5⟩, hsz, hbw⟩ := box6 (hb.mono (by simp)); have Hb := Lib.hid hbw; clear hb hbw)
      go_ret2
      exact ⟨by rw [Hv.out, He.out]; rfl, Hb.out⟩
  · have e1' : (decCheck l b i p f es != 0) = true := by simpa using e1
    have hv : burstVal l b i p f es k = 0 := by unfold burstVal; rw [if_pos e1]
    have he : burstErr l b i p f es k = 1 := by unfold burstErr; rw [if_pos e1]
    have Hv := Lib.hid hv
    have He := Lib.hid he
    clear hv he e1
    go_enter Try.func43, Try.ntmps43
    go_wp2_with (go_at_call 36; refine (winCheck_any l b i p f es a c _ HE2.out HW.out).mono ?_; rintro e w' ⟨rfl, hb⟩; obtain ⟨⟨c0, c1, c2, c3, c4, c5⟩, hsz, hbw⟩ := box6 (hb.mono (by simp)); have Hb := Lib.hid hbw; clear hb hbw)
    go_ret2
    exact ⟨by rw [Hv.out, He.out]; rfl, Hb.out⟩

end Go.Proofs.Ytcafeffgaokiaaa
namespace Go.Proofs.Ytcafeffgaokiaaa
open Go.RowKit

theorem size_fit {s : ByteArray} {l b i p f : Int} {es : List Ent} (h : decErr l b i p f es s = 0) : s.size ≤ 65536 := by
  have := wordCheck_len (decErr_zero.1 h).2.1; simpa using this

set_option maxRecDepth 100000 in
set_option maxHeartbeats 4000000 in
theorem changed_any (l b i p f : Int) (es : List Ent) (a : Option Addr) (c : Nat) (s : ByteArray) (at_ k : Int) (w : World) (hE : EntsAt w a es) (hwins : WinsFit es) (hs : s.size ≤ 9223372036854775807) :
    Calls Try.prog 13 #[.agg #[.int .i64 l, .int .i64 b, .int .i64 i, .int .i64 p, .int .i64 f, .slice a es.length c], .string s, .int .i64 at_, .int .i64 k] w fun e w' =>
      ∃ v, e = .returned (.tuple #[v, .int .i64 (chErr l b i p f es s at_ k)]) ∧ OwnInts w' w.heap.size v (chOut l b i p f es s at_ k) ∧ Below w.heap.size w w' := by
  have HE := Lib.hid hE
  have HE2 := Lib.hid (hE.mono (Nat.le_refl _) ((Below.refl w.heap.size w).alloc (Nat.le_refl _) (.cells #[.int .i64 l, .int .i64 b, .int .i64 i, .int .i64 p, .int .i64 f, .slice a es.length c] 30)))
  have HW := Lib.hid hwins
  clear hE hwins
  by_cases e1 : decErr l b i p f es s = 0
  case neg =>
    have hv : chErr l b i p f es s at_ k = decErr l b i p f es s := by unfold chErr; rw [if_pos e1]
    have ho : chOut l b i p f es s at_ k = [] := by unfold chOut; rw [hv, if_neg e1]
    have Hv := Lib.hid hv
    have Ho := Lib.hid ho
    have e1' : (decErr l b i p f es s != 0) = true := by simpa using e1
    clear hv ho e1
    go_enter Try.func13, Try.ntmps13
    go_wp2_with (go_at_call 11; refine (decode_any l b i p f es a c s _ HE2.out HW.out hs).mono ?_; rintro e w' ⟨v, rfl, hown, hb⟩; obtain ⟨⟨c0, c1, c2, c3, c4, c5⟩, hsz, hbw⟩ := box6 (hb.mono (by simp)); have Hb := Lib.hid hbw; clear hb hbw hown)
    go_ret2
    exact ⟨_, by rw [Hv.out]; rfl, by rw [Ho.out]; exact OwnInts.nil _ _, Hb.out⟩
  have e1' : (decErr l b i p f es s != 0) = false := by simpa using e1
  have hs2 := size_fit e1
  obtain ⟨⟨l1, l2⟩, ⟨b1, b2, i1, i2, p1, f1, p2, f2⟩, hes⟩ := decCheck_ok (decErr_zero.1 e1).1
  have E1 := Lib.hid e1
  clear e1
  by_cases e2 : at_ < 0 ∨ (s.size : Int) ≤ at_
  · have hv : chErr l b i p f es s at_ k = 2 := by unfold chErr; rw [if_neg (by rw [E1.out]; simp), if_pos e2]
    have ho : chOut l b i p f es s at_ k = [] := by unfold chOut; rw [hv]; rfl
    have Hv := Lib.hid hv
    have Ho := Lib.hid ho
    clear hv ho
    go_enter Try.func13, Try.ntmps13
    go_wp2_with (go_at_call 11; refine (decode_any l b i p f es a c s _ HE2.out HW.out hs).mono ?_; rintro e w' ⟨v, rfl, hown, hb⟩; obtain ⟨⟨c0, c1, c2, c3, c4, c5⟩, hsz, hbw⟩ := box6 (hb.mono (by simp)); have Hb := Lib.hid hbw; clear hb hbw hown)
    all_goals
      go_ret2
      exact ⟨_, by rw [Hv.out]; rfl, by rw [Ho.out]; exact OwnInts.nil _ _, Hb.out⟩
  obtain ⟨A, rfl⟩ : ∃ A : Nat, at_ = A := ⟨at_.toNat, by omega⟩
  have a1 : (0 : Int) ≤ (A : Int) := by omega
  have a2 : (A : Int) < (s.size : Int) := by omega
  have E2 := Lib.hid e2
  clear e2
  by_cases e3 : k < 0 ∨ l ≤ k
  · have hv : chErr l b i p f es s A k = 13 := by unfold chErr; rw [if_neg (by rw [E1.out]; simp), if_neg E2.out, if_pos e3]
    have ho : chOut l b i p f es s A k = [] := by unfold chOut; rw [hv]; rfl
    have Hv := Lib.hid hv
    have Ho := Lib.hid ho
    clear hv ho
    go_enter Try.func13, Try.ntmps13
    go_wp2_with (go_at_call 11; refine (decode_any l b i p f es a c s _ HE2.out HW.out hs).mono ?_; rintro e w' ⟨v, rfl, hown, hb⟩; obtain ⟨⟨c0, c1, c2, c3, c4, c5⟩, hsz, hbw⟩ := box6 (hb.mono (by simp)); have Hb := Lib.hid hbw; clear hb hbw hown)
    all_goals
      go_ret2
      exact ⟨_, by rw [Hv.out]; rfl, by rw [Ho.out]; exact OwnInts.nil _ _, Hb.out⟩
  obtain ⟨K, rfl⟩ : ∃ K : Nat, k = K := ⟨k.toNat, by omega⟩
  have k1 : (0 : Int) ≤ (K : Int) := by omega
  have k2 : (K : Int) < l := by omega
  have hv : chErr l b i p f es s A K = 0 := by unfold chErr; rw [if_neg (by rw [E1.out]; simp), if_neg E2.out, if_neg e3]
  have ho : chOut l b i p f es s A K = diffs (decOut l b i p f es s) (decOut l b i p f es (replS s A K)) := by unfold chOut; rw [if_pos hv]; rfl
  have he2 := replS_err (a := A) (c := K) (by omega) (by omega) k2 E1.out
  have hlen : (decOut l b i p f es (replS s A K)).length = (decOut l b i p f es s).length := by rw [decOut_len he2, decOut_len E1.out, replS_size s A K (by omega) (by omega)]
  have hlb : (decOut l b i p f es s).length < 1000000000000 := by rw [decOut_len E1.out]; have := winCount_le (s := s.size) (n := ((p + 1 + f) * b).toNat) (b := b.toNat); omega
  have hrs : (replS s A K).size ≤ 9223372036854775807 := by rw [replS_size s A K (by omega) (by omega)]; omega
  have Hv := Lib.hid hv
  have Ho := Lib.hid ho
  have He2 := Lib.hid he2
  have Hlen := Lib.hid hlen
  clear hv ho he2 hlen e3
  go_enter Try.func13, Try.ntmps13
  go_wp2_with (go_at_call 11; refine (decode_any l b i p f es a c s _ HE2.out HW.out hs).mono ?_; rintro e w1 ⟨v, rfl, hown, hb⟩; obtain ⟨⟨c0, c1, c2, c3, c4, c5⟩, hsz, hbw⟩ := box6 (hb.mono (by simp)); have Hb := Lib.hid hbw; have HbX := Lib.hid (hb.mono (B' := w.heap.size + 1) (by simp)); have Hown := Lib.hid hown; clear hb hbw hown)
  go_region_held3 (fun w' => w'.cell? ⟨w.heap.size, 0, none⟩ = some (.int .i64 l) ∧ w'.cell? ⟨w.heap.size, 1, none⟩ = some (.int .i64 b) ∧ w'.cell? ⟨w.heap.size, 2, none⟩ = some (.int .i64 i) ∧ w'.cell? ⟨w.heap.size, 3, none⟩ = some (.int .i64 p) ∧ w'.cell? ⟨w.heap.size, 4, none⟩ = some (.int .i64 f) ∧ w'.cell? ⟨w.heap.size, 5, none⟩ = some (.slice a es.length c))
    (go_keep)
    (first
      | (go_at_call 39; refine (replaced_any s A K (by omega) (by omega) (by omega) _).mono ?_; rintro e w2 ⟨rfl, n, rfl⟩)
      | (go_at_call 11; refine (decode_any l b i p f es a c (replS s A K) _ (SlAt.mono HE.out (Nat.le_refl _) (by repeat (first | exact Hb.out | refine Below.drew ?_ | refine below_dr ?_))) HW.out hrs).mono ?_; rintro e w2 ⟨v2, rfl, hown2, hb2⟩; rw [He2.out]; have hb3 : Below (w.heap.size + 1) (w.alloc (.cells #[.int .i64 l, .int .i64 b, .int .i64 i, .int .i64 p, .int .i64 f, .slice a es.length c] 30)) w2 := Below.trans (by repeat (first | exact HbX.out | refine Below.drew ?_ | refine below_dr ?_)) (hb2.mono (by simp; omega)); obtain ⟨⟨g0, g1, g2, g3, g4, g5⟩, hsz2, hbw2⟩ := box6 hb3; have Hb2 := Lib.hid hb2; have Hown2 := Lib.hid hown2; have Hbw2 := Lib.hid hbw2; clear hb2 hb3 hown2 hbw2))
  have hb4 : Below w1.heap.size w1 w2 := Below.trans (by repeat (first | exact Below.refl _ _ | refine Below.drew ?_ | refine below_dr ?_)) (Hb2.out.mono (by simp))
  obtain ⟨q1, d1, rfl, _, hI1, _⟩ := Hown.out.form
  obtain ⟨q2, d2, rfl, _, hI2, _⟩ := Hown2.out.form
  have HI1 := Lib.hid (hI1.below (Nat.le_refl _) hb4)
  have HI2 := Lib.hid hI2
  clear hI1 hI2 hb4 Hown Hown2
  rw [Hlen.out]
  generalize hx : decOut l b i p f es s = x1 at *
  generalize hy : decOut l b i p f es (replS s A K) = x2 at *
  clear hx hy
  go_wp2_with (go_at_call 40; refine (changes_any x1 x2 q1 q2 d1 d2 _ HI1.out HI2.out Hlen.out hlb).mono ?_; rintro e w3 ⟨v3, rfl, hown3, hb5⟩; have Hown3 := Lib.hid hown3; have Hb5 := Lib.hid hb5; clear hown3 hb5)
  go_ret2
  exact ⟨_, by rw [Hv.out]; rfl, by rw [Ho.out]; exact Hown3.out.base (by have := Hbw2.out.size; simp; omega), Hbw2.out.trans (Hb5.out.mono (Hbw2.out.size))⟩
end Go.Proofs.Ytcafeffgaokiaaa
namespace Go.Proofs.Ytcafeffgaokiaaa
open Go.RowKit

set_option maxRecDepth 100000 in
set_option maxHeartbeats 4000000 in
theorem refchanged_any (l b i p f : Int) (es : List Ent) (a : Option Addr) (c : Nat) (s : ByteArray) (A K : Nat) (w : World) (hE : EntsAt w a es) (hwins : WinsFit es) (e1 : decErr l b i p f es s = 0) (hA : A < s.size) (hK : (K : Int) < l) :
    Calls Try.prog 74 #[.agg #[.int .i64 l, .int .i64 b, .int .i64 i, .int .i64 p, .int .i64 f, .slice a es.length c], .string s, .int .i64 A, .int .i64 K] w fun e w' =>
      ∃ v, e = .returned v ∧ OwnInts w' w.heap.size v (diffs (decOut l b i p f es s) (decOut l b i p f es (replS s A K))) ∧ Below w.heap.size w w' := by
  have HE := Lib.hid hE
  have HE2 := Lib.hid (hE.mono (Nat.le_refl _) ((Below.refl w.heap.size w).alloc (Nat.le_refl _) (.cells #[.int .i64 l, .int .i64 b, .int .i64 i, .int .i64 p, .int .i64 f, .slice a es.length c] 30)))
  have HW := Lib.hid hwins
  clear hE hwins
  have hs2 := size_fit e1
  obtain ⟨⟨l1, l2⟩, ⟨b1, b2, i1, i2, p1, f1, p2, f2⟩, hes⟩ := decCheck_ok (decErr_zero.1 e1).1
  have he2 := replS_err (a := A) (c := K) hA (by omega) hK e1
  have hlen : (decOut l b i p f es (replS s A K)).length = (decOut l b i p f es s).length := by rw [decOut_len he2, decOut_len e1, replS_size s A K hA (by omega)]
  have hlb : (decOut l b i p f es s).length < 1000000000000 := by rw [decOut_len e1]; have := winCount_le (s := s.size) (n := ((p + 1 + f) * b).toNat) (b := b.toNat); omega
  have hrs : (replS s A K).size ≤ 9223372036854775807 := by rw [replS_size s A K hA (by omega)]; omega
  have E1 := Lib.hid e1
  have He2 := Lib.hid he2
  have Hlen := Lib.hid hlen
  clear he2 hlen e1
  go_enter Try.func74, Try.ntmps74
  go_wp2_with (go_at_call 98; refine (refDecode_any l b i p f es a c s _ HE2.out HW.out (by omega)).mono ?_; rintro e w1 ⟨v, rfl, hown, hb⟩; obtain ⟨⟨c0, c1, c2, c3, c4, c5⟩, hsz, hbw⟩ := box6 (hb.mono (by simp)); have Hb := Lib.hid hbw; have HbX := Lib.hid (hb.mono (B' := w.heap.size + 1) (by simp)); have Hown := Lib.hid hown; clear hb hbw hown)
  go_region_held3 (fun w' => w'.cell? ⟨w.heap.size, 0, none⟩ = some (.int .i64 l) ∧ w'.cell? ⟨w.heap.size, 1, none⟩ = some (.int .i64 b) ∧ w'.cell? ⟨w.heap.size, 2, none⟩ = some (.int .i64 i) ∧ w'.cell? ⟨w.heap.size, 3, none⟩ = some (.int .i64 p) ∧ w'.cell? ⟨w.heap.size, 4, none⟩ = some (.int .i64 f) ∧ w'.cell? ⟨w.heap.size, 5, none⟩ = some (.slice a es.length c))
    (go_keep)
    (first
      | (go_at_call 99; refine (refReplaced_any s A K (by omega) (by omega) (by omega) _).mono ?_; rintro e w2 ⟨rfl, n, rfl⟩)
      | (go_at_call 98; refine (refDecode_any l b i p f es a c (replS s A K) _ (SlAt.mono HE.out (Nat.le_refl _) (by repeat (first | exact Hb.out | refine Below.drew ?_ | refine below_dr ?_))) HW.out hrs).mono ?_; rintro e w2 ⟨v2, rfl, hown2, hb2⟩; rw [He2.out]; have hb3 : Below (w.heap.size + 1) (w.alloc (.cells #[.int .i64 l, .int .i64 b, .int .i64 i, .int .i64 p, .int .i64 f, .slice a es.length c] 30)) w2 := Below.trans (by repeat (first | exact HbX.out | refine Below.drew ?_ | refine below_dr ?_)) (hb2.mono (by simp; omega)); obtain ⟨⟨g0, g1, g2, g3, g4, g5⟩, hsz2, hbw2⟩ := box6 hb3; have Hb2 := Lib.hid hb2; have Hown2 := Lib.hid hown2; have Hbw2 := Lib.hid hbw2; clear hb2 hb3 hown2 hbw2))
  have hb4 : Below w1.heap.size w1 w2 := Below.trans (by repeat (first | exact Below.refl _ _ | refine Below.drew ?_ | refine below_dr ?_)) (Hb2.out.mono (by simp))
  obtain ⟨q1, d1, rfl, _, hI1, _⟩ := Hown.out.form
  obtain ⟨q2, d2, rfl, _, hI2, _⟩ := Hown2.out.form
  have HI1 := Lib.hid (hI1.below (Nat.le_refl _) hb4)
  have HI2 := Lib.hid hI2
  clear hI1 hI2 hb4 Hown Hown2 c0 c1 c2 c3 c4 c5 g0 g1 g2 g3 g4 g5
  rw [Hlen.out]
  generalize hx : decOut l b i p f es s = x1 at *
  generalize hy : decOut l b i p f es (replS s A K) = x2 at *
  have HX := Lib.hid hx
  have HY := Lib.hid hy
  clear hx hy
  have hD : diffs x1 x2 = diffsK x1 x2 x1.length := by unfold diffs; rw [Hlen.out, Nat.min_self]
  have HD := Lib.hid hD
  clear hD
  go_wp2
  go_loopw [13, 14] (fun v i wr => ∃ k : Nat, k ≤ x1.length ∧ i = .int .i64 k ∧ Below w2.heap.size w2 wr ∧ Hid (OwnInts wr w2.heap.size v (diffsK x1 x2 k))) (fun _ i _ => x1.length - (intOf i).toNat)
  case atStart => exact ⟨0, by omega, rfl, (Below.refl _ _).alloc (Nat.le_refl _) _, Lib.hid (OwnInts.made _ (Nat.le_refl _))⟩
  case round =>
    obtain ⟨k, hk, rfl, hd, Hown⟩ := hrel
    by_cases hlt : k < x1.length
    · have hltb : k < x2.length := by have := Hlen.out; omega
      obtain ⟨ab, ao, rfl, hab, hca⟩ := IntsAt.cells HI1.out hlt
      obtain ⟨bb, bo, rfl, hbb, hcb⟩ := IntsAt.cells HI2.out hltb
      have hxa := hca k hlt
      have hxb := hcb k hltb
      rw [← hd.cell (p := ⟨ab, _, none⟩) hab] at hxa
      rw [← hd.cell (p := ⟨bb, _, none⟩) hbb] at hxb
      obtain ⟨x, hx⟩ : ∃ x, x1.getD k 0 = x := ⟨_, rfl⟩
      obtain ⟨y, hy⟩ : ∃ y, x2.getD k 0 = y := ⟨_, rfl⟩
      rw [hx] at hxa
      rw [hy] at hxb
      have i0 : (0 : Int) ≤ (k : Int) := by omega
      have i3 : (k : Int) < (x1.length : Int) := by omega
      have hszk := hd.size
      have hlen := diffsK_len x1 x2 k
      have Hd := Lib.hid hd
      have Hx := Lib.hid hx
      have Hy := Lib.hid hy
      clear hca hcb hd hx hy
      cases hne : (x != y)
      · have hv := Lib.hid (diffsK_miss (a := x1) (b := x2) (k := k) (by rw [Hx.out, Hy.out]; exact hne))
        go_wp2_with fail
        go_quiet (fail)
        go_wp2
        go_roundw
        case rel => exact ⟨k + 1, by omega, by go_num, below_dr Hd.out, Lib.hid (by rw [hv.out]; exact Hown.out.drewN _)⟩
        case measure => simp [intOf]; omega
      · have hv := Lib.hid (diffsK_hit (a := x1) (b := x2) (k := k) (by rw [Hx.out, Hy.out]; exact hne))
        go_wp2_with fail
        go_quiet (fail)
        go_wp2_with (at_builtin; refine wpList_append_int rfl _ _ rfl w2.heap.size _ _ rfl ((Hown.out.drewN _).alloc _) wr.heap.size 1 k rfl ?_ ?_ ?_ ?_)
        · exact cell_new0 _ _ _
        · omega
        · simp; omega
        · intro v' w4 hown2 hgrow
          have Hb4 := Lib.hid (below_append ((below_dr Hd.out).alloc (by simp; omega) _) ((Hown.out.drewN _).alloc _) hgrow (by simp; omega) (Nat.le_refl _))
          have Hown2 := Lib.hid hown2
          clear hown2 hgrow
          go_wp2
          go_roundw
          case rel => exact ⟨k + 1, by omega, by go_num, Hb4.out, Lib.hid (by rw [hv.out]; exact Hown2.out)⟩
          case measure => simp [intOf]; omega
    · have hk' : k = x1.length := by omega
      have Hk := Lib.hid hk'
      clear hk'
      go_wp2
      go_ret
      exact ⟨_, rfl, by rw [HX.out, HY.out, HD.out, ← Hk.out]; exact Hown.out.base Hbw2.out.size, Hbw2.out.trans (hd.mono Hbw2.out.size)⟩

end Go.Proofs.Ytcafeffgaokiaaa
namespace Go.Proofs.Ytcafeffgaokiaaa
open Go.RowKit
theorem sumF_append (l r : List Rp) : sumF l ≤ sumF (l ++ r) := by
  unfold sumF
  rw [List.foldl_append]
  generalize l.foldl (fun s x => s + x.n) 0 = s
  induction r generalizing s with
  | nil => exact Nat.le_refl _
  | cons x r ih => exact Nat.le_trans (Nat.le_add_right _ _) (ih (s + x.n))
theorem rp_step {pre post ps : List Rp} {z : Rp} (h : pre ++ z :: post = ps) : sumF pre + z.n ≤ sumF ps ∧ pre.length + 1 ≤ ps.length := by
  have e : ps = (pre ++ [z]) ++ post := by rw [← h, List.append_assoc]; rfl
  rw [e]
  refine ⟨?_, by simp⟩
  rw [← sumF_snoc]
  exact sumF_append _ _
/-- The test on a letter, in both spellings. -/
theorem idxL_beq (q : Nat) (hq : q < 16) (c : UInt8) : (idxL 16 c == (q : Int)) = (letters.getD q 0 == c) := by
  have h : ∀ q : Nat, q < 16 → ∀ n : Nat, n < 256 → (idxL 16 (UInt8.ofNat n) == (q : Int)) = (letters.getD q 0 == UInt8.ofNat n) := by decide +kernel
  have hc : UInt8.ofNat c.toNat = c := by simp
  have := h q hq c.toNat c.toNat_lt
  rwa [hc] at this
theorem diffs_len (a b : List Int) : (diffs a b).length ≤ a.length := Nat.le_trans (diffsK_len _ _ _) (Nat.min_le_left _ _)
/-- The replacements that Greatest, Average and Worst look at. -/
def rps (l b i : Int) (m : EM) (dp df : Int) (es : List Ent) (n : Int) : List Rp := rpE (decOut l b i dp df es) l.toNat (wordsE m n.toNat)
theorem fit_ok {l b i : Int} {m : EM} {dl db di dp df : Int} {es : List Ent} {n : Int} (h : fitErr l b i m dl db di dp df es n = 0) :
    encCheck l b i m = 0 ∧ decCheck l b i dp df es = 0 ∧ dl = l ∧ db = b ∧ di = i ∧ (1 ≤ n ∧ n ≤ 16) ∧ cntV i n.toNat (m.r : Int) ≤ 4096 := by
  unfold fitErr at h
  by_cases h1 : encCheck l b i m ≠ 0 ∨ decCheck dl db di dp df es ≠ 0
  · rw [if_pos h1] at h; cases h
  rw [if_neg h1] at h
  by_cases h2 : l ≠ dl ∨ b ≠ db ∨ i ≠ di
  · rw [if_pos h2] at h; cases h
  rw [if_neg h2] at h
  by_cases h3 : n < 1 ∨ 16 < n
  · rw [if_pos h3] at h; cases h
  rw [if_neg h3] at h
  by_cases h4 : 4096 < cntV i n.toNat (m.r : Int)
  · rw [if_pos h4] at h; cases h
  simp only [ne_eq, not_or, Classical.not_not] at h1 h2
  obtain ⟨rfl, rfl, rfl⟩ := h2
  exact ⟨h1.1, h1.2, rfl, rfl, rfl, by omega, by omega⟩
theorem cntV_ok {I r n : Nat} (hI : I ≤ 256) (hr : r ≤ 64) (h : cntV (I : Int) n (r : Int) ≤ 4096) : r * I ^ n ≤ 4096 ∧ cntV (I : Int) n (r : Int) = ((r * I ^ n : Nat) : Int) := by
  obtain ⟨u, hu, hc⟩ := cntV_nat I hI n r (by omega)
  rw [hu] at h ⊢
  rcases hc with ⟨h1, h2⟩ | h1
  · rw [← h1]; exact ⟨h2, rfl⟩
  · omega
theorem wordCheck_mem {q : Int} {l : List UInt8} (h : wordCheck q l = 0) : ∀ c ∈ l, isLet q c := by
  intro c hc
  obtain ⟨i, hi, rfl⟩ := List.getElem_of_mem hc
  have := (wordCheck_zero.1 h).2.2 i hi
  rwa [List.getD_eq_getElem?_getD, List.getElem?_eq_getElem hi] at this
theorem wordCheck_of {q : Int} {l : List UInt8} (h1 : 1 ≤ q ∧ q ≤ 16) (h2 : l.length ≤ 65536) (h3 : ∀ c ∈ l, isLet q c) : wordCheck q l = 0 :=
  wordCheck_zero.2 ⟨h1, h2, fun i hi => by
    rw [List.getD_eq_getElem?_getD, List.getElem?_eq_getElem hi]
    exact h3 _ (List.getElem_mem hi)⟩
theorem wordsL_let {q : Int} {m : EM} {I B : Nat} (hm : m.Ok I B) (hd : ∀ s k, s < m.r → k < m.L s → wordCheck q (m.D s k).data.toList = 0) : ∀ n s w, s < m.r → (∀ c ∈ w.data.toList, isLet q c) → ∀ x ∈ wordsL m n s w, ∀ c ∈ x.data.toList, isLet q c
  | 0, s, w, _, hw, x, hx => by rw [wordsL, List.mem_singleton] at hx; rw [hx]; exact hw
  | n + 1, s, w, hs, hw, x, hx => by
    obtain ⟨k, hk, hx⟩ := List.mem_flatMap.1 hx
    have hk := List.mem_range.1 hk
    refine wordsL_let hm hd n _ _ (hm.to1 s k hs (by rw [← hm.len s hs]; exact hk)) (fun c hc => ?_) x hx
    rw [ByteArray.data_append, Array.toList_append] at hc
    rcases List.mem_append.1 hc with h | h
    · exact hw c h
    · exact wordCheck_mem (hd s k hs hk) c h
/-- What is written can be decoded. -/
theorem words_dec {l b i : Int} {m : EM} {dp df : Int} {es : List Ent} {n : Nat} (he : encCheck l b i m = 0) (hd : decCheck l b i dp df es = 0) (hn : n ≤ 16) : ∀ x ∈ wordsE m n, x.size = n * b.toNat ∧ decErr l b i dp df es x = 0 := by
  intro x hx
  obtain ⟨hl, hb, hi, hr, hm, hw⟩ := encCheck_ok he
  obtain ⟨s, hs, hx⟩ := List.mem_flatMap.1 hx
  have hs := List.mem_range.1 hs
  have hz := wordsL_size hm n s _ hs x hx
  have h0 : ByteArray.empty.size = 0 := rfl
  rw [h0, Nat.zero_add] at hz
  have hnb : n * b.toNat ≤ 16 * 16 := Nat.mul_le_mul hn (by omega)
  refine ⟨hz, decErr_zero.2 ⟨hd, wordCheck_of hl ?_ (wordsL_let hm hw n s _ hs (fun c hc => by cases hc) x hx), ?_⟩⟩
  · have : x.data.toList.length = x.size := by simp
    omega
  · obtain ⟨B, rfl⟩ : ∃ B : Nat, b = B := ⟨b.toNat, by omega⟩
    rw [hz, Int.toNat_natCast, Int.natCast_mul]
    exact Int.mul_emod_left _ _
/-- Where the statement looks, there are few replacements, with few changes. -/
theorem wrap_small : ∀ k : Nat, k ≤ 256 → wrap64 (k : Int) = (k : Int) := fun k hk => IntWalk.wrap64_in _ (by omega)
theorem few_words {C : Int} {K b n : Nat} (hc : C = (K : Int)) (hK : K ≤ 4096) (hbn : b * n ≤ 256) (h : ¬ (0 < (n : Int) ∧ (n : Int) ≤ 16 ∧ ((300 < C ∧ C ≤ 4096) ∨ 12 < wrap64 ((b : Int) * (n : Int))))) (h1 : 0 < (n : Int)) (h2 : (n : Int) ≤ 16) : K ≤ 300 ∧ b * n ≤ 12 := by
  rw [← Int.natCast_mul, wrap_small _ hbn, hc] at h
  constructor
  · exact Classical.byContradiction fun hx => h ⟨h1, h2, .inl ⟨by omega, by omega⟩⟩
  · exact Classical.byContradiction fun hx => h ⟨h1, h2, .inr (by omega)⟩
theorem rps_small {l b i : Int} {m : EM} {dl db di dp df : Int} {es : List Ent} {n : Int} (h : fitErr l b i m dl db di dp df es n = 0) (hM : manyB b i m.r n = false) :
    (∀ x ∈ rps l b i m dp df es n, x.n ≤ 13) ∧ (rps l b i m dp df es n).length ≤ 57600 ∧ sumF (rps l b i m dp df es n) ≤ 1000000 := by
  obtain ⟨he, hd, rfl, rfl, rfl, ⟨n1, n2⟩, hc⟩ := fit_ok h
  obtain ⟨⟨l1, l2⟩, ⟨b1, b2⟩, ⟨i1, i2⟩, ⟨r1, r2⟩, hm, hw⟩ := encCheck_ok he
  obtain ⟨N, rfl⟩ : ∃ N : Nat, n = N := ⟨n.toNat, by omega⟩
  obtain ⟨I, rfl⟩ : ∃ I : Nat, di = I := ⟨di.toNat, by omega⟩
  obtain ⟨B, rfl⟩ : ∃ B : Nat, db = B := ⟨db.toNat, by omega⟩
  rw [Int.toNat_natCast] at hc
  obtain ⟨c1, c2⟩ := cntV_ok (by omega) r2 hc
  unfold manyB at hM
  have hM := of_decide_eq_false hM
  rw [Int.toNat_natCast] at hM
  have hBN : B * N ≤ 16 * 16 := Nat.mul_le_mul (by omega) (by omega)
  have hr3 := few_words c2 c1 hBN hM (by omega) n2
  rw [Int.toNat_natCast, Int.toNat_natCast] at hm
  have hsz : ∀ x ∈ wordsE m N, x.size ≤ 12 ∧ decErr dl (B : Int) (I : Int) dp df es x = 0 := fun x hx => by
    have := words_dec he hd (by omega) x hx
    rw [Int.toNat_natCast, Nat.mul_comm] at this
    exact ⟨by omega, this.2⟩
  have hn13 : ∀ x ∈ rps dl (B : Int) (I : Int) m dp df es (N : Int), x.n ≤ 13 := fun x hx => by
    unfold rps at hx
    rw [Int.toNat_natCast] at hx
    obtain ⟨w, hw, a, _, c, _, _, rfl⟩ := rpE_mem.1 hx
    obtain ⟨h1, h2⟩ := hsz w hw
    have h3 : (decOut dl (B : Int) (I : Int) dp df es w).length ≤ 13 := by
      rw [decOut_len h2]
      exact Nat.le_trans winCount_le (by omega)
    exact Nat.le_trans (diffs_len _ _) h3
  have hlen : (rps dl (B : Int) (I : Int) m dp df es (N : Int)).length ≤ 57600 := by
    unfold rps
    rw [Int.toNat_natCast]
    have h1 := rpE_len (decOut dl (B : Int) (I : Int) dp df es) dl.toNat 12 (wordsE m N) (fun x hx => (hsz x hx).1)
    rw [wordsE_len hm N] at h1
    have h2 : m.r * I ^ N * (12 * dl.toNat) ≤ 300 * (12 * 16) := Nat.mul_le_mul hr3.1 (Nat.mul_le_mul_left _ (by omega))
    omega
  refine ⟨hn13, hlen, ?_⟩
  have h4 := sumF_bound hn13
  have h5 : 13 * (rps dl (B : Int) (I : Int) m dp df es (N : Int)).length ≤ 13 * 57600 := Nat.mul_le_mul_left _ hlen
  omega
end Go.Proofs.Ytcafeffgaokiaaa
