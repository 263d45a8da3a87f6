/- The walk of grooveref25.Great: it ends. The walks of Bound, Burst and Changed, of the program and of the reference. The walks of Changed, of the program and of the reference. -/
import Derived.Test.YtcafeffgaokiaaaJ1
import Derived.Test.YtcafeffgaokiaaaJ3
import Derived.Test.YtcafeffgaokiaaaJ4
import Derived.Deep.RegionHeld3
namespace Go.Proofs.Ytcafeffgaokiaaa
open Go.RowKit
def SayPost (w : World) (e : Ending) (w' : World) : Prop := ∃ g : Bool, e = .returned (.bool g) ∧ Below w.heap.size w w'
set_option maxRecDepth 100000 in
set_option maxHeartbeats 8000000 in
theorem encGreat_any (l b i : Int) (m : EM) (p : Option Addr) (c : Nat) (w : World) (hE : m.At w p) (hf : m.Fit) :
    Calls Try.prog 15 #[.agg #[.int .i64 l, .int .i64 b, .int .i64 i, .slice p m.r c]] w (SayPost w) := by
  have HE := Lib.hid hE
  have HF := Lib.hid hf
  have hr0 := hf.1
  clear hE hf
  by_cases h1 : 65 < m.r
  · have h1a : (6 : Int) < (m.r : Int) := by omega
    have h1b : ¬ (m.r : Int) ≤ 64 := by omega
    have h1c : (65 : Int) < (m.r : Int) := by omega
    go_enter Try.func15, Try.ntmps15
    go_wp2
    go_ret
    exact ⟨true, rfl, (Below.refl _ _).alloc (Nat.le_refl _) _⟩
  have h1c : ¬ (65 : Int) < (m.r : Int) := by omega
  by_cases h2 : 6 < m.r ∧ m.r ≤ 64
  · obtain ⟨h2a, h2b⟩ := h2
    have h2c : (6 : Int) < (m.r : Int) := by omega
    have h2d : (m.r : Int) ≤ 64 := by omega
    go_enter Try.func15, Try.ntmps15
    go_wp2
    go_ret
    exact ⟨true, rfl, (Below.refl _ _).alloc (Nat.le_refl _) _⟩
  have hm : ((decide ((6 : Int) < (m.r : Int))) && (decide ((m.r : Int) ≤ 64))) = false := by
    rw [Bool.and_eq_false_iff]
    by_cases h3 : 6 < m.r
    · right; exact decide_eq_false (fun h => h2 ⟨h3, by omega⟩)
    · left; exact decide_eq_false (by omega)
  have hcase : m.r = 65 ∨ m.r ≤ 6 := by omega
  clear hm h2
  have key : ∀ (hq : (¬ (6 : Int) < (m.r : Int)) ∨ ((6 : Int) < (m.r : Int) ∧ ¬ (m.r : Int) ≤ 64)), Calls Try.prog 15 #[.agg #[.int .i64 l, .int .i64 b, .int .i64 i, .slice p m.r c]] w (SayPost w) := by
    intro hq
    go_enter Try.func15, Try.ntmps15
    rcases hq with q1 | ⟨q1, q2⟩
    all_goals
      go_wp2
      go_loopw [3] (fun s wr => ∃ k : Nat, k ≤ m.r ∧ s = .int .i64 (k : Nat) ∧ Below (w.heap.size + 1) (w.alloc (.cells #[.int .i64 l, .int .i64 b, .int .i64 i, .slice p m.r c] 24)) wr) (fun s _ => m.r - (intOf s).toNat)
      case atStart => exact ⟨0, by omega, rfl, Below.refl _ _⟩
      case round =>
        obtain ⟨k, hk, rfl, hb⟩ := hrel
        obtain ⟨⟨c0, c1, c2, c3⟩, hsz, hbw⟩ := box4 hb
        by_cases hlt : k < m.r
        · obtain ⟨eb, eo, q, cq, rfl, heb, hrow, hcells⟩ := (HE.out.below (Nat.le_refl _) hbw).row hlt
          have hLk := (HF.out.2 k hlt).1
          have hsz1 : w.heap.size + 1 ≤ wr.heap.size := by have := hb.size; simp at this; omega
          have Hb := Lib.hid hb
          have Hbw := Lib.hid hbw
          have Hcs := Lib.hid hcells
          have hk0 : (0 : Int) ≤ (k : Int) := by omega
          have hk1 : (k : Int) < (m.r : Int) := by omega
          clear hb hbw hcells
          by_cases e1 : 6 < m.L k
          · have e1' : (6 : Int) < (m.L k : Int) := by omega
            go_wp2
            go_ret
            exact ⟨true, rfl, Hbw.out⟩
          have e1' : ¬ (6 : Int) < (m.L k : Int) := by omega
          go_wp2
          go_loopw [4] (fun s wr2 => ∃ j : Nat, j ≤ m.L k ∧ s = .int .i64 (j : Nat) ∧ Below wr.heap.size wr wr2) (fun s _ => m.L k - (intOf s).toNat)
          case atStart => exact ⟨0, by omega, rfl, Below.refl _ _⟩
          case round =>
            obtain ⟨j, hj, rfl, hb2⟩ := hrel
            have hbb := Hb.out.trans (hb2.mono hsz1)
            obtain ⟨⟨c0, c1, c2, c3⟩, hsz2, hbw2⟩ := box4 hbb
            have hrow2 := (hb2.cell (p := ⟨eb, eo + k, none⟩) heb).trans hrow
            have Hb2 := Lib.hid hb2
            have Hbb := Lib.hid hbb
            have Hbw2 := Lib.hid hbw2
            by_cases hltj : j < m.L k
            · obtain ⟨fb, fo, rfl, hfb, d0, d1⟩ := EM.cells (Hcs.out.mono (Nat.le_refl _) hb2) hltj
              have hdz := (HF.out.2 k hlt).2 j hltj
              have hj0 : (0 : Int) ≤ (j : Int) := by omega
              have hj1 : (j : Int) < (m.L k : Int) := by omega
              clear hb2 hbb hbw2
              obtain ⟨x, hx⟩ : ∃ t, m.D k j = t := ⟨_, rfl⟩
              rw [hx] at d1 hdz
              clear hx
              by_cases f1 : 20 < x.size
              · have f1' : (20 : Int) < (x.size : Int) := by omega
                go_wp2
                go_ret
                exact ⟨true, rfl, Hbw2.out⟩
              · have f1' : ¬ (20 : Int) < (x.size : Int) := by omega
                go_wp2
                go_roundw
                case rel => exact ⟨j + 1, by omega, by go_num, Hb2.out⟩
                case measure => simp [intOf]; omega
            · have hj2 : ¬ (j : Int) < (m.L k : Int) := by omega
              clear hb2 hbb hbw2
              go_wp2
              go_roundw
              case rel => exact ⟨k + 1, by omega, by go_num, Hbb.out⟩
              case measure => simp [intOf]; omega
        · have hk2 : ¬ (k : Int) < (m.r : Int) := by omega
          have Hbw := Lib.hid hbw
          clear hb hbw
          go_wp2
          go_ret
          exact ⟨false, rfl, Hbw.out⟩
  rcases hcase with h | h
  · exact key (.inr ⟨by omega, by omega⟩)
  · exact key (.inl (by omega))
end Go.Proofs.Ytcafeffgaokiaaa
namespace Go.Proofs.Ytcafeffgaokiaaa
open Go.RowKit

def boundErr (l b i p f : Int) (es : List Ent) : Int := if decCheck l b i p f es ≠ 0 then 1 else 0
def boundVal (l b i p f : Int) (es : List Ent) : Int := if decCheck l b i p f es ≠ 0 then 0 else p + 1 + f
def burstErr (l b i p f : Int) (es : List Ent) (k : Int) : Int := if decCheck l b i p f es ≠ 0 then 1 else if k < 1 ∨ 65536 < k then 2 else 0
def burstVal (l b i p f : Int) (es : List Ent) (k : Int) : Int := if decCheck l b i p f es ≠ 0 then 0 else if k < 1 ∨ 65536 < k then 0 else 1 + (k - 1 + b - 1) / b + p + f

set_option maxHeartbeats 1000000 in
theorem bound_any (l b i p f : Int) (es : List Ent) (a : Option Addr) (c : Nat) (w : World) (hE : EntsAt w a es) (hwins : WinsFit es) :
    Calls Try.prog 14 #[.agg #[.int .i64 l, .int .i64 b, .int .i64 i, .int .i64 p, .int .i64 f, .slice a es.length c]] w fun e w' =>
      e = .returned (.tuple #[.int .i64 (boundVal l b i p f es), .int .i64 (boundErr l b i p f es)]) ∧ Below w.heap.size w w' := by
  have HE2 := Lib.hid (hE.mono (Nat.le_refl _) ((Below.refl w.heap.size w).alloc (Nat.le_refl _) (.cells #[.int .i64 l, .int .i64 b, .int .i64 i, .int .i64 p, .int .i64 f, .slice a es.length c] 30)))
  have HW := Lib.hid hwins
  clear hE hwins
  by_cases e1 : decCheck l b i p f es = 0
  · obtain ⟨⟨l1, l2⟩, ⟨b1, b2, i1, i2, p1, f1, p2, f2⟩, hes⟩ := decCheck_ok e1
    have e1' : (decCheck l b i p f es != 0) = false := by simpa using e1
    have hv : boundVal l b i p f es = p + 1 + f := by unfold boundVal; rw [if_neg (by simpa using e1)]
    have he : boundErr l b i p f es = 0 := by unfold boundErr; rw [if_neg (by simpa using e1)]
    have Hv := Lib.hid hv
    have He := Lib.hid he
    clear hv he e1
    go_enter Try.func14, Try.ntmps14
    go_wp2_with (go_at_call 36; refine (winCheck_any l b i p f es a c _ HE2.out HW.out).mono ?_; rintro e w' ⟨rfl, hb⟩; obtain ⟨⟨c0, c1, c2, c3, c4, c5⟩, hsz, hbw⟩ := box6 (hb.mono (by simp)); have Hb := Lib.hid hbw; clear hb hbw)
    go_ret2
    exact ⟨by rw [Hv.out, He.out]; rfl, Hb.out⟩
  · have e1' : (decCheck l b i p f es != 0) = true := by simpa using e1
    have hv : boundVal l b i p f es = 0 := by unfold boundVal; rw [if_pos e1]
    have he : boundErr l b i p f es = 1 := by unfold boundErr; rw [if_pos e1]
    have Hv := Lib.hid hv
    have He := Lib.hid he
    clear hv he e1
    go_enter Try.func14, Try.ntmps14
    go_wp2_with (go_at_call 36; refine (winCheck_any l b i p f es a c _ HE2.out HW.out).mono ?_; rintro e w' ⟨rfl, hb⟩; obtain ⟨⟨c0, c1, c2, c3, c4, c5⟩, hsz, hbw⟩ := box6 (hb.mono (by simp)); have Hb := Lib.hid hbw; clear hb hbw)
    go_ret2
    exact ⟨by rw [Hv.out, He.out]; rfl, Hb.out⟩

set_option maxHeartbeats 2000000 in
theorem burst_any (l b i p f : Int) (es : List Ent) (a : Option Addr) (c : Nat) (k : Int) (w : World) (hE : EntsAt w a es) (hwins : WinsFit es) :
    Calls Try.prog 43 #[.agg #[.int .i64 l, .int .i64 b, .int .i64 i, .int .i64 p, .int .i64 f, .slice a es.length c], .int .i64 k] w fun e w' =>
      e = .returned (.tuple #[.int .i64 (burstVal l b i p f es k), .int .i64 (burstErr l b i p f es k)]) ∧ Below w.heap.size w w' := by
  have HE2 := Lib.hid (hE.mono (Nat.le_refl _) ((Below.refl w.heap.size w).alloc (Nat.le_refl _) (.cells #[.int .i64 l, .int .i64 b, .int .i64 i, .int .i64 p, .int .i64 f, .slice a es.length c] 30)))
  have HW := Lib.hid hwins
  clear hE hwins
  by_cases e1 : decCheck l b i p f es = 0
  · obtain ⟨⟨l1, l2⟩, ⟨b1, b2, i1, i2, p1, f1, p2, f2⟩, hes⟩ := decCheck_ok e1
    have e1' : (decCheck l b i p f es != 0) = false := by simpa using e1
    by_cases hk : k < 1 ∨ 65536 < k
    · have hv : burstVal l b i p f es k = 0 := by unfold burstVal; rw [if_neg (by simpa using e1), if_pos hk]
      have he : burstErr l b i p f es k = 2 := by unfold burstErr; rw [if_neg (by simpa using e1), if_pos hk]
      have Hv := Lib.hid hv
      have He := Lib.hid he
      clear hv he e1
      go_enter Try.func43, Try.ntmps43
      go_wp2_with (go_at_call 36; refine (winCheck_any l b i p f es a c _ HE2.out HW.out).mono ?_; rintro e w' ⟨rfl, hb⟩; obtain ⟨⟨c0, c1, c2, c3, c4, c5⟩, hsz, hbw⟩ := box6 (hb.mono (by simp)); have Hb := Lib.hid hbw; clear hb hbw)
      all_goals
        go_ret2
        exact ⟨by rw [Hv.out, He.out]; rfl, Hb.out⟩
    · have hv : burstVal l b i p f es k = 1 + (k - 1 + b - 1) / b + p + f := by unfold burstVal; rw [if_neg (by simpa using e1), if_neg hk]
      have he : burstErr l b i p f es k = 0 := by unfold burstErr; rw [if_neg (by simpa using e1), if_neg hk]
      have k1 : 1 ≤ k := by omega
      have k2 : k ≤ 65536 := by omega
      have hq := IntWalk.tdiv_le (k - 1 + b - 1) b (by omega) b1
      have Hv := Lib.hid hv
      have He := Lib.hid he
      clear hv he e1 hk
      go_enter Try.func43, Try.ntmps43
      go_wp2_with (go_at_call 36; refine (winCheck_any l b i p f es a c _ HE2.out HW.out).mono ?_; rintro e w' ⟨rfl, hb⟩; obtain ⟨⟨c0, c1, c2, c3, c4, c5⟩, hsz, hbw⟩ := box6 (hb.mono (by simp)); have Hb := Lib.hid hbw; clear hb hbw)
      go_ret2
      exact ⟨by rw [Hv.out, He.out]; rfl, Hb.out⟩
  · have e1' : (decCheck l b i p f es != 0) = true := by simpa using e1
    have hv : burstVal l b i p f es k = 0 := by unfold burstVal; rw [if_pos e1]
    have he : burstErr l b i p f es k = 1 := by unfold burstErr; rw [if_pos e1]
    have Hv := Lib.hid hv
    have He := Lib.hid he
    clear hv he e1
    go_enter Try.func43, Try.ntmps43
    go_wp2_with (go_at_call 36; refine (winCheck_any l b i p f es a c _ HE2.out HW.out).mono ?_; rintro e w' ⟨rfl, hb⟩; obtain ⟨⟨c0, c1, c2, c3, c4, c5⟩, hsz, hbw⟩ := box6 (hb.mono (by simp)); have Hb := Lib.hid hbw; clear hb hbw)
    go_ret2
    exact ⟨by rw [Hv.out, He.out]; rfl, Hb.out⟩

end Go.Proofs.Ytcafeffgaokiaaa
namespace Go.Proofs.Ytcafeffgaokiaaa
open Go.RowKit

theorem size_fit {s : ByteArray} {l b i p f : Int} {es : List Ent} (h : decErr l b i p f es s = 0) : s.size ≤ 65536 := by
  have := wordCheck_len (decErr_zero.1 h).2.1; simpa using this

set_option maxRecDepth 100000 in
set_option maxHeartbeats 4000000 in
theorem changed_any (l b i p f : Int) (es : List Ent) (a : Option Addr) (c : Nat) (s : ByteArray) (at_ k : Int) (w : World) (hE : EntsAt w a es) (hwins : WinsFit es) (hs : s.size ≤ 9223372036854775807) :
    Calls Try.prog 13 #[.agg #[.int .i64 l, .int .i64 b, .int .i64 i, .int .i64 p, .int .i64 f, .slice a es.length c], .string s, .int .i64 at_, .int .i64 k] w fun e w' =>
      ∃ v, e = .returned (.tuple #[v, .int .i64 (chErr l b i p f es s at_ k)]) ∧ OwnInts w' w.heap.size v (chOut l b i p f es s at_ k) ∧ Below w.heap.size w w' := by
  have HE := Lib.hid hE
  have HE2 := Lib.hid (hE.mono (Nat.le_refl _) ((Below.refl w.heap.size w).alloc (Nat.le_refl _) (.cells #[.int .i64 l, .int .i64 b, .int .i64 i, .int .i64 p, .int .i64 f, .slice a es.length c] 30)))
  have HW := Lib.hid hwins
  clear hE hwins
  by_cases e1 : decErr l b i p f es s = 0
  case neg =>
    have hv : chErr l b i p f es s at_ k = decErr l b i p f es s := by unfold chErr; rw [if_pos e1]
    have ho : chOut l b i p f es s at_ k = [] := by unfold chOut; rw [hv, if_neg e1]
    have Hv := Lib.hid hv
    have Ho := Lib.hid ho
    have e1' : (decErr l b i p f es s != 0) = true := by simpa using e1
    clear hv ho e1
    go_enter Try.func13, Try.ntmps13
    go_wp2_with (go_at_call 11; refine (decode_any l b i p f es a c s _ HE2.out HW.out hs).mono ?_; rintro e w' ⟨v, rfl, hown, hb⟩; obtain ⟨⟨c0, c1, c2, c3, c4, c5⟩, hsz, hbw⟩ := box6 (hb.mono (by simp)); have Hb := Lib.hid hbw; clear hb hbw hown)
    go_ret2
    exact ⟨_, by rw [Hv.out]; rfl, by rw [Ho.out]; exact OwnInts.nil _ _, Hb.out⟩
  have e1' : (decErr l b i p f es s != 0) = false := by simpa using e1
  have hs2 := size_fit e1
  obtain ⟨⟨l1, l2⟩, ⟨b1, b2, i1, i2, p1, f1, p2, f2⟩, hes⟩ := decCheck_ok (decErr_zero.1 e1).1
  have E1 := Lib.hid e1
  clear e1
  by_cases e2 : at_ < 0 ∨ (s.size : Int) ≤ at_
  · have hv : chErr l b i p f es s at_ k = 2 := by unfold chErr; rw [if_neg (by rw [E1.out]; simp), if_pos e2]
    have ho : chOut l b i p f es s at_ k = [] := by unfold chOut; rw [hv]; rfl
    have Hv := Lib.hid hv
    have Ho := Lib.hid ho
    clear hv ho
    go_enter Try.func13, Try.ntmps13
    go_wp2_with (go_at_call 11; refine (decode_any l b i p f es a c s _ HE2.out HW.out hs).mono ?_; rintro e w' ⟨v, rfl, hown, hb⟩; obtain ⟨⟨c0, c1, c2, c3, c4, c5⟩, hsz, hbw⟩ := box6 (hb.mono (by simp)); have Hb := Lib.hid hbw; clear hb hbw hown)
    all_goals
      go_ret2
      exact ⟨_, by rw [Hv.out]; rfl, by rw [Ho.out]; exact OwnInts.nil _ _, Hb.out⟩
  obtain ⟨A, rfl⟩ : ∃ A : Nat, at_ = A := ⟨at_.toNat, by omega⟩
  have a1 : (0 : Int) ≤ (A : Int) := by omega
  have a2 : (A : Int) < (s.size : Int) := by omega
  have E2 := Lib.hid e2
  clear e2
  by_cases e3 : k < 0 ∨ l ≤ k
  · have hv : chErr l b i p f es s A k = 13 := by unfold chErr; rw [if_neg (by rw [E1.out]; simp), if_neg E2.out, if_pos e3]
    have ho : chOut l b i p f es s A k = [] := by unfold chOut; rw [hv]; rfl
    have Hv := Lib.hid hv
    have Ho := Lib.hid ho
    clear hv ho
    go_enter Try.func13, Try.ntmps13
    go_wp2_with (go_at_call 11; refine (decode_any l b i p f es a c s _ HE2.out HW.out hs).mono ?_; rintro e w' ⟨v, rfl, hown, hb⟩; obtain ⟨⟨c0, c1, c2, c3, c4, c5⟩, hsz, hbw⟩ := box6 (hb.mono (by simp)); have Hb := Lib.hid hbw; clear hb hbw hown)
    all_goals
      go_ret2
      exact ⟨_, by rw [Hv.out]; rfl, by rw [Ho.out]; exact OwnInts.nil _ _, Hb.out⟩
  obtain ⟨K, rfl⟩ : ∃ K : Nat, k = K := ⟨k.toNat, by omega⟩
  have k1 : (0 : Int) ≤ (K : Int) := by omega
  have k2 : (K : Int) < l := by omega
  have hv : chErr l b i p f es s A K = 0 := by unfold chErr; rw [if_neg (by rw [E1.out]; simp), if_neg E2.out, if_neg e3]
  have ho : chOut l b i p f es s A K = diffs (decOut l b i p f es s) (decOut l b i p f es (replS s A K)) := by unfold chOut; rw [if_pos hv]; rfl
  have he2 := replS_err (a := A) (c := K) (by omega) (by omega) k2 E1.out
  have hlen : (decOut l b i p f es (replS s A K)).length = (decOut l b i p f es s).length := by rw [decOut_len he2, decOut_len E1.out, replS_size s A K (by omega) (by omega)]
  have hlb : (decOut l b i p f es s).length < 1000000000000 := by rw [decOut_len E1.out]; have := winCount_le (s := s.size) (n := ((p + 1 + f) * b).toNat) (b := b.toNat); omega
  have hrs : (replS s A K).size ≤ 9223372036854775807 := by rw [replS_size s A K (by omega) (by omega)]; omega
  have Hv := Lib.hid hv
  have Ho := Lib.hid ho
  have He2 := Lib.hid he2
  have Hlen := Lib.hid hlen
  clear hv ho he2 hlen e3
  go_enter Try.func13, Try.ntmps13
  go_wp2_with (go_at_call 11; refine (decode_any l b i p f es a c s _ HE2.out HW.out hs).mono ?_; rintro e w1 ⟨v, rfl, hown, hb⟩; obtain ⟨⟨c0, c1, c2, c3, c4, c5⟩, hsz, hbw⟩ := box6 (hb.mono (by simp)); have Hb := Lib.hid hbw; have HbX := Lib.hid (hb.mono (B' := w.heap.size + 1) (by simp)); have Hown := Lib.hid hown; clear hb hbw hown)
  go_region_held3 (fun w' => w'.cell? ⟨w.heap.size, 0, none⟩ = some (.int .i64 l) ∧ w'.cell? ⟨w.heap.size, 1, none⟩ = some (.int .i64 b) ∧ w'.cell? ⟨w.heap.size, 2, none⟩ = some (.int .i64 i) ∧ w'.cell? ⟨w.heap.size, 3, none⟩ = some (.int .i64 p) ∧ w'.cell? ⟨w.heap.size, 4, none⟩ = some (.int .i64 f) ∧ w'.cell? ⟨w.heap.size, 5, none⟩ = some (.slice a es.length c))
    (go_keep)
    (first
      | (go_at_call 39; refine (replaced_any s A K (by omega) (by omega) (by omega) _).mono ?_; rintro e w2 ⟨rfl, n, rfl⟩)
      | (go_at_call 11; refine (decode_any l b i p f es a c (replS s A K) _ (SlAt.mono HE.out (Nat.le_refl _) (by repeat (first | exact Hb.out | refine Below.drew ?_ | refine below_dr ?_))) HW.out hrs).mono ?_; rintro e w2 ⟨v2, rfl, hown2, hb2⟩; rw [He2.out]; have hb3 : Below (w.heap.size + 1) (w.alloc (.cells #[.int .i64 l, .int .i64 b, .int .i64 i, .int .i64 p, .int .i64 f, .slice a es.length c] 30)) w2 := Below.trans (by repeat (first | exact HbX.out | refine Below.drew ?_ | refine below_dr ?_)) (hb2.mono (by simp; omega)); obtain ⟨⟨g0, g1, g2, g3, g4, g5⟩, hsz2, hbw2⟩ := box6 hb3; have Hb2 := Lib.hid hb2; have Hown2 := Lib.hid hown2; have Hbw2 := Lib.hid hbw2; clear hb2 hb3 hown2 hbw2))
  have hb4 : Below w1.heap.size w1 w2 := Below.trans (by repeat (first | exact Below.refl _ _ | refine Below.drew ?_ | refine below_dr ?_)) (Hb2.out.mono (by simp))
  obtain ⟨q1, d1, rfl, _, hI1, _⟩ := Hown.out.form
  obtain ⟨q2, d2, rfl, _, hI2, _⟩ := Hown2.out.form
  have HI1 := Lib.hid (hI1.below (Nat.le_refl _) hb4)
  have HI2 := Lib.hid hI2
  clear hI1 hI2 hb4 Hown Hown2
  rw [Hlen.out]
  generalize hx : decOut l b i p f es s = x1 at *
  generalize hy : decOut l b i p f es (replS s A K) = x2 at *
  clear hx hy
  go_wp2_with (go_at_call 40; refine (changes_any x1 x2 q1 q2 d1 d2 _ HI1.out HI2.out Hlen.out hlb).mono ?_; rintro e w3 ⟨v3, rfl, hown3, hb5⟩; have Hown3 := Lib.hid hown3; have Hb5 := Lib.hid hb5; clear hown3 hb5)
  go_ret2
  exact ⟨_, by rw [Hv.out]; rfl, by rw [Ho.out]; exact Hown3.out.base (by have := Hbw2.out.size; simp; omega), Hbw2.out.trans (Hb5.out.mono (Hbw2.out.size))⟩
end Go.Proofs.Ytcafeffgaokiaaa
