/- The walk of the statement PropagationChanges: it returns true for every input. -/
import Derived.Test.YtndfppafddfnaaaAwake
import Derived.Test.YtndfppafddfnaaaGreat
namespace Go.Proofs.Ytndfppafddfnaaa
open Go.RowKit

theorem SmallTo.fit {es : List Ent} (h : SmallTo es es.length) : WinsFit es := by
  intro x hx
  obtain ⟨k, hk, rfl⟩ := List.getElem_of_mem hx
  have := h k hk
  rw [List.getD_eq_getElem?_getD, List.getElem?_eq_getElem hk] at this
  exact Nat.le_trans this (by decide)

set_option maxRecDepth 100000 in
set_option maxHeartbeats 8000000 in
theorem changesLaw (l b i p f : Int) (es : List Ent) (a : Option Addr) (c : Nat) (s : ByteArray) (at_ k m : Int) (w : World) (hE : EntsAt w a es) (hwins : WinsFit es) (hn : es.length ≤ 100000000000000) (hs : s.size ≤ 9223372036854775807) :
    Calls Try.prog 3 #[.agg #[.int .i64 l, .int .i64 b, .int .i64 i, .int .i64 p, .int .i64 f, .slice a es.length c], .string s, .int .i64 at_, .int .i64 k, .int .i64 m] w fun e w' => e = .returned (.bool true) ∧ Below w.heap.size w w' := by
  have HE := Lib.hid hE
  have HE2 := Lib.hid (hE.mono (Nat.le_refl _) ((Below.refl w.heap.size w).alloc (Nat.le_refl _) (.cells #[.int .i64 l, .int .i64 b, .int .i64 i, .int .i64 p, .int .i64 f, .slice a es.length c] 24)))
  have HW := Lib.hid hwins
  clear hE hwins
  go_enter Try.func3, Try.ntmps3
  go_wp2_with fail
  refine (great_any l b i p f es a c _ HE2.out HW.out hn).mono ?_; rintro e w1 ⟨g, rfl, hg, hb⟩
  have HbX := Lib.hid (hb.mono (B' := w.heap.size + 1) (by simp))
  obtain ⟨⟨c0, c1, c2, c3, c4, c5⟩, hsz, hbw⟩ := box6 HbX.out
  have Hb1 := Lib.hid hbw
  have Hg := Lib.hid hg
  clear hb hbw hg
  cases g
  case true =>
    go_wp2_with (go_at_call 12; refine (awake_any _).mono ?_; rintro e w2 ⟨rfl, hb⟩; have Hb2 := Lib.hid hb; clear hb)
    go_ret
    exact ⟨rfl, Hb1.out.trans (Hb2.out.mono Hb1.out.size)⟩
  case false =>
    by_cases h20 : 20 < s.size
    · go_wp2_with (go_at_call 12; refine (awake_any _).mono ?_; rintro e w2 ⟨rfl, hb⟩; have Hb2 := Lib.hid hb; clear hb)
      go_ret
      exact ⟨rfl, Hb1.out.trans (Hb2.out.mono Hb1.out.size)⟩
    · have HX1 := HbX
      go_wp2_with fail
      refine (changed_any l b i p f es a c s at_ k _ (SlAt.mono HE.out (Nat.le_refl _) Hb1.out) HW.out hs).mono ?_
      rintro e w2 ⟨v2, rfl, hown, hb⟩
      have Hown2 := Lib.hid hown
      clear hown
      have HX2 := Lib.hid (HX1.out.trans (hb.mono (by omega)))
      have Hs2 := Lib.hid hb
      clear c0 c1 c2 c3 c4 c5 hb
      obtain ⟨⟨c0, c1, c2, c3, c4, c5⟩, hsz2, hbw⟩ := box6 HX2.out
      have Hb2 := Lib.hid hbw
      clear hbw
      go_wp2_with fail
      refine (refChanged_any l b i p f es a c s at_ k _ (SlAt.mono HE.out (Nat.le_refl _) Hb2.out) HW.out hs).mono ?_
      rintro e w3 ⟨v3, rfl, hown, hb⟩
      have Hown3 := Lib.hid hown
      clear hown
      have HX3 := Lib.hid (HX2.out.trans (hb.mono (by omega)))
      have Hs3 := Lib.hid hb
      clear c0 c1 c2 c3 c4 c5 hb
      obtain ⟨⟨c0, c1, c2, c3, c4, c5⟩, hsz3, hbw⟩ := box6 HX3.out
      have Hb3 := Lib.hid hbw
      clear hbw
      go_wp2_with fail
      refine (bound_any l b i p f es a c _ (SlAt.mono HE.out (Nat.le_refl _) Hb3.out) HW.out).mono ?_
      rintro e w4 ⟨rfl, hb⟩
      have HX4 := Lib.hid (HX3.out.trans (hb.mono (by omega)))
      have Hs4 := Lib.hid hb
      clear c0 c1 c2 c3 c4 c5 hb
      obtain ⟨⟨c0, c1, c2, c3, c4, c5⟩, hsz4, hbw⟩ := box6 HX4.out
      have Hb4 := Lib.hid hbw
      clear hbw
      go_wp2_with fail
      refine (refBound_any l b i p f es a c _ (SlAt.mono HE.out (Nat.le_refl _) Hb4.out) HW.out).mono ?_
      rintro e w5 ⟨rfl, hb⟩
      have HX5 := Lib.hid (HX4.out.trans (hb.mono (by omega)))
      have Hs5 := Lib.hid hb
      clear c0 c1 c2 c3 c4 c5 hb
      obtain ⟨⟨c0, c1, c2, c3, c4, c5⟩, hsz5, hbw⟩ := box6 HX5.out
      have Hb5 := Lib.hid hbw
      clear hbw
      go_wp2_with fail
      refine (burst_any l b i p f es a c m _ (SlAt.mono HE.out (Nat.le_refl _) Hb5.out) HW.out).mono ?_
      rintro e w6 ⟨rfl, hb⟩
      have HX6 := Lib.hid (HX5.out.trans (hb.mono (by omega)))
      have Hs6 := Lib.hid hb
      clear c0 c1 c2 c3 c4 c5 hb
      obtain ⟨⟨c0, c1, c2, c3, c4, c5⟩, hsz6, hbw⟩ := box6 HX6.out
      have Hb6 := Lib.hid hbw
      clear hbw
      go_wp2_with fail
      refine (refBurst_any l b i p f es a c m _ (SlAt.mono HE.out (Nat.le_refl _) Hb6.out) HW.out).mono ?_
      rintro e w7 ⟨rfl, hb⟩
      have HX7 := Lib.hid (HX6.out.trans (hb.mono (by omega)))
      have Hs7 := Lib.hid hb
      clear c0 c1 c2 c3 c4 c5 hb
      obtain ⟨⟨c0, c1, c2, c3, c4, c5⟩, hsz7, hbw⟩ := box6 HX7.out
      have Hb7 := Lib.hid hbw
      clear hbw
      obtain ⟨p2, d2, rfl, _, hI2, _⟩ := Hown2.out.form
      obtain ⟨p3, d3, rfl, _, hI3, _⟩ := Hown3.out.form
      have b37 : Below w3.heap.size w3 w7 := ((Hs4.out.trans (Hs5.out.mono Hs4.out.size)).trans (Hs6.out.mono (Nat.le_trans Hs4.out.size Hs5.out.size))).trans (Hs7.out.mono (Nat.le_trans Hs4.out.size (Nat.le_trans Hs5.out.size Hs6.out.size)))
      have HI2 := Lib.hid (hI2.below (Nat.le_refl _) (Hs3.out.trans (b37.mono Hs3.out.size)))
      have HI3 := Lib.hid (hI3.below (Nat.le_refl _) b37)
      clear hI2 hI3 b37 Hown2 Hown3 c0 c1 c2 c3 c4 c5
      have hlen : (chOut l b i p f es s at_ k).length < 1000000000000 := by
        unfold chOut
        split
        · rename_i h
          have h1 : decErr l b i p f es s = 0 := by
            unfold chErr at h
            by_cases h2 : decErr l b i p f es s ≠ 0
            · rw [if_pos h2] at h; exact h
            · simpa using h2
          have h2 := size_fit h1
          have h3 := winCount_le (s := s.size) (n := ((p + 1 + f) * b).toNat) (b := b.toNat)
          have h4 : (diffs (decOut l b i p f es s) (decOut l b i p f es (replS s at_.toNat k.toNat))).length ≤ min (decOut l b i p f es s).length (decOut l b i p f es (replS s at_.toNat k.toNat)).length := diffsK_len _ _ _
          rw [decOut_len h1] at h4
          omega
        · simp
      generalize chOut l b i p f es s at_ k = xs at *
      have hsame : (xs == xs) = true := by simp
      go_wp2_with fail
      refine (same_any xs xs p2 p3 d2 d3 _ HI2.out HI3.out hlen).mono ?_
      rintro e w8 ⟨rfl, hd⟩
      rw [hsame]
      have Hd8 := Lib.hid (hd.below w7.heap.size)
      have hz8 := Hd8.out.size
      clear hd
      go_wp2_with (go_at_call 12; refine (awake_any _).mono ?_; rintro e w9 ⟨rfl, hb⟩; have Hb9 := Lib.hid hb; clear hb)
      go_ret
      exact ⟨rfl, (Hb7.out.trans (Hd8.out.mono Hb7.out.size)).trans (Hb9.out.mono (Nat.le_trans Hb7.out.size hz8))⟩
end Go.Proofs.Ytndfppafddfnaaa
