/- The walks of the checks of a size, a marker and a word: marker.checkSize, check; grooveref49.check, checkWord. -/
import Derived.Test.YtlkajmdcffemeaaWord
import Derived.Test.YtlkajmdcffemeaaMk
import Derived.Deep.DeepFit
namespace Go.Proofs.Ytlkajmdcffemeaa
open Go.RowKit

/-- The error of a size and a marker; of a size, a marker and a word. -/
def mkErr0 (b : Int) (m : List UInt8) : Int := if b < 1 ∨ 16 < b then 2 else if m.length = 0 then 5 else if 16 < m.length then 4 else wordCheck 2 m
def mkErr (b : Int) (m w : List UInt8) : Int := if mkErr0 b m ≠ 0 then mkErr0 b m else wordCheck 2 w

set_option maxHeartbeats 400000 in
theorem checkSize_any (b : Int) (w : World) : Calls Try.prog 60 #[.int .i64 b] w fun e w' => e = .returned (.int .i64 (if b < 1 ∨ 16 < b then 2 else 0)) ∧ w = w' := by
  go_enter Try.func60, Try.ntmps60
  by_cases h1 : b < 1
  · go_wp2
    go_ret
    exact ⟨rfl, rfl⟩
  · by_cases h2 : 16 < b
    · go_wp2
      go_ret
      exact ⟨rfl, rfl⟩
    · go_wp2
      go_ret
      exact ⟨rfl, rfl⟩

theorem str_empty (s : ByteArray) : (s.toList.isEmpty = true ↔ s.size = 0) := by
  rw [ByteArray.toList_eq, List.isEmpty_iff, ← List.length_eq_zero_iff]
  simp

set_option maxRecDepth 100000 in
set_option maxHeartbeats 2000000 in
theorem check_mk (b : Int) (m s : ByteArray) (hm : m.size ≤ maxLen) (hs : s.size ≤ maxLen) (w : World) :
    Calls Try.prog 40 #[.int .i64 b, .string m, .string s] w fun e w' => e = .returned (.int .i64 (mkErr b m.data.toList s.data.toList)) ∧ Drawn w w' := by
  have hlen : m.data.toList.length = m.size := by simp
  have hE : mkErr b m.data.toList s.data.toList = if b < 1 ∨ 16 < b then 2 else if m.size = 0 then 5 else if 16 < m.size then 4 else if wordCheck 2 m.data.toList ≠ 0 then wordCheck 2 m.data.toList else wordCheck 2 s.data.toList := by
    unfold mkErr mkErr0
    rw [hlen]
    by_cases h1 : b < 1 ∨ 16 < b
    · rw [if_pos h1, if_pos h1, if_pos (by decide)]
    · rw [if_neg h1, if_neg h1]
      by_cases h2 : m.size = 0
      · rw [if_pos h2, if_pos h2, if_pos (by decide)]
      · rw [if_neg h2, if_neg h2]
        by_cases h3 : 16 < m.size
        · rw [if_pos h3, if_pos h3, if_pos (by decide)]
        · rw [if_neg h3, if_neg h3]
  have Hcs := Lib.hid (checkSize_any b)
  have Hm := Lib.hid (wordCheck_any 2 m hm)
  have Hs := Lib.hid (wordCheck_any 2 s hs)
  generalize mkErr b m.data.toList s.data.toList = E at *
  generalize wordCheck 2 m.data.toList = em at *
  generalize wordCheck 2 s.data.toList = es at *
  unfold maxLen at hm hs
  by_cases h1 : b < 1 ∨ 16 < b
  · rw [if_pos h1] at hE Hcs
    have HE := Lib.hid hE
    clear hE hlen h1
    go_enter Try.func40, Try.ntmps40
    go_wp2_with (go_at_call 60; go_fit (Hcs.out _); rintro e w' ⟨rfl, rfl⟩)
    go_ret
    exact ⟨ret_int HE.out.symm, Drawn.refl _⟩
  · rw [if_neg h1] at hE Hcs
    by_cases h2 : m.size = 0
    · rw [if_pos h2] at hE
      have HE := Lib.hid hE
      have hne := (str_empty m).2 h2
      clear hE hlen h1 h2
      go_enter Try.func40, Try.ntmps40
      go_wp2_with (go_at_call 60; go_fit (Hcs.out _); rintro e w' ⟨rfl, rfl⟩)
      go_ret
      exact ⟨ret_int HE.out.symm, Drawn.refl _⟩
    · rw [if_neg h2] at hE
      have hne : m.toList.isEmpty = false := by rw [Bool.eq_false_iff]; exact fun h => h2 ((str_empty m).1 h)
      by_cases h3 : 16 < m.size
      · rw [if_pos h3] at hE
        have HE := Lib.hid hE
        have h3' : (16 : Int) < (m.size : Int) := by omega
        clear hE hlen h1 h2
        go_enter Try.func40, Try.ntmps40
        go_wp2_with (go_at_call 60; go_fit (Hcs.out _); rintro e w' ⟨rfl, rfl⟩)
        go_ret
        exact ⟨ret_int HE.out.symm, Drawn.refl _⟩
      · rw [if_neg h3] at hE
        have h3' : ¬ (16 : Int) < (m.size : Int) := by omega
        by_cases h4 : em = 0
        · have h4b : (em != 0) = false := by rw [h4]; rfl
          rw [if_neg (by omega)] at hE
          have HE := Lib.hid hE
          clear hE hlen h1 h2 h4
          go_enter Try.func40, Try.ntmps40
          go_wp2_with first
            | (go_at_call 60; go_fit (Hcs.out _); rintro e w' ⟨rfl, rfl⟩)
            | (go_at_call 39; go_fit (Hm.out _); rintro e w1 ⟨rfl, hd⟩; have Hd := Lib.hid hd; clear hd)
            | (go_at_call 39; go_fit (Hs.out _); rintro e w2 ⟨rfl, hd⟩; have Hd2 := Lib.hid hd; clear hd)
          go_ret
          exact ⟨ret_int HE.out.symm, Hd.out.trans Hd2.out⟩
        · have h4b : (em != 0) = true := by rw [bne_iff_ne]; exact h4
          rw [if_pos h4] at hE
          have HE := Lib.hid hE
          clear hE hlen h1 h2 h4
          go_enter Try.func40, Try.ntmps40
          go_wp2_with first
            | (go_at_call 60; go_fit (Hcs.out _); rintro e w' ⟨rfl, rfl⟩)
            | (go_at_call 39; go_fit (Hm.out _); rintro e w1 ⟨rfl, hd⟩; have Hd := Lib.hid hd; clear hd)
          go_ret
          exact ⟨ret_int HE.out.symm, Hd.out⟩
end Go.Proofs.Ytlkajmdcffemeaa
