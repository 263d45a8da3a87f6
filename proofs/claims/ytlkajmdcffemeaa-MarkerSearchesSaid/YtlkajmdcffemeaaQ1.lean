/- grooveref49: check, checkWord, track; grooveref07.Long. -/
import Derived.Test.YtlkajmdcffemeaaIns
import Derived.Test.YtlkajmdcffemeaaJoin
namespace Go.Proofs.Ytlkajmdcffemeaa
open Go.RowKit

/-- Longer than n letters, but not so much longer that each check refuses it. -/
def longB (n : Int) (s : ByteArray) : Bool := (decide (n < (s.size : Int)) && decide ((s.size : Int) ≤ 65536)) || decide ((65544 : Int) < (s.size : Int))

set_option maxRecDepth 100000 in
set_option maxHeartbeats 4000000 in
theorem long_any (n : Int) (s : ByteArray) (w : World) :
    Calls Try.prog 14 #[.string s, .int .i64 n] w fun e w' => e = .returned (.bool (longB n s)) ∧ w = w' := by
  unfold longB
  by_cases h1 : n < (s.size : Int)
  · by_cases h2 : (s.size : Int) ≤ 65536
    · rw [decide_eq_true h1, decide_eq_true h2]
      go_enter Try.func14, Try.ntmps14
      go_wp2
      go_ret
      exact ⟨rfl, rfl⟩
    · have e : (decide (n < (s.size : Int)) && decide ((s.size : Int) ≤ 65536) || decide ((65544 : Int) < (s.size : Int))) = decide ((65544 : Int) < (s.size : Int)) := by rw [decide_eq_false h2, Bool.and_false, Bool.false_or]
      rw [e]
      clear e
      go_enter Try.func14, Try.ntmps14
      go_wp2
      go_ret
      exact ⟨rfl, rfl⟩
  · have e : (decide (n < (s.size : Int)) && decide ((s.size : Int) ≤ 65536) || decide ((65544 : Int) < (s.size : Int))) = decide ((65544 : Int) < (s.size : Int)) := by rw [decide_eq_false h1, Bool.false_and, Bool.false_or]
    rw [e]
    clear e
    go_enter Try.func14, Try.ntmps14
    go_wp2
    go_ret
    exact ⟨rfl, rfl⟩

set_option maxRecDepth 100000 in
set_option maxHeartbeats 4000000 in
theorem refCheck49_any (b : Int) (m : ByteArray) (hm : m.size ≤ maxLen) (w : World) :
    Calls Try.prog 48 #[.int .i64 b, .string m] w fun e w' => e = .returned (.int .i64 (mkErr0 b m.data.toList)) ∧ w = w' := by
  have hlen : m.data.toList.length = m.size := by simp
  have hE : mkErr0 b m.data.toList = if b < 1 ∨ 16 < b then 2 else if m.size = 0 then 5 else if 16 < m.size then 4 else wordCheck 2 m.data.toList := by
    unfold mkErr0; rw [hlen]
  have Hm := Lib.hid (refCheck7_any 2 m hm)
  generalize mkErr0 b m.data.toList = E at *
  generalize wordCheck 2 m.data.toList = em at *
  by_cases h1 : b < 1
  · rw [if_pos (.inl h1)] at hE
    rw [hE]
    clear hE hlen
    go_enter Try.func48, Try.ntmps48
    go_wp2
    go_ret
    exact ⟨rfl, rfl⟩
  · by_cases h2 : 16 < b
    · rw [if_pos (.inr h2)] at hE
      rw [hE]
      clear hE hlen
      go_enter Try.func48, Try.ntmps48
      go_wp2
      go_ret
      exact ⟨rfl, rfl⟩
    · rw [if_neg (by omega)] at hE
      by_cases h3 : m.size = 0
      · have hne : m.toList.isEmpty = true := (str_empty m).2 h3
        rw [if_pos h3] at hE
        rw [hE]
        clear hE hlen
        go_enter Try.func48, Try.ntmps48
        go_wp2
        go_ret
        exact ⟨rfl, rfl⟩
      · have hne : m.toList.isEmpty = false := by rw [Bool.eq_false_iff]; exact fun h => h3 ((str_empty m).1 h)
        rw [if_neg h3] at hE
        by_cases h4 : 16 < m.size
        · have h4I : (16 : Int) < (m.size : Int) := by omega
          rw [if_pos h4] at hE
          rw [hE]
          clear hE hlen
          go_enter Try.func48, Try.ntmps48
          go_wp2
          go_ret
          exact ⟨rfl, rfl⟩
        · have h4I : ¬ (16 : Int) < (m.size : Int) := by omega
          rw [if_neg h4] at hE
          rw [hE]
          clear hE hlen
          go_enter Try.func48, Try.ntmps48
          go_wp2_with (go_at_call 64; go_fit (Hm.out _); rintro e w' ⟨rfl, rfl⟩)
          go_ret
          exact ⟨rfl, rfl⟩

set_option maxRecDepth 100000 in
set_option maxHeartbeats 4000000 in
theorem refCheckWord_any (b : Int) (m s : ByteArray) (hm : m.size ≤ maxLen) (hs : s.size ≤ maxLen) (w : World) :
    Calls Try.prog 44 #[.int .i64 b, .string m, .string s] w fun e w' => e = .returned (.int .i64 (mkErr b m.data.toList s.data.toList)) ∧ w = w' := by
  have Hc := Lib.hid (refCheck49_any b m hm)
  have Hs := Lib.hid (refCheck7_any 2 s hs)
  unfold mkErr
  generalize mkErr0 b m.data.toList = E at *
  generalize wordCheck 2 s.data.toList = es at *
  by_cases hz : E = 0
  · have hz2 : (E != 0) = false := by rw [hz]; rfl
    rw [if_neg (fun h => h hz)]
    go_enter Try.func44, Try.ntmps44
    go_wp2_with first
      | (go_at_call 48; go_fit (Hc.out _); rintro e w' ⟨rfl, rfl⟩)
      | (go_at_call 64; go_fit (Hs.out _); rintro e w' ⟨rfl, rfl⟩)
    go_ret
    exact ⟨rfl, rfl⟩
  · have hz2 : (E != 0) = true := by rw [bne_iff_ne]; exact hz
    rw [if_pos hz]
    go_enter Try.func44, Try.ntmps44
    go_wp2_with first
      | (go_at_call 48; go_fit (Hc.out _); rintro e w' ⟨rfl, rfl⟩)
      | (go_at_call 64; go_fit (Hs.out _); rintro e w' ⟨rfl, rfl⟩)
    go_ret
    exact ⟨rfl, rfl⟩

theorem refTrack_any (m : ByteArray) (xs : List ByteArray) (p : Option Addr) (c : Nat) (w : World) (hX : StrsAt w p xs) (hl : xs.length ≤ 1000000000) (ht : (trackL m xs).length ≤ 1000000000000) :
    Calls Try.prog 45 #[.string m, .slice p xs.length c] w fun e w' => e = .returned (.string ⟨(trackL m xs).toArray⟩) ∧ w = w' := by
  have HX := Lib.hid hX
  clear hX
  go_enter Try.func45, Try.ntmps45
  go_wp2
  go_loop [5, 6] (fun v i => ∃ (k : Nat) (a : ByteArray), k ≤ xs.length ∧ i = .int .i64 k ∧ v = .string a ∧ Hid (a = ⟨(trackL m (xs.take k)).toArray⟩)) (fun _ i => xs.length - (intOf i).toNat)
  case atStart => exact ⟨0, _, by omega, rfl, rfl, Lib.hid rfl⟩
  case round =>
    obtain ⟨k, a, hk, rfl, rfl, ha⟩ := hrel
    by_cases hlt : k < xs.length
    · obtain ⟨b, off, rfl, hbl, hcell⟩ := StrsAt.cells HX.out hlt
      have hx := hcell k hlt
      obtain ⟨x, hxe⟩ : ∃ x, xs.getD k ByteArray.empty = x := ⟨_, rfl⟩
      rw [hxe] at hx
      have htk := Lib.hid (trackL_succ (m := m) hlt)
      have hsum : a.size + x.size + m.size ≤ 1000000000000 := by
        have h1 := trackL_take_le m xs (k + 1)
        rw [htk.out, List.length_append, hxe] at h1
        have e1 : (x ++ m).data.toList.length = x.size + m.size := by rw [ByteArray.data_append]; simp
        have e2 : a.size = (trackL m (xs.take k)).length := by rw [ha.out]; rfl
        omega
      have hsum1 : ¬ 9223372036854775807 < a.size + x.size := by omega
      have hsum2 : ¬ 9223372036854775807 < (a ++ x).size + m.size := by rw [ByteArray.size_append]; omega
      have hsum3 : ¬ 9223372036854775807 < a.size + x.size + m.size := by omega
      have hiI : (k : Int) < (xs.length : Int) := by omega
      have Hxe := Lib.hid hxe
      clear hcell hxe
      go_wp2
      go_round
      case rel =>
        refine ⟨k + 1, _, by omega, by go_num, rfl, Lib.hid ?_⟩
        rw [htk.out, bytes_append, ← ha.out, Hxe.out, ByteArray.append_assoc]
      case measure => simp [intOf]; omega
    · have hkI : ¬ (k : Int) < (xs.length : Int) := by omega
      have Ha : Hid (a = ⟨(trackL m xs).toArray⟩) := Lib.hid (by rw [ha.out, List.take_of_length_le (by omega)])
      clear ha
      go_wp2
      go_ret
      exact ⟨by rw [← Ha.out]; rfl, rfl⟩
end Go.Proofs.Ytlkajmdcffemeaa
