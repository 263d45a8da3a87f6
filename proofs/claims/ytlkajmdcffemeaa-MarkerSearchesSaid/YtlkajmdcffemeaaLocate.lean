/- The walk of marker.Locate. -/
import Derived.Test.YtlkajmdcffemeaaLoc
import Derived.Test.YtlkajmdcffemeaaChk
namespace Go.Proofs.Ytlkajmdcffemeaa
open Go.RowKit

theorem wordCheck_ok {q : Int} {s : List UInt8} (h : wordCheck q s = 0) : s.length ≤ 65536 := by
  unfold wordCheck at h
  split at h
  · cases h
  · split at h
    · cases h
    · omega
theorem mkErr_ok {b : Int} {m s : ByteArray} (h : mkErr b m.data.toList s.data.toList = 0) : (1 ≤ b ∧ b ≤ 16) ∧ (0 < m.size ∧ m.size ≤ 16) ∧ s.size ≤ 65536 := by
  have hm : m.data.toList.length = m.size := by simp
  have hs : s.data.toList.length = s.size := by simp
  unfold mkErr at h
  have h0 : mkErr0 b m.data.toList = 0 := by
    by_cases hc : mkErr0 b m.data.toList ≠ 0
    · rw [if_pos hc] at h; exact h
    · exact Classical.not_not.1 hc
  rw [if_neg (fun hc => hc h0)] at h
  have h1 := wordCheck_ok h
  rw [hs] at h1
  unfold mkErr0 at h0
  rw [hm] at h0
  split at h0
  · cases h0
  · split at h0
    · cases h0
    · split at h0
      · cases h0
      · exact ⟨by omega, by omega, h1⟩
/-- The error of Locate. -/
def locErr (b : Int) (m s : ByteArray) : Int := if mkErr b m.data.toList s.data.toList ≠ 0 then mkErr b m.data.toList s.data.toList else if okB (blksW b.toNat m s) then 0 else 20
def locOut (b : Int) (m s : ByteArray) : List Int := if locErr b m s = 0 then (blksW b.toNat m s).map (·.2) else []
/-- What a function that returns ints and an error gives. -/
def RetIntsE (E : Int) (xs : List Int) (w : World) (e : Ending) (w' : World) : Prop :=
  ∃ v, e = .returned (.tuple #[v, .int .i64 E]) ∧ (E ≠ 0 → v = .slice none 0 0) ∧ OwnInts w' w.heap.size v xs ∧ Below w.heap.size w w'

set_option maxRecDepth 100000 in
set_option maxHeartbeats 2000000 in
theorem Locate_any (b : Int) (m s : ByteArray) (hm : m.size ≤ maxLen) (hs : s.size ≤ maxLen) (w : World) :
    Calls Try.prog 13 #[.int .i64 b, .string m, .string s] w (RetIntsE (locErr b m s) (locOut b m s) w) := by
  have Hc := Lib.hid (check_mk b m s hm hs)
  obtain ⟨E, hE⟩ : ∃ E, mkErr b m.data.toList s.data.toList = E := ⟨_, rfl⟩
  rw [hE] at Hc
  by_cases hz : E = 0
  · have hz2 : (E != 0) = false := by rw [hz]; rfl
    obtain ⟨⟨hb1, hb2⟩, ⟨hm1, hm2⟩, hs2⟩ := mkErr_ok (hE.trans hz)
    obtain ⟨n, rfl⟩ : ∃ n : Nat, b = n := ⟨b.toNat, by omega⟩
    have Hl := Lib.hid (locate_any n m s (by omega) (by omega) hm1 (by omega) (by omega))
    have hle : locErr n m s = if okB (blksW n m s) then 0 else 20 := by unfold locErr; rw [hE, if_neg (fun h => h hz)]; rfl
    have HLE := Lib.hid hle
    have hlo : locOut n m s = if okB (blksW n m s) then (blksW n m s).map (·.2) else [] := by
      unfold locOut; rw [hle, Int.toNat_natCast]
      cases okB (blksW n m s) <;> simp
    have HLO := Lib.hid hlo
    generalize blksW n m s = L at *
    rw [hlo, hle]
    clear hz hE hm hs hle hlo HLE HLO
    cases hok : okB L
    · have Hok := Lib.hid hok
      clear hok
      go_enter Try.func13, Try.ntmps13
      go_wp2_with first
        | (go_at_call 40; go_fit (Hc.out _); rintro e w1 ⟨rfl, hd⟩; have Hd := Lib.hid hd; clear hd)
        | (go_at_call 41; go_fit (Hl.out _); rintro e w2 ⟨v, rfl, hv, ho, hb⟩; rw [Hok.out]; have Hv := Lib.hid (hv Hok.out); have Hb := Lib.hid hb; clear hv ho hb)
      go_ret2
      have hs := Drawn.heap Hd.out
      exact ⟨_, rfl, fun _ => rfl, OwnInts.nil _ _, (Drawn.below Hd.out _).trans (Hb.out.mono (by rw [hs]; exact Nat.le_refl _))⟩
    · have Hok := Lib.hid hok
      clear hok
      go_enter Try.func13, Try.ntmps13
      go_wp2_with first
        | (go_at_call 40; go_fit (Hc.out _); rintro e w1 ⟨rfl, hd⟩; have Hd := Lib.hid hd; clear hd)
        | (go_at_call 41; go_fit (Hl.out _); rintro e w2 ⟨v, rfl, hv, ho, hb⟩; rw [Hok.out] at ho ⊢; simp only [if_true] at ho; have Ho := Lib.hid ho; have Hb := Lib.hid hb; clear hv ho hb)
      go_ret2
      have hs := Drawn.heap Hd.out
      have ho := Ho.out
      rw [hs] at ho
      exact ⟨_, rfl, fun h => absurd rfl h, ho, (Drawn.below Hd.out _).trans (Hb.out.mono (by rw [hs]; exact Nat.le_refl _))⟩
  · have hz2 : (E != 0) = true := by rw [bne_iff_ne]; exact hz
    have hle : locErr b m s = E := by unfold locErr; rw [hE, if_pos hz]
    have hlo : locOut b m s = [] := by unfold locOut; rw [hle, if_neg hz]
    rw [hlo, hle]
    clear hz hE hm hs hle hlo
    go_enter Try.func13, Try.ntmps13
    go_wp2_with (go_at_call 40; go_fit (Hc.out _); rintro e w1 ⟨rfl, hd⟩; have Hd := Lib.hid hd; clear hd)
    go_ret2
    exact ⟨_, rfl, fun _ => rfl, OwnInts.nil _ _, Drawn.below Hd.out _⟩
end Go.Proofs.Ytlkajmdcffemeaa
