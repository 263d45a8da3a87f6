/- grooveref49: stands, locate. -/
import Derived.Test.YtlkajmdcffemeaaQ2
import Derived.Test.YtlkajmdcffemeaaLoc
namespace Go.Proofs.Ytlkajmdcffemeaa
open Go.RowKit

/-- Whether a marker stands at a place. -/
def standsB (m s : ByteArray) (n : Nat) : Bool := decide (n + m.size ≤ s.size) && decide (s.extract n (n + m.size) = m)
theorem bytes_beq (a b : ByteArray) : (a.toList == b.toList) = decide (a = b) := by
  by_cases h : a = b
  · rw [h]; simp
  · rw [decide_eq_false h, beq_eq_false_iff_ne]
    intro h2; apply h
    rw [ByteArray.toList_eq, ByteArray.toList_eq] at h2
    exact ByteArray.ext (Array.ext' h2)
theorem fits_stands {b : Nat} {m s : ByteArray} {sh : Int} {p : Nat} (hp : p ≤ s.size) :
    fitsB b m (s.extract p s.size) sh = standsB m s (p + ((b : Int) + sh).toNat) := by
  unfold fitsB standsB
  generalize ((b : Int) + sh).toNat = k
  rw [rest_rest, rest_size]
  have hm : m.data.toList.length = m.size := by simp
  have hs : s.data.toList.length = s.size := by simp
  rw [Bool.eq_iff_iff]
  simp only [Bool.and_eq_true, decide_eq_true_eq, Lib.hasPrefix]
  rw [List.isPrefixOf_iff_prefix, rest_list]
  constructor
  · rintro ⟨h1, h2⟩
    have h3 := h2.length_le
    rw [List.length_drop, hm, hs] at h3
    refine ⟨by omega, ByteArray.ext (Array.ext' ?_)⟩
    rw [cut_list, show p + k + m.size - (p + k) = m.size from by omega, ← hm]
    exact (List.prefix_iff_eq_take.1 h2).symm
  · rintro ⟨h1, h2⟩
    refine ⟨by omega, ?_⟩
    have h4 := congrArg (fun x : ByteArray => x.data.toList) h2
    simp only [cut_list] at h4
    rw [show p + k + m.size - (p + k) = m.size from by omega] at h4
    rw [← h4]
    exact List.take_prefix _ _

set_option maxRecDepth 100000 in
set_option maxHeartbeats 4000000 in
theorem refStands_any (m s : ByteArray) (n : Nat) (hn : n ≤ 1000000000) (hm2 : m.size ≤ 1000000000) (w : World) :
    Calls Try.prog 71 #[.string s, .string m, .int .i64 (n : Int)] w fun e w' => e = .returned (.bool (standsB m s n)) ∧ w = w' := by
  unfold standsB
  by_cases h1 : n + m.size ≤ s.size
  · have h1I : (n : Int) + (m.size : Int) ≤ (s.size : Int) := by omega
    have hbq := bytes_beq (s.extract n (n + m.size)) m
    rw [decide_eq_true h1, Bool.true_and]
    obtain ⟨c, hc⟩ : ∃ c, decide (s.extract n (n + m.size) = m) = c := ⟨_, rfl⟩
    rw [hc] at hbq ⊢
    clear hc
    cases c
    all_goals
      go_enter Try.func71, Try.ntmps71
      go_wp2
      go_ret
      exact ⟨rfl, rfl⟩
  · have h1I : ¬ (n : Int) + (m.size : Int) ≤ (s.size : Int) := by omega
    rw [decide_eq_false h1, Bool.false_and]
    go_enter Try.func71, Try.ntmps71
    go_wp2
    go_ret
    exact ⟨rfl, rfl⟩
end Go.Proofs.Ytlkajmdcffemeaa
