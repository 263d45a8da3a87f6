/- The walk of fine, and the contracts at square matrices of moderate size. -/
import Derived.Test.YtlkoiekdafaapaaAwm
import Derived.Test.YtlkoiekdafaapaaRck
import Derived.Test.YtlkoiekdafaapaaGrt
import Derived.Test.YtlkoiekdafaapaaDpr
namespace Go.Proofs.Ytlkoiekdafaapaa
open Go.RowKit Go.Shelf

def fineB (m : GM) (n : Int) : Bool := decide ((m.r : Int) = n) && decide (0 < m.r) && decide ((m.L 0 : Int) = n) && !m.gt && decide (m.chk = 0)
/-- What comes in: any list of lists. -/
structure GM.In (m : GM) (w : World) (p : Option Addr) : Prop where
  at' : m.At w p
  r : m.r ≤ 9223372036854775807
  z : ∀ i, i < m.r → m.L i ≤ 9223372036854775807 ∧ ∀ k, k < m.L i → (m.Z i k).mag.size ≤ 9223372036854775807
theorem GM.In.below {m : GM} {w w' : World} {p : Option Addr} (h : m.In w p) {B : Nat} (hB : w.heap.size ≤ B) (hb : Below B w w') : m.In w' p := ⟨h.at'.below hB hb, h.r, h.z⟩
theorem GM.gt_fit {m : GM} (h : m.gt = false) : m.Fit ∧ (∀ i, i < m.r → ∀ k, k < m.L i → (m.Z i k).mag.size ≤ 3) ∧ (m.r ≤ 4 ∨ 32 < m.r) := by
  unfold GM.gt at h
  split at h
  · cases h
  · rename_i h1
    rw [anyN_false] at h
    have h2 : ∀ i, i < m.r → m.L i ≤ 34 ∧ ∀ k, k < m.L i → (m.Z i k).mag.size ≤ 3 := by
      intro i hi
      have h3 := h i hi
      unfold grB at h3
      split at h3
      · cases h3
      · rename_i h4
        rw [anyN_false] at h3
        exact ⟨by omega, fun k hk => by have := h3 k hk; rw [decide_eq_false_iff_not] at this; omega⟩
    exact ⟨⟨by omega, fun i hi => ⟨by have := (h2 i hi).1; omega, fun k hk => by have := (h2 i hi).2 k hk; omega⟩⟩, fun i hi => (h2 i hi).2, by omega⟩
set_option maxRecDepth 100000 in
set_option maxHeartbeats 4000000 in
theorem fine_any (m : GM) (p : Option Addr) (cp : Nat) (n : Int) (w : World) (hm : m.In w p) :
    Calls Try.prog 25 #[.slice p m.r cp, .int .i64 n] w (RetB (fineB m n) w) := by
  have HG := Lib.hid (great_any m p cp hm.r hm.z w hm.at')
  by_cases h1 : (m.r : Int) = n
  rotate_left 1
  · have hv : fineB m n = false := by unfold fineB; rw [decide_eq_false h1]; rfl
    have e1 : ((m.r : Int) == n) = false := by rw [beq_eq_false_iff_ne]; exact h1
    rw [hv]
    clear hv HG hm h1
    generalize m.r = r at *
    go_enter Try.func25, Try.ntmps25
    go_wp2
    go_ret
    exact ⟨rfl, Below.refl _ _⟩
  subst h1
  have e1 : ((m.r : Int) == (m.r : Int)) = true := beq_self_eq_true _
  by_cases h2 : 0 < m.r
  rotate_left 1
  · have hv : fineB m m.r = false := by unfold fineB; rw [decide_eq_false h2]; simp
    have r0 : ¬ (m.r : Int) > 0 := by omega
    rw [hv]
    clear hv HG hm h2
    generalize m.r = r at *
    go_enter Try.func25, Try.ntmps25
    go_wp2
    go_ret
    exact ⟨rfl, Below.refl _ _⟩
  obtain ⟨b, off, q, c, rfl, hb, a0⟩ := GM.head hm.at' h2
  have r0 : (m.r : Int) > 0 := by omega
  have r1 : (0 : Int) < (m.r : Int) := by omega
  by_cases h3 : (m.L 0 : Int) = (m.r : Int)
  rotate_left 1
  · have hv : fineB m m.r = false := by unfold fineB; rw [decide_eq_false h3]; simp
    have e2 : ((m.L 0 : Int) == (m.r : Int)) = false := by rw [beq_eq_false_iff_ne]; exact h3
    rw [hv]
    clear hv HG hm h2 h3
    generalize m.r = r at *
    generalize m.L 0 = l at *
    go_enter Try.func25, Try.ntmps25
    go_wp2
    go_ret
    exact ⟨rfl, Below.refl _ _⟩
  have e2 : ((m.L 0 : Int) == (m.r : Int)) = true := by rw [beq_iff_eq]; exact h3
  have hv : fineB m m.r = (!m.gt && decide (m.chk = 0)) := by unfold fineB; rw [decide_eq_true h3, decide_eq_true h2, decide_eq_true rfl]; simp
  rw [hv]
  clear hv
  cases hg : m.gt
  · have HC := Lib.hid (fun (W : World) (hW : Below w.heap.size w W) => refCheck_m m (some ⟨b, off, none⟩) cp (GM.gt_fit hg).1 W (hm.at'.below (Nat.le_refl _) hW))
    rw [hg] at HG
    clear hm h2 h3 hg
    generalize m.r = r at *
    generalize m.L 0 = l at *
    generalize m.chk = v at *
    go_enter Try.func25, Try.ntmps25
    go_wp2_with fail
    refine HG.out.mono ?_
    rintro e w2 ⟨rfl, hb⟩
    dsimp only
    have Hb := Lib.hid hb
    clear hb HG
    go_wp2_with fail
    refine (HC.out w2 Hb.out).mono ?_
    rintro e w3 ⟨rfl, hb⟩
    dsimp only
    have Hb := Lib.hid (Hb.out.trans (hb.mono Hb.out.size))
    clear hb HC
    by_cases hv : v = 0
    · subst hv
      go_wp2
      go_ret
      exact ⟨rfl, Hb.out⟩
    · have e3 : (v == 0) = false := by rw [beq_eq_false_iff_ne]; exact hv
      have Hv := Lib.hid hv
      clear hv
      go_wp2
      go_ret
      exact ⟨by rw [decide_eq_false Hv.out]; rfl, Hb.out⟩
  · rw [hg] at HG
    clear hm h2 h3 hg
    generalize m.r = r at *
    generalize m.L 0 = l at *
    go_enter Try.func25, Try.ntmps25
    go_wp2_with fail
    refine HG.out.mono ?_
    rintro e w2 ⟨rfl, hb⟩
    dsimp only
    have Hb := Lib.hid hb
    clear hb HG
    go_wp2
    go_ret
    exact ⟨rfl, Hb.out⟩
end Go.Proofs.Ytlkoiekdafaapaa
