/- Common facts of the laws of chapter 23; slices.Max. -/
import Derived.Test.YtlaoijfphkhchaaB42
import Derived.Test.YtlaoijfphkhchaaB43
import Derived.Lib.Slices
namespace Go.Proofs.Ytlaoijfphkhchaa
open Go.RowKit Go.Shelf
theorem not_any_zero0 {u : Nat → Int} {N : Nat} (h : ∀ s, s < N → u s = 0) : (!anyN (fun k => u k != 0) N) = true := by
  rw [anyN_false.2 fun k hk => by rw [h k hk]; rfl]; rfl
theorem vChk_of {LL : Int} {N n m : Nat} {E : Nat → Nat → Int} (hg : gChk LL N n E = 0) (hm0 : 1 ≤ m) (hm : m ≤ 256) {u : Nat → Int} (hu : ∀ s, s < N → 0 ≤ u s ∧ u s ≤ 4096) : vChk LL N n E m N u = 0 := vChk_ok hg (by omega) (by omega) rfl hu
theorem ckV_zero5 {fr te : Nat → Nat} {n N m : Nat} {u : Nat → Int} (h : anyN (fun k => u k != 0) N = false) : ckV fr te n N m u = 5 := by unfold ckV; rw [if_pos h]
theorem ckV_ok {fr te : Nat → Nat} {n N m : Nat} {u : Nat → Int} (h : anyN (fun k => u k != 0) N = true) (hu : Hld fr te n N m u) : ckV fr te n N m u = 0 := by
  unfold ckV
  rw [if_neg (by rw [h]; exact Bool.noConfusion), anyN_false.2 fun k hk => decide_eq_false (by have := (hu k hk).2; omega)]
  rfl
theorem any_ne {u : Nat → Int} {N : Nat} (h : ∃ s, s < N ∧ u s ≠ 0) : anyN (fun k => u k != 0) N = true := by
  obtain ⟨s, hs, hne⟩ := h
  exact anyN_true.2 ⟨s, hs, by rw [bne_iff_ne]; exact hne⟩
theorem any_le {f g : Nat → Int} {N : Nat} (h : ∀ s, s < N → f s ≤ g s) : (!anyN (fun k => decide (g k < f k)) N) = true := by
  rw [anyN_false.2 fun k hk => decide_eq_false (by have := h k hk; omega)]; rfl
theorem GrO.exists {fr te : Nat → Nat} {n N m : Nat} (hm : 0 < m) (ht : ∀ e, e < n → te e < N) : ∀ (k : Nat) (x : Nat → Int), szE x N ≤ k → (∀ s, s < N → 0 ≤ x s) → ∃ u, GrO fr te n N m x u := by
  intro k
  induction k with
  | zero =>
    intro x hk h0
    by_cases hf : ∀ s, s < N → stE fr te n m x s = x s
    · exact ⟨x, GrO.self (stE_fix hm h0 hf)⟩
    · have := stE_less ht h0 hf
      omega
  | succ k ih =>
    intro x hk h0
    by_cases hf : ∀ s, s < N → stE fr te n m x s = x s
    · exact ⟨x, GrO.self (stE_fix hm h0 hf)⟩
    · have h1 := stE_less ht h0 hf
      obtain ⟨u, h2, h3, h4⟩ := ih (stE fr te n m x) (by omega) (fun s hs => stE_nonneg ht h0 hs)
      exact ⟨u, fun s hs => Int.le_trans (h2 s hs) (stE_le x s), h3, fun y hy hl => h4 y hy (stE_keep hm ht hy hl)⟩
/-- The greatest component. -/
def mxV (u : Nat → Int) (N : Nat) : Int := Lib.maxOf (vecL u N)
theorem mxV_spec (u : Nat → Int) (N : Nat) (h0 : 0 < N) : (∀ s, s < N → u s ≤ mxV u N) ∧ ∃ s, s < N ∧ u s = mxV u N := by
  suffices h : ∀ k, 0 < k → k ≤ N → (∀ s, s < k → u s ≤ Lib.maxOf ((vecL u N).take k)) ∧ ∃ s, s < k ∧ u s = Lib.maxOf ((vecL u N).take k) by
    have := h N h0 (Nat.le_refl _)
    rw [List.take_of_length_le (by rw [vecL_len]; exact Nat.le_refl _)] at this
    exact this
  intro k
  induction k with
  | zero => intro h; omega
  | succ k ih =>
    intro _ hk
    by_cases e : k = 0
    · subst e
      rw [Lib.maxOf_one, vecL_get u N h0]
      exact ⟨fun s hs => by rw [show s = 0 by omega]; exact Int.le_refl _, 0, by omega, rfl⟩
    · obtain ⟨a, s, hs, hb⟩ := ih (by omega) (by omega)
      rw [Lib.maxOf_step _ k (by omega) (by rw [vecL_len]; omega), vecL_get u N (by omega)]
      refine ⟨fun t ht => ?_, ?_⟩
      · by_cases e2 : t = k
        · rw [e2]; omega
        · have := a t (by omega); omega
      · by_cases h : Lib.maxOf ((vecL u N).take k) ≤ u k
        · exact ⟨k, by omega, by omega⟩
        · exact ⟨s, by omega, by omega⟩
theorem max_any (N : Nat) (u : Nat → Int) (q : Option Addr) (c : Nat) (h0 : 0 < N) (hN : N ≤ 1000000) (w : World) (hV : VRow w q N u) :
    Calls Try.prog 31 #[.slice q N c] w fun e w' => e = .returned (.int .i64 (mxV u N)) ∧ w' = w := by
  obtain ⟨b, off, rfl, _, hc⟩ := VRow.cells hV h0
  have h := Try.slices_Max_int b off N c (vecL u N) w h0 (by rw [vecL_len]; exact Nat.le_refl _) (by omega) (fun j hj => by rw [vecL_len] at hj; rw [vecL_get u N hj]; exact hc j hj)
  rw [List.take_of_length_le (by rw [vecL_len]; exact Nat.le_refl _)] at h
  exact h
end Go.Proofs.Ytlaoijfphkhchaa
