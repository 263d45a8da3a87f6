/- The walk of integer.Of. -/
import Derived.Test.YtlkajmdcffemeaaZ
namespace Go.Proofs.Ytlkajmdcffemeaa
open Go.RowKit

theorem number_two (neg : Bool) (a b : Nat) (ha : a < 4294967296) (hb : b < 4294967296) (g : Nat) (w : World) (h0 : w.cell? ⟨g, 0, none⟩ = some (.int .u32 (a : Int))) (h1 : w.cell? ⟨g, 1, none⟩ = some (.int .u32 (b : Int))) (hg : g < w.heap.size) :
    Calls Try.prog 70 #[.bool neg, .slice (some ⟨g, 0, none⟩) 2 2] w (RetZ (mkZ neg (a + 4294967296 * b)) w) := by
  have hX : NatsAt w (some ⟨g, 0, none⟩) [a, b] := by
    refine .inr ⟨g, 0, rfl, hg, fun i hi j hj => ?_⟩
    have : j = 0 := by omega
    subst this
    match i, hi with
    | 0, _ => exact h0
    | 1, _ => exact h1
  exact number_any neg [a, b] (some ⟨g, 0, none⟩) 2 w hX (by
    intro x hx
    simp only [List.mem_cons, List.not_mem_nil, or_false] at hx
    rcases hx with rfl | rfl <;> omega) (by simp) (by decide) (by simp [val])

set_option maxRecDepth 100000 in
set_option maxHeartbeats 8000000 in
theorem of_any (n : Int) (h0 : -9223372036854775808 ≤ n) (h1 : n ≤ 9223372036854775807) (w : World) :
    Calls Try.prog 51 #[.int .i64 n] w (RetZ (canon n) w) := by
  obtain ⟨u, hu⟩ : ∃ u, n.natAbs = u := ⟨_, rfl⟩
  have hul : u ≤ 9223372036854775808 := by omega
  have hz : mkZ (decide (n < 0)) u = canon n := by
    rw [mkZ_val]
    by_cases h : n < 0
    · rw [if_pos (by simpa using h)]; congr 1; omega
    · rw [if_neg (by simpa using h)]; congr 1; omega
  obtain ⟨a, ha⟩ : ∃ a, u % 4294967296 = a := ⟨_, rfl⟩
  obtain ⟨b, hb⟩ : ∃ b, u / 4294967296 = b := ⟨_, rfl⟩
  have hal : a < 4294967296 := by omega
  have hbl : b < 4294967296 := by omega
  have hab : mkZ (decide (n < 0)) (a + 4294967296 * b) = canon n := by rw [← hz]; congr 1; omega
  have Hab := Lib.hid hab
  have ea : (u : Int) % 4294967296 = (a : Int) := by omega
  have eb : (u : Int) / 4294967296 = (b : Int) := by omega
  have eb2 : (b : Int) % 4294967296 = (b : Int) := by omega
  clear hz hab ha hb
  go_enter Try.func51, Try.ntmps51
  by_cases hneg : n < 0
  · have e1 : IntKind.u64.wrap (-IntKind.u64.wrap n) = (u : Int) := by
      simp only [IntKind.wrap, IntKind.bits, IntKind.signed, Bool.false_and, Bool.false_eq_true, if_false]; omega
    have Hab2 : Hid (mkZ true (a + 4294967296 * b) = canon n) := by rw [decide_eq_true hneg] at Hab; exact Hab
    clear hu
    go_wp2_with (go_at_call 70; go_fit (number_two true a b hal hbl (w.heap.size + 1) _ (by simp) (by simp) (by simp)); rintro e w2 ⟨rfl, hb⟩; rw [Hab2.out]; have Hb2 := Lib.hid (hb.mono (B' := w.heap.size) (by simp; omega)); have HX := Lib.hid (((BoxAt.new w (.bool false) (.string ⟨#[]⟩) 34).alloc _).below hb (by simp; omega)); obtain ⟨f0, f1, f2, f3, _⟩ := HX.out; clear hb)
    refine bodyPost_ret (v := .agg #[.bool (canon n).neg, .string (canon n).mag]) ?_ rfl ⟨rfl, ?_⟩
    · simp [results, Try.results51, go_sem, f0, f1]
    · exact (((((Below.refl _ _).alloc (Nat.le_refl _) _).alloc (by simp) _).trans Hb2.out).setCell (by simp) _).setCell (by simp) _
  · have e1 : IntKind.u64.wrap n = (u : Int) := by
      simp only [IntKind.wrap, IntKind.bits, IntKind.signed, Bool.false_and, Bool.false_eq_true, if_false]; omega
    have Hab2 : Hid (mkZ false (a + 4294967296 * b) = canon n) := by rw [decide_eq_false hneg] at Hab; exact Hab
    clear hu
    go_wp2_with (go_at_call 70; go_fit (number_two false a b hal hbl (w.heap.size + 1) _ (by simp) (by simp) (by simp)); rintro e w2 ⟨rfl, hb⟩; rw [Hab2.out]; have Hb2 := Lib.hid (hb.mono (B' := w.heap.size) (by simp; omega)); have HX := Lib.hid (((BoxAt.new w (.bool false) (.string ⟨#[]⟩) 34).alloc _).below hb (by simp; omega)); obtain ⟨f0, f1, f2, f3, _⟩ := HX.out; clear hb)
    refine bodyPost_ret (v := .agg #[.bool (canon n).neg, .string (canon n).mag]) ?_ rfl ⟨rfl, ?_⟩
    · simp [results, Try.results51, go_sem, f0, f1]
    · exact (((((Below.refl _ _).alloc (Nat.le_refl _) _).alloc (by simp) _).trans Hb2.out).setCell (by simp) _).setCell (by simp) _
end Go.Proofs.Ytlkajmdcffemeaa
