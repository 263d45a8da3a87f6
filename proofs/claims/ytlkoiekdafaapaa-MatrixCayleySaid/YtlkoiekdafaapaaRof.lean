/- grooveref01: mag and Of of numbers of one digit. -/
import Derived.Test.YtlkoiekdafaapaaIntB
import Derived.Laws.IdiomStrings
namespace Go.Proofs.Ytlkoiekdafaapaa
open Go.RowKit

theorem beb_one {n : Nat} (h0 : n ≠ 0) (h : n < 256) : beb n = [UInt8.ofNat n] := by
  rw [beb_pos h0, Nat.div_eq_of_lt h, beb_zero, Nat.mod_eq_of_lt h]; rfl
theorem canon_zero : (canon ((0 : Nat) : Int)).mag = ⟨#[]⟩ := rfl
theorem canon_one {n : Nat} (h0 : n ≠ 0) (h : n < 256) : (canon (n : Int)).mag = ⟨#[UInt8.ofNat n]⟩ := by
  show (⟨(beb (n : Int).natAbs).toArray⟩ : ByteArray) = _
  rw [Int.natAbs_natCast, beb_one h0 h]
theorem canon_nonneg (n : Nat) : (canon (n : Int)).neg = false := by simp [canon]

set_option maxRecDepth 100000 in
set_option maxHeartbeats 4000000 in
theorem refMag_any (n : Nat) (hn : n < 256) (w : World) :
    Calls Try.prog 103 #[.int .i64 (n : Int)] w fun e w' => e = .returned (.string (canon (n : Int)).mag) ∧ Below w.heap.size w w' := by
  by_cases h0 : n = 0
  · subst h0
    rw [canon_zero]
    go_enter Try.func103, Try.ntmps103
    go_wp2
    go_ret
    exact ⟨rfl, Below.refl _ _⟩
  · rw [canon_one h0 hn]
    obtain ⟨y, hy⟩ : ∃ y : UInt8, UInt8.ofNat n = y := ⟨_, rfl⟩
    rw [hy]
    have hyn : y.toNat = n := by rw [← hy]; simp; omega
    subst hyn
    have h2 : (y.toNat : Int) < 256 := by omega
    have h3 : ((y.toNat : Int) == 0) = false := by rw [beq_eq_false_iff_ne]; omega
    have hcv := run_convert_bytes_back (P := Try.prog) (w.alloc (.cells #[.int .u8 (y.toNat : Int)] 5)) 115 9 5 ⟨w.heap.size, 0, none⟩ 1 [y] Try.underlying115 Try.underlying5 Try.underlying9 (fun j hj => by
      match j, (show j < 1 from hj) with
      | 0, _ => simp [Addr.add])
    have hcv2 : (convert 115 9 (.slice (some ⟨w.heap.size, 0, none⟩) 1 1)).run Try.prog (w.alloc (.cells #[.int .u8 (y.toNat : Int)] 5)) = .ok (.string ⟨#[y]⟩) (w.alloc (.cells #[.int .u8 (y.toNat : Int)] 5)) := hcv
    clear hcv hy
    go_enter Try.func103, Try.ntmps103
    go_wp2
    go_ret
    exact ⟨rfl, (Below.refl _ _).alloc (Nat.le_refl _) _⟩

set_option maxRecDepth 100000 in
set_option maxHeartbeats 4000000 in
theorem refOf_any (n : Nat) (hn : n < 256) (w : World) :
    Calls Try.prog 56 #[.int .i64 (n : Int)] w (RetZ (canon (n : Int)) w) := by
  have Hm := Lib.hid (refMag_any n hn)
  have hne := canon_nonneg n
  generalize canon (n : Int) = Z at *
  obtain ⟨N, M⟩ := Z
  dsimp only at *
  subst hne
  have i0 : (0 : Int) ≤ (n : Int) := by omega
  go_enter Try.func56, Try.ntmps56
  go_wp2_with (go_at_call 103; go_fit (Hm.out _); rintro e w3 ⟨rfl, hb⟩; have Hb3 := Lib.hid hb; have HA := Lib.hid ((BoxAt.new w (.bool false) (.string ⟨#[]⟩) 27).below hb (by simp)); obtain ⟨a0, a1, a2, a3, _⟩ := HA.out; clear hb)
  refine bodyPost_ret (v := .agg #[.bool false, .string M]) ?_ rfl ⟨rfl, ?_⟩
  · simp [results, Try.results56, go_sem, a0, a1]
  · have hbe : Below w.heap.size w w3 := ((Below.refl _ _).alloc (Nat.le_refl _) _).trans (Hb3.out.mono (by simp))
    exact (hbe.setCell (by simp) _).setCell (by simp) _

set_option maxRecDepth 100000 in
set_option maxHeartbeats 4000000 in
theorem refOfNeg_any (n : Nat) (h0 : 0 < n) (hn : n < 256) (w : World) :
    Calls Try.prog 56 #[.int .i64 (-(n : Int))] w (RetZ (canon (-(n : Int))) w) := by
  have Hm := Lib.hid (refMag_any n hn)
  have hne : (canon (-(n : Int))).neg = true := by
    show decide (-(n : Int) < 0) = true
    rw [decide_eq_true_eq]; omega
  have hme : (canon (n : Int)).mag = (canon (-(n : Int))).mag := by
    show (⟨(beb (n : Int).natAbs).toArray⟩ : ByteArray) = ⟨(beb (-(n : Int)).natAbs).toArray⟩
    rw [Int.natAbs_neg]
  rw [hme] at Hm
  clear hme
  generalize canon (-(n : Int)) = Z at *
  obtain ⟨N, M⟩ := Z
  dsimp only at *
  subst hne
  have i0 : ¬ (-(n : Int)) ≥ 0 := by omega
  have i1 : (-(n : Int) == -(-(n : Int))) = false := by rw [beq_eq_false_iff_ne]; omega
  have i2 : -(-(n : Int)) = (n : Int) := by omega
  go_enter Try.func56, Try.ntmps56
  go_wp2_with (go_at_call 103; go_fit (Hm.out _); rintro e w3 ⟨rfl, hb⟩; have Hb3 := Lib.hid hb; have HA := Lib.hid ((BoxAt.new w (.bool false) (.string ⟨#[]⟩) 27).below hb (by simp)); obtain ⟨a0, a1, a2, a3, _⟩ := HA.out; clear hb)
  refine bodyPost_ret (v := .agg #[.bool true, .string M]) ?_ rfl ⟨rfl, ?_⟩
  · simp [results, Try.results56, go_sem, a0, a1]
  · have hbe : Below w.heap.size w w3 := ((Below.refl _ _).alloc (Nat.le_refl _) _).trans (Hb3.out.mono (by simp))
    exact (hbe.setCell (by simp) _).setCell (by simp) _
end Go.Proofs.Ytlkoiekdafaapaa
