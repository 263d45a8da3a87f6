/- Plain facts of the statements' own words and markers: no error. -/
import Derived.Test.YtlkajmdcffemeaaNxt
import Derived.Test.YtlkajmdcffemeaaRnd2
import Derived.Test.YtlkajmdcffemeaaFine
namespace Go.Proofs.Ytlkajmdcffemeaa
open Go.RowKit

theorem max2 {P : Program} (ts : Array TypeId) (t : TypeId) (w : World) : (Builtin.max_ ts t #[.int .i64 0, .int .i64 0]).run P w = .ok (.int .i64 0) w := by rfl
theorem wds_bits {b : Nat} {xs : List Nat} (h : xs.length ≤ 8) : Wds b (blkWs b xs) := ⟨by unfold blkWs; rw [List.length_map]; exact h, blkWs_size b xs, blkWs_ok b xs⟩
theorem fine_facts {x : Nat} : 1 ≤ fineN x ∧ fineN x ≤ 6 := by unfold fineN; omega
theorem below_then {w0 w w' : World} {B : Nat} (h : Below B w0 w) (hB : B ≤ w.heap.size) (hb : Below w.heap.size w w') : Below B w0 w' := h.trans (hb.mono hB)
theorem size_list0 (s : ByteArray) : s.data.toList.length = s.size := by simp
theorem wordsErr_fine {b m : Nat} {ws : List ByteArray} (hb : b ≤ 6) (hm : m ≤ 8) (hw : Wds b ws) : wordsErr b m ws = 0 := by
  unfold wordsErr
  rw [firstFrom_all]
  · rw [if_neg]
    have := Nat.mul_le_mul hw.len (show b + m ≤ 14 by omega)
    omega
  · intro i _ hi
    have hmem := getD_mem ws i ByteArray.empty (by omega)
    have h1 := hw.size _ hmem
    have h2 : wordCheck 2 (ws.getD i ByteArray.empty).data.toList = 0 := (wordCheck_two (by rw [size_list0]; omega)).2 (hw.ok _ hmem)
    show (if wordCheck 2 (ws.getD i ByteArray.empty).data.toList ≠ 0 then _ else if (ws.getD i ByteArray.empty).size ≠ b then _ else _) = _
    rw [if_neg (fun h => h h2), if_neg (fun h => h h1)]
theorem validErr_fine {b : Nat} {m : ByteArray} {ws : List ByteArray} (hb : 1 ≤ b ∧ b ≤ 6) (hm : fineB m = true) (hw : Wds b ws) : validErr (b : Int) m ws = 0 := by
  have h0 : mkErr0 (b : Int) m.data.toList = 0 := by rw [← mkErr_nil]; exact mkErr_fine hb hm (by simp) (by intro c hc; cases hc)
  unfold validErr
  rw [if_neg (fun h => h h0), Int.toNat_natCast]
  exact wordsErr_fine hb.2 (fine_marker hm).2.1 hw

theorem mkErr0_mk {b n k : Nat} (hb : 1 ≤ b ∧ b ≤ 6) (hn : 1 ≤ n ∧ n ≤ 16) : mkErr0 (b : Int) (mkW n k).data.toList = 0 := by
  have hl : (mkW n k).data.toList.length = n := mkL_len n k
  unfold mkErr0
  rw [hl, if_neg (by omega), if_neg (by omega), if_neg (by omega)]
  exact check_mkW n k (by omega)
theorem validErr_mk {b n k : Nat} {ws : List ByteArray} (hb : 1 ≤ b ∧ b ≤ 6) (hn : 1 ≤ n ∧ n ≤ 8) (hw : Wds b ws) : validErr (b : Int) (mkW n k) ws = 0 := by
  unfold validErr
  rw [if_neg (fun h => h (mkErr0_mk hb ⟨hn.1, by omega⟩)), Int.toNat_natCast, mkW_size]
  exact wordsErr_fine hb.2 hn.2 hw
theorem srchErr_fine {b M : Nat} {ws : List ByteArray} (hb : 1 ≤ b ∧ b ≤ 6) (hM : 1 ≤ M ∧ M ≤ 8) (hw : Wds b ws) : srchErr (b : Int) (M : Int) ws = 0 := by
  unfold srchErr
  rw [if_neg (by omega), if_neg (by omega), Int.toNat_natCast, Int.toNat_natCast]
  exact wordsErr_fine hb.2 hM.2 hw
theorem srch_more {b M : Nat} {ws : List ByteArray} {s s' : ByteArray} {E' : Int} (h : SrchP b M ws s 0) (h' : SrchP b (M + 1) ws s' E') : s' = s ∧ E' = 0 := by
  have h2 : SrchP b (M + 1) ws s 0 := by
    rcases h with ⟨_, n, k, h1, h2, h3⟩ | ⟨h, _⟩
    · exact .inl ⟨rfl, n, k, h1, by omega, h3⟩
    · cases h
  obtain ⟨h3, h4⟩ := srch_unique h' h2
  exact ⟨h3, h4⟩
/-- The numbers of the next marker. -/
theorem nextW_cases (n k : Nat) (hk : k < 2 ^ n) : ∃ n' k', nextW n k = mkW n' k' ∧ k' < 2 ^ n' ∧ 2 ^ n' + k' = 2 ^ n + k + 1 ∧ ((n' = n ∧ k' = k + 1) ∨ (n' = n + 1 ∧ k' = 0 ∧ k + 1 = 2 ^ n)) := by
  unfold nextW
  by_cases h : k + 1 < 2 ^ n
  · rw [if_pos h]; exact ⟨n, k + 1, rfl, h, by omega, .inl ⟨rfl, rfl⟩⟩
  · rw [if_neg h]; exact ⟨n + 1, 0, rfl, Nat.two_pow_pos _, by rw [Nat.pow_succ]; omega, .inr ⟨rfl, rfl, by omega⟩⟩
theorem pow_mono_lt {n n' k : Nat} (hk : k < 2 ^ n) (h : n < n') : 2 ^ n + k < 2 ^ n' := by
  have : 2 ^ (n + 1) ≤ 2 ^ n' := Nat.pow_le_pow_right (by decide) h
  rw [Nat.pow_succ] at this; omega
end Go.Proofs.Ytlkajmdcffemeaa
