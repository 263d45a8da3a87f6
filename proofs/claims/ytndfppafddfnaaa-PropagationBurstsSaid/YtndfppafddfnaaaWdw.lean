/- Plain facts on Changed: a replacement changes only what is decoded by windows that contain its block. -/
import Derived.Test.YtndfppafddfnaaaRep
namespace Go.Proofs.Ytndfppafddfnaaa
open Go.RowKit

theorem ba_ext {a b : ByteArray} (h : a.data.toList = b.data.toList) : a = b := by
  cases a; cases b
  simp only [ByteArray.mk.injEq]
  exact Array.toList_inj.1 h
theorem extract_list (s : ByteArray) (m n : Nat) : (s.extract m (m + n)).data.toList = (s.data.toList.drop m).take n := by
  rw [ByteArray.data_extract, Array.toList_extract, List.extract_eq_take_drop]
  simp
theorem replS_set (s : ByteArray) (a c : Nat) (hc : c < 16) (ha : a < s.size) : (replS s a c).data.toList = s.data.toList.set a (letters.getD c 0) := by
  rw [replS_list s a c hc, List.set_eq_take_append_cons_drop, if_pos (by simpa using ha)]
theorem replS_extract {s : ByteArray} {a c m n : Nat} (hc : c < 16) (ha : a < s.size) (h : a < m ∨ m + n ≤ a) : (replS s a c).extract m (m + n) = s.extract m (m + n) := by
  apply ba_ext
  rw [extract_list, extract_list, replS_set s a c hc ha]
  rcases h with h | h
  · rw [List.drop_set_of_lt h]
  · rw [List.drop_set]
    rw [if_neg (by omega), List.take_set_of_le (by omega)]
theorem replS_decAt {es : List Ent} {s : ByteArray} {a c m n : Nat} (hc : c < 16) (ha : a < s.size) (h : a < m ∨ m + n ≤ a) : decAt es (replS s a c) n m = decAt es s n m := by
  unfold decAt; rw [replS_extract hc ha h]

/-- Strictly increasing. -/
def Inc (l : List Int) : Prop := l.Pairwise (· < ·)
theorem inc_len : ∀ (l : List Int) (lo hi : Int), Inc l → (∀ x ∈ l, lo ≤ x ∧ x ≤ hi) → lo ≤ hi + 1 → (l.length : Int) ≤ hi - lo + 1
  | [], lo, hi, _, _, h => by simp; omega
  | x :: l, lo, hi, hp, hb, h => by
    have h1 := List.pairwise_cons.1 hp
    have hx := hb x (List.mem_cons_self ..)
    have := inc_len l (x + 1) hi h1.2 (fun y hy => ⟨by have := h1.1 y hy; omega, (hb y (List.mem_cons_of_mem _ hy)).2⟩) (by omega)
    simp only [List.length_cons]
    omega
theorem diffs_inc (a b : List Int) : Inc (diffs a b) := by
  unfold diffs diffsK Inc
  rw [List.pairwise_map]
  have h : (List.range (min a.length b.length)).Pairwise (· < ·) := List.pairwise_lt_range
  exact (h.filter _).imp fun h => by omega
theorem diffs_mem {a b : List Int} {x : Int} (h : x ∈ diffs a b) : ∃ k : Nat, x = k ∧ k < a.length ∧ k < b.length ∧ a.getD k 0 ≠ b.getD k 0 := by
  unfold diffs diffsK at h
  obtain ⟨k, hk, rfl⟩ := List.mem_map.1 h
  rw [List.mem_filter, List.mem_range] at hk
  exact ⟨k, rfl, by omega, by omega, by simpa using hk.2⟩
theorem decList_getD {b p f : Int} {es : List Ent} {s : ByteArray} {k : Nat} (h : k < (decList b p f es s).length) : (decList b p f es s).getD k 0 = decAt es s ((p + 1 + f) * b).toNat (k * b.toNat) := by
  rw [decList_len] at h
  unfold decList
  rw [List.getD_eq_getElem?_getD, List.getElem?_map, List.getElem?_range h]; rfl

theorem chErr_zero {l b i p f : Int} {es : List Ent} {s : ByteArray} {a c : Int} : chErr l b i p f es s a c = 0 ↔ decErr l b i p f es s = 0 ∧ (0 ≤ a ∧ a < s.size) ∧ (0 ≤ c ∧ c < l) := by
  unfold chErr
  by_cases h1 : decErr l b i p f es s ≠ 0
  · rw [if_pos h1]; constructor
    · intro h; exact absurd h h1
    · intro h; exact absurd h.1 h1
  rw [if_neg h1]
  by_cases h2 : a < 0 ∨ (s.size : Int) ≤ a
  · rw [if_pos h2]; constructor
    · intro h; omega
    · intro h; omega
  rw [if_neg h2]
  by_cases h3 : c < 0 ∨ l ≤ c
  · rw [if_pos h3]; constructor
    · intro h; omega
    · intro h; omega
  rw [if_neg h3]
  simp only [ne_eq, Classical.not_not] at h1
  exact ⟨fun _ => ⟨h1, by omega, by omega⟩, fun _ => rfl⟩

/-- The block of a place lies in the window of each element that is changed. -/
theorem chOut_mem {l b i p f : Int} {es : List Ent} {s : ByteArray} {a c : Int} (h0 : chErr l b i p f es s a c = 0) {x : Int} (h : x ∈ chOut l b i p f es s a c) : 0 ≤ x ∧ x ≤ a / b ∧ a / b ≤ x + p + f := by
  obtain ⟨h1, h2, h3⟩ := chErr_zero.1 h0
  obtain ⟨hl, hb, _⟩ := decCheck_ok (decErr_zero.1 h1).1
  unfold chOut at h
  rw [if_pos h0] at h
  obtain ⟨k, rfl, hk1, hk2, hne⟩ := diffs_mem h
  have he2 := replS_err (a := a.toNat) (c := c.toNat) (by omega) (by omega) (by omega) h1
  have e1 : decOut l b i p f es s = decList b p f es s := by unfold decOut; rw [if_pos h1]
  have e2 : decOut l b i p f es (replS s a.toNat c.toNat) = decList b p f es (replS s a.toNat c.toNat) := by unfold decOut; rw [if_pos he2]
  rw [e1] at hk1 hne
  rw [e2] at hk2 hne
  rw [decList_getD hk1, decList_getD hk2] at hne
  have hin : ¬ (a.toNat < k * b.toNat ∨ k * b.toNat + ((p + 1 + f) * b).toNat ≤ a.toNat) := fun hor => hne (replS_decAt (by omega) (by omega) hor).symm
  have hmul : 0 ≤ (p + 1 + f) * b := Int.mul_nonneg (by omega) (by omega)
  have hkb : ((k * b.toNat : Nat) : Int) = (k : Int) * b := by rw [Int.natCast_mul, Int.toNat_of_nonneg (by omega)]
  have g1 : (k : Int) * b ≤ a := by omega
  have g2 : a < (k : Int) * b + (p + 1 + f) * b := by omega
  refine ⟨by omega, ?_, ?_⟩
  · exact (Int.le_ediv_iff_mul_le (by omega)).2 g1
  · have : a / b < (k : Int) + (p + 1 + f) := (Int.ediv_lt_iff_lt_mul (by omega)).2 (by rw [Int.add_mul]; exact g2)
    omega
theorem chOut_inc (l b i p f : Int) (es : List Ent) (s : ByteArray) (a c : Int) : Inc (chOut l b i p f es s a c) := by
  unfold chOut
  split
  · exact diffs_inc _ _
  · exact List.Pairwise.nil
theorem chOut_len {l b i p f : Int} {es : List Ent} {s : ByteArray} {a c : Int} (h0 : chErr l b i p f es s a c = 0) : ((chOut l b i p f es s a c).length : Int) ≤ p + 1 + f := by
  obtain ⟨h1, _, _⟩ := chErr_zero.1 h0
  obtain ⟨_, hb, _⟩ := decCheck_ok (decErr_zero.1 h1).1
  have := inc_len _ (a / b - (p + f)) (a / b) (chOut_inc l b i p f es s a c) (fun x hx => by have := chOut_mem h0 hx; omega) (by omega)
  omega
theorem chOut_nil {l b i p f : Int} {es : List Ent} {s : ByteArray} {a c : Int} (h0 : chErr l b i p f es s a c ≠ 0) : chOut l b i p f es s a c = [] := by
  unfold chOut; rw [if_neg h0]
theorem inc_get {l : List Int} (h : Inc l) {k : Nat} (h0 : 0 < k) (hk : k < l.length) : l.getD (k - 1) 0 < l.getD k 0 := by
  have := List.pairwise_iff_getElem.1 h (k - 1) k (by omega) hk (by omega)
  simpa [List.getD_eq_getElem?_getD, hk, show k - 1 < l.length by omega] using this
end Go.Proofs.Ytndfppafddfnaaa
