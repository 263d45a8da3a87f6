/- Plain facts: a word in which a letter has been replaced is a word again; what Changed returns. -/
import Derived.Test.YtcafeffgaokiaaaK8
import Derived.Test.YtcafeffgaokiaaaK9
namespace Go.Proofs.Ytcafeffgaokiaaa
open Go.RowKit

theorem firstFrom_zero_iff {body : Nat → Option Int} (h0 : ∀ i r, body i = some r → r ≠ 0) : ∀ m k, firstFrom body 0 m k = 0 ↔ ∀ i, k ≤ i → i < k + m → body i = none
  | 0, k => by simp [firstFrom]; omega
  | m + 1, k => by
    simp only [firstFrom]
    cases hb : body k with
    | some r => simp only; constructor
                · intro h; exact absurd h (h0 k r hb)
                · intro h; have := h k (Nat.le_refl _) (by omega); rw [hb] at this; cases this
    | none =>
      simp only
      rw [firstFrom_zero_iff h0 m (k + 1)]
      constructor
      · intro h i h1 h2
        rcases Nat.lt_or_ge k i with h3 | h3
        · exact h i (by omega) (by omega)
        · have : i = k := by omega
          subst this; exact hb
      · intro h i h1 h2; exact h i (by omega) (by omega)

/-- A letter of the alphabet of q letters. -/
def isLet (q : Int) (c : UInt8) : Prop := 0 ≤ digit c ∧ digit c < q
theorem wordCheck_zero {q : Int} {l : List UInt8} : wordCheck q l = 0 ↔ (1 ≤ q ∧ q ≤ 16) ∧ l.length ≤ 65536 ∧ ∀ i, i < l.length → isLet q (l.getD i 0) := by
  unfold wordCheck
  by_cases h1 : q < 1 ∨ 16 < q
  · rw [if_pos h1]; constructor
    · intro h; omega
    · intro h; omega
  rw [if_neg h1]
  by_cases h2 : 65536 < l.length
  · rw [if_pos h2]; constructor
    · intro h; omega
    · intro h; omega
  rw [if_neg h2]
  have hb : ∀ (i : Nat) (r : Int), (if digit (l.getD i 0) < 0 ∨ q ≤ digit (l.getD i 0) then some (13 : Int) else none) = some r → r ≠ 0 := by
    intro i r h
    split at h
    · injection h with h; omega
    · cases h
  rw [firstFrom_zero_iff hb]
  constructor
  · intro h
    refine ⟨by omega, by omega, fun i hi => ?_⟩
    have := h i (Nat.zero_le _) (by omega)
    by_cases h3 : digit (l.getD i 0) < 0 ∨ q ≤ digit (l.getD i 0)
    · rw [if_pos h3] at this; cases this
    · exact ⟨by omega, by omega⟩
  · intro ⟨_, _, h⟩ i _ hi
    have := h i (by omega)
    unfold isLet at this
    rw [if_neg (by omega)]
theorem replS_list (s : ByteArray) (a c : Nat) (hc : c < 16) : (replS s a c).data.toList = s.data.toList.take a ++ letters.getD c 0 :: s.data.toList.drop (a + 1) := by
  have hl : ∀ c, c < 16 → (({ data := #[48, 49, 50, 51, 52, 53, 54, 55, 56, 57, 97, 98, 99, 100, 101, 102] } : ByteArray).extract c (c + 1)).data.toList = [letters.getD c 0] := by decide
  have h1 : (s.extract 0 a).data.toList = s.data.toList.take a := by simp
  have h2 : (s.extract (a + 1) s.size).data.toList = s.data.toList.drop (a + 1) := by
    rw [ByteArray.data_extract, Array.toList_extract, List.extract_eq_take_drop, List.take_of_length_le]
    rw [List.length_drop]; exact Nat.le_refl _
  unfold replS
  rw [ByteArray.data_append, ByteArray.data_append, Array.toList_append, Array.toList_append, h1, h2, hl c hc]
  simp
theorem replS_size (s : ByteArray) (a c : Nat) (ha : a < s.size) (hc : c < 16) : (replS s a c).size = s.size := by
  have h : (replS s a c).data.toList.length = s.data.toList.length := by
    rw [replS_list s a c hc]
    have h : s.data.toList.length = s.size := by simp
    simp only [List.length_append, List.length_take, List.length_cons, List.length_drop]
    omega
  simpa using h
theorem digit_letter : ∀ c, c < 16 → digit (letters.getD c 0) = c := by decide
theorem replS_word {l : Int} {s : ByteArray} {a c : Nat} (ha : a < s.size) (hc : c < 16) (hcl : (c : Int) < l) (h : wordCheck l s.data.toList = 0) : wordCheck l (replS s a c).data.toList = 0 := by
  rw [wordCheck_zero] at h ⊢
  obtain ⟨h1, h2, h3⟩ := h
  have hlen : s.data.toList.length = s.size := by simp
  have hlen2 : (replS s a c).data.toList.length = s.size := by have := replS_size s a c ha hc; simpa using this
  refine ⟨h1, by omega, fun i hi => ?_⟩
  rw [hlen2] at hi
  rw [replS_list s a c hc]
  have hta : (s.data.toList.take a).length = a := by rw [List.length_take]; omega
  rcases Nat.lt_trichotomy i a with hlt | rfl | hgt
  · have : (s.data.toList.take a ++ letters.getD c 0 :: s.data.toList.drop (a + 1)).getD i 0 = s.data.toList.getD i 0 := by
      rw [List.getD_eq_getElem?_getD, List.getElem?_append_left (by omega), List.getElem?_take_of_lt hlt, List.getD_eq_getElem?_getD]
    rw [this]; exact h3 i (by omega)
  · have : (s.data.toList.take i ++ letters.getD c 0 :: s.data.toList.drop (i + 1)).getD i 0 = letters.getD c 0 := by
      rw [List.getD_eq_getElem?_getD, List.getElem?_append_right (by omega), hta]; simp
    rw [this]
    unfold isLet
    rw [digit_letter c hc]; omega
  · have : (s.data.toList.take a ++ letters.getD c 0 :: s.data.toList.drop (a + 1)).getD i 0 = s.data.toList.getD i 0 := by
      rw [List.getD_eq_getElem?_getD, List.getElem?_append_right (by omega), hta]
      obtain ⟨m, rfl⟩ : ∃ m, i = a + 1 + m := ⟨i - a - 1, by omega⟩
      rw [show a + 1 + m - a = m + 1 from by omega, List.getElem?_cons_succ, List.getElem?_drop, List.getD_eq_getElem?_getD]
    rw [this]; exact h3 i (by omega)
theorem decErr_zero {l b i p f : Int} {es : List Ent} {s : ByteArray} : decErr l b i p f es s = 0 ↔ decCheck l b i p f es = 0 ∧ wordCheck l s.data.toList = 0 ∧ (s.size : Int) % b = 0 := by
  unfold decErr
  by_cases h1 : decCheck l b i p f es ≠ 0
  · rw [if_pos h1]; constructor
    · intro h; omega
    · intro h; exact absurd h.1 h1
  rw [if_neg h1]
  by_cases h2 : wordCheck l s.data.toList ≠ 0
  · rw [if_pos h2]; constructor
    · intro h; exact absurd h h2
    · intro h; exact absurd h.2.1 h2
  rw [if_neg h2]
  by_cases h3 : (s.size : Int) % b ≠ 0
  · rw [if_pos h3]; constructor
    · intro h; omega
    · intro h; exact absurd h.2.2 h3
  rw [if_neg h3]
  simp only [ne_eq, Classical.not_not] at h1 h2 h3
  simp [h1, h2, h3]
theorem replS_err {l b i p f : Int} {es : List Ent} {s : ByteArray} {a c : Nat} (ha : a < s.size) (hc : c < 16) (hcl : (c : Int) < l) (h : decErr l b i p f es s = 0) : decErr l b i p f es (replS s a c) = 0 := by
  rw [decErr_zero] at h ⊢
  exact ⟨h.1, replS_word ha hc hcl h.2.1, by rw [replS_size s a c ha hc]; exact h.2.2⟩
theorem decList_len (b p f : Int) (es : List Ent) (s : ByteArray) : (decList b p f es s).length = winCount s.size ((p + 1 + f) * b).toNat b.toNat := by simp [decList]
theorem winCount_le {s n b : Nat} : winCount s n b ≤ s + 1 := by
  unfold winCount; split
  · have := Nat.div_le_self (s - n) b; omega
  · omega
theorem decOut_len {l b i p f : Int} {es : List Ent} {s : ByteArray} (h : decErr l b i p f es s = 0) : (decOut l b i p f es s).length = winCount s.size ((p + 1 + f) * b).toNat b.toNat := by
  unfold decOut; rw [if_pos h]; exact decList_len _ _ _ _ _
end Go.Proofs.Ytcafeffgaokiaaa
