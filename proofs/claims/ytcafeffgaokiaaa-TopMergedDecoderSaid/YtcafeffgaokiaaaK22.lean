/- Sizes of what the replacements add up to; a letter by its number: plain facts. -/
import Derived.Test.YtcafeffgaokiaaaK17
namespace Go.Proofs.Ytcafeffgaokiaaa
open Go.RowKit
/-- The replacements that Greatest, Average and Worst look at. -/
def rps (l b i : Int) (m : EM) (dp df : Int) (es : List Ent) (n : Int) : List Rp := rpE (decOut l b i dp df es) l.toNat (wordsE m n.toNat)
theorem fit_ok {l b i : Int} {m : EM} {dl db di dp df : Int} {es : List Ent} {n : Int} (h : fitErr l b i m dl db di dp df es n = 0) :
    encCheck l b i m = 0 ∧ decCheck l b i dp df es = 0 ∧ dl = l ∧ db = b ∧ di = i ∧ (1 ≤ n ∧ n ≤ 16) ∧ cntV i n.toNat (m.r : Int) ≤ 4096 := by
  unfold fitErr at h
  by_cases h1 : encCheck l b i m ≠ 0 ∨ decCheck dl db di dp df es ≠ 0
  · rw [if_pos h1] at h; cases h
  rw [if_neg h1] at h
  by_cases h2 : l ≠ dl ∨ b ≠ db ∨ i ≠ di
  · rw [if_pos h2] at h; cases h
  rw [if_neg h2] at h
  by_cases h3 : n < 1 ∨ 16 < n
  · rw [if_pos h3] at h; cases h
  rw [if_neg h3] at h
  by_cases h4 : 4096 < cntV i n.toNat (m.r : Int)
  · rw [if_pos h4] at h; cases h
  simp only [ne_eq, not_or, Classical.not_not] at h1 h2
  obtain ⟨rfl, rfl, rfl⟩ := h2
  exact ⟨h1.1, h1.2, rfl, rfl, rfl, by omega, by omega⟩
theorem wordCheck_mem {q : Int} {l : List UInt8} (h : wordCheck q l = 0) : ∀ c ∈ l, isLet q c := by
  intro c hc
  obtain ⟨i, hi, rfl⟩ := List.getElem_of_mem hc
  have := (wordCheck_zero.1 h).2.2 i hi
  rwa [List.getD_eq_getElem?_getD, List.getElem?_eq_getElem hi] at this
theorem wordCheck_of {q : Int} {l : List UInt8} (h1 : 1 ≤ q ∧ q ≤ 16) (h2 : l.length ≤ 65536) (h3 : ∀ c ∈ l, isLet q c) : wordCheck q l = 0 :=
  wordCheck_zero.2 ⟨h1, h2, fun i hi => by
    rw [List.getD_eq_getElem?_getD, List.getElem?_eq_getElem hi]
    exact h3 _ (List.getElem_mem hi)⟩
theorem wordsL_let {q : Int} {m : EM} {I B : Nat} (hm : m.Ok I B) (hd : ∀ s k, s < m.r → k < m.L s → wordCheck q (m.D s k).data.toList = 0) : ∀ n s w, s < m.r → (∀ c ∈ w.data.toList, isLet q c) → ∀ x ∈ wordsL m n s w, ∀ c ∈ x.data.toList, isLet q c
  | 0, s, w, _, hw, x, hx => by rw [wordsL, List.mem_singleton] at hx; rw [hx]; exact hw
  | n + 1, s, w, hs, hw, x, hx => by
    obtain ⟨k, hk, hx⟩ := List.mem_flatMap.1 hx
    have hk := List.mem_range.1 hk
    refine wordsL_let hm hd n _ _ (hm.to1 s k hs (by rw [← hm.len s hs]; exact hk)) (fun c hc => ?_) x hx
    rw [ByteArray.data_append, Array.toList_append] at hc
    rcases List.mem_append.1 hc with h | h
    · exact hw c h
    · exact wordCheck_mem (hd s k hs hk) c h
/-- What is written can be decoded. -/
theorem words_dec {l b i : Int} {m : EM} {dp df : Int} {es : List Ent} {n : Nat} (he : encCheck l b i m = 0) (hd : decCheck l b i dp df es = 0) (hn : n ≤ 16) : ∀ x ∈ wordsE m n, x.size = n * b.toNat ∧ decErr l b i dp df es x = 0 := by
  intro x hx
  obtain ⟨hl, hb, hi, hr, hm, hw⟩ := encCheck_ok he
  obtain ⟨s, hs, hx⟩ := List.mem_flatMap.1 hx
  have hs := List.mem_range.1 hs
  have hz := wordsL_size hm n s _ hs x hx
  have h0 : ByteArray.empty.size = 0 := rfl
  rw [h0, Nat.zero_add] at hz
  have hnb : n * b.toNat ≤ 16 * 16 := Nat.mul_le_mul hn (by omega)
  refine ⟨hz, decErr_zero.2 ⟨hd, wordCheck_of hl ?_ (wordsL_let hm hw n s _ hs (fun c hc => by cases hc) x hx), ?_⟩⟩
  · have : x.data.toList.length = x.size := by simp
    omega
  · obtain ⟨B, rfl⟩ : ∃ B : Nat, b = B := ⟨b.toNat, by omega⟩
    rw [hz, Int.toNat_natCast, Int.natCast_mul]
    exact Int.mul_emod_left _ _
end Go.Proofs.Ytcafeffgaokiaaa
