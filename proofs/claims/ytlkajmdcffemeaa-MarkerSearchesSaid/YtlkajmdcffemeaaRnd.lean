/- Plain laws of tracks: words of bits, their joining, their markers. -/
import Derived.Test.YtlkajmdcffemeaaJoin
import Derived.Test.YtlkajmdcffemeaaRem
import Derived.Test.YtlkajmdcffemeaaInsert
namespace Go.Proofs.Ytlkajmdcffemeaa

/-- Letters of the alphabet of two. -/
def okL (l : List UInt8) : Prop := ∀ c ∈ l, 0 ≤ digit c ∧ digit c < 2
theorem firstFrom_all {body : Nat → Option Int} {d : Int} : ∀ (m k : Nat), (∀ i, k ≤ i → i < k + m → body i = none) → firstFrom body d m k = d
  | 0, _, _ => rfl
  | m + 1, k, h => by
    simp only [firstFrom, h k (Nat.le_refl _) (by omega)]
    exact firstFrom_all m (k + 1) fun i h1 h2 => h i (by omega) (by omega)
theorem firstFrom_none_of {body : Nat → Option Int} {d : Int} (hd : ∀ i r, body i = some r → r ≠ d) : ∀ (m k : Nat), firstFrom body d m k = d → ∀ i, k ≤ i → i < k + m → body i = none
  | 0, _, _ => fun i h1 h2 => by omega
  | m + 1, k, h => fun i h1 h2 => by
    simp only [firstFrom] at h
    cases hb : body k with
    | some r => rw [hb] at h; exact absurd h (hd k r hb)
    | none =>
      rw [hb] at h
      by_cases e : i = k
      · rw [e]; exact hb
      · exact firstFrom_none_of hd m (k + 1) h i (by omega) (by omega)
theorem wordCheck_two {l : List UInt8} (hl : l.length ≤ 65536) : wordCheck 2 l = 0 ↔ okL l := by
  unfold wordCheck
  rw [if_neg (by decide), if_neg (by omega)]
  constructor
  · intro h c hc
    obtain ⟨i, hi, rfl⟩ := List.getElem_of_mem hc
    have := firstFrom_none_of (by
      intro i r hr
      split at hr
      · cases hr; decide
      · cases hr) _ _ h i (Nat.zero_le _) (by omega)
    rw [List.getD_eq_getElem?_getD, List.getElem?_eq_getElem hi] at this
    simp only [Option.getD_some] at this
    split at this
    · cases this
    · omega
  · intro h
    refine firstFrom_all _ _ fun i _ hi => ?_
    have hi' : i < l.length := by omega
    have := h l[i] (List.getElem_mem hi')
    rw [List.getD_eq_getElem?_getD, List.getElem?_eq_getElem hi']
    simp only [Option.getD_some]
    rw [if_neg (by omega)]
theorem okL_append {l r : List UInt8} (h : okL l) (k : okL r) : okL (l ++ r) := fun c hc => (List.mem_append.1 hc).elim (h c) (k c)
theorem okL_bits (b n : Nat) : okL (blkW b n).data.toList := by
  intro c hc
  obtain ⟨i, _, rfl⟩ := List.mem_map.1 (show c ∈ (List.range b).map fun i => UInt8.ofNat (48 + n / 2 ^ i % 2) from by simpa [blkW] using hc)
  have h : n / 2 ^ i % 2 = 0 ∨ n / 2 ^ i % 2 = 1 := by omega
  rcases h with h | h <;> rw [h] <;> decide
theorem okL_flat {xs : List ByteArray} (h : ∀ x ∈ xs, okL x.data.toList) : okL (joinL xs) := by
  intro c hc
  obtain ⟨x, hx, hcx⟩ := List.mem_flatMap.1 hc
  exact h x hx c hcx
theorem blkW_size (b n : Nat) : (blkW b n).size = b := by
  show (((List.range b).map fun i => UInt8.ofNat (48 + n / 2 ^ i % 2)).toArray).size = b
  simp
theorem blkWs_size (b : Nat) (l : List Nat) : ∀ x ∈ blkWs b l, x.size = b := by
  intro x hx
  obtain ⟨n, _, rfl⟩ := List.mem_map.1 hx
  exact blkW_size b n
theorem blkWs_ok (b : Nat) (l : List Nat) : ∀ x ∈ blkWs b l, okL x.data.toList := by
  intro x hx
  obtain ⟨n, _, rfl⟩ := List.mem_map.1 hx
  exact okL_bits b n
theorem joinL_len {n : Nat} : ∀ {xs : List ByteArray}, (∀ x ∈ xs, x.size = n) → (joinL xs).length = xs.length * n
  | [], _ => by simp [joinL]
  | x :: xs, h => by
    have ih := joinL_len (fun y hy => h y (List.mem_cons_of_mem _ hy))
    have e : joinL (x :: xs) = x.data.toList ++ joinL xs := rfl
    have e2 : x.data.toList.length = x.size := by simp
    rw [e, List.length_append, e2, h x (List.mem_cons_self ..), ih, List.length_cons, Nat.add_mul, Nat.one_mul, Nat.add_comm]
/-- The word of words, cut into them again. -/
theorem chunks_join {n : Nat} (hn : 0 < n) : ∀ {xs : List ByteArray}, (∀ x ∈ xs, x.size = n) → chunksW n ⟨(joinL xs).toArray⟩ = xs
  | [], _ => by rw [chunksW_nil (by rfl)]
  | x :: xs, h => by
    have ih := chunks_join hn (fun y hy => h y (List.mem_cons_of_mem _ hy))
    have e : joinL (x :: xs) = x.data.toList ++ joinL xs := rfl
    have e2 : x.data.toList.length = n := by rw [← h x (List.mem_cons_self ..)]; simp
    have hsz : (⟨(joinL (x :: xs)).toArray⟩ : ByteArray).size = n + (joinL xs).length := by
      show (joinL (x :: xs)).toArray.size = _
      rw [e]; simp [e2]
    rw [chunksW_step hn (by rw [hsz]; omega)]
    congr 1
    · apply ByteArray.ext
      rw [ByteArray.data_extract, e]
      apply Array.ext'
      simp [← e2]
    · refine Eq.trans ?_ ih
      rw [hsz]
      congr 1
      apply ByteArray.ext
      rw [ByteArray.data_extract, e]
      apply Array.ext'
      simp [← e2]
theorem trackL_join (m : ByteArray) (xs : List ByteArray) : trackL m xs = joinL (xs.map (· ++ m)) := by
  unfold trackL joinL
  rw [List.flatMap_map]
end Go.Proofs.Ytlkajmdcffemeaa
