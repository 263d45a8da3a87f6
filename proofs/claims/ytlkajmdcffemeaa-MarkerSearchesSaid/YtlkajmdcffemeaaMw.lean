/- Markers by their numbers: plain laws. -/
import Derived.Test.YtlkajmdcffemeaaPlain
namespace Go.Proofs.Ytlkajmdcffemeaa

def bitN (n k t : Nat) : Nat := k / 2 ^ (n - 1 - t) % 2
/-- The letters of the marker of n letters with the number k. -/
def mkL (n k : Nat) : List UInt8 := (List.range n).map fun t => UInt8.ofNat (48 + bitN n k t)
def mkW (n k : Nat) : ByteArray := ⟨(mkL n k).toArray⟩
theorem mkL_len (n k : Nat) : (mkL n k).length = n := by simp [mkL]
theorem mkW_size (n k : Nat) : (mkW n k).size = n := by show ((mkL n k).toArray).size = n; simp [mkL_len]
theorem mkL_get {n k t : Nat} (h : t < n) : (mkL n k)[t]? = some (UInt8.ofNat (48 + bitN n k t)) := by
  unfold mkL; rw [List.getElem?_map, List.getElem?_range h]; rfl
theorem mkL_getD {n k t : Nat} (h : t < n) : (mkL n k).getD t 0 = UInt8.ofNat (48 + bitN n k t) := by
  rw [List.getD_eq_getElem?_getD, mkL_get h]; rfl
theorem bitN_lt (n k t : Nat) : bitN n k t < 2 := Nat.mod_lt _ (by decide)

/-- Behind the letter i all letters are 1. -/
def Tail1 (n k i : Nat) : Prop := k % 2 ^ (n - 1 - i) = 2 ^ (n - 1 - i) - 1
theorem tail1_last (n k : Nat) : Tail1 n k (n - 1) := by unfold Tail1; rw [Nat.sub_self]; simp [Nat.mod_one]
theorem tail1_step {n k i : Nat} (hi : i + 1 < n) (h : Tail1 n k (i + 1)) (hb : bitN n k (i + 1) ≠ 0) : Tail1 n k i := by
  unfold Tail1 bitN at *
  obtain ⟨e, he⟩ : ∃ e, n - 1 - (i + 1) = e := ⟨_, rfl⟩
  rw [he] at h hb
  rw [show n - 1 - i = e + 1 from by omega, Nat.mod_pow_succ, h]
  have h1 : k / 2 ^ e % 2 = 1 := by omega
  rw [h1, Nat.pow_succ]
  have : 0 < 2 ^ e := Nat.two_pow_pos e
  omega
theorem tail1_all {n k : Nat} (hn : 0 < n) (hk : k < 2 ^ n) (h : Tail1 n k 0) (hb : bitN n k 0 ≠ 0) : k + 1 = 2 ^ n := by
  unfold Tail1 bitN at *
  obtain ⟨e, rfl⟩ : ∃ e, n = e + 1 := ⟨n - 1, by omega⟩
  rw [show e + 1 - 1 - 0 = e from by omega] at h hb
  have h2 : k % 2 ^ (e + 1) = k := Nat.mod_eq_of_lt hk
  rw [Nat.mod_pow_succ, h] at h2
  have h1 : k / 2 ^ e % 2 = 1 := by omega
  rw [h1] at h2
  rw [Nat.pow_succ]
  have : 0 < 2 ^ e := Nat.two_pow_pos e
  omega
/-- The next marker of as many letters. -/
theorem next_at {n k i : Nat} (hi : i < n) (h1 : Tail1 n k i) (h0 : bitN n k i = 0) (hk : k < 2 ^ n) :
    mkL n (k + 1) = (mkL n k).take i ++ 49 :: List.replicate (n - 1 - i) 48 ∧ k + 1 < 2 ^ n := by
  unfold Tail1 at h1
  obtain ⟨e, he⟩ : ∃ e, n - 1 - i = e := ⟨_, rfl⟩
  have h0' : k / 2 ^ e % 2 = 0 := by rw [← he]; exact h0
  rw [he] at h1
  have hpe : 0 < 2 ^ e := Nat.two_pow_pos e
  obtain ⟨q, hq⟩ : ∃ q, k / 2 ^ e / 2 = q := ⟨_, rfl⟩
  have hd : k / 2 ^ e = 2 * q := by omega
  have hk1 : k = 2 ^ e * (2 * q) + (2 ^ e - 1) := by
    have := Nat.div_add_mod k (2 ^ e)
    rw [hd, h1] at this; exact this.symm
  have hk2 : k + 1 = 2 ^ e * (2 * q + 1) := by rw [Nat.mul_add, Nat.mul_one]; omega
  constructor
  · apply List.ext_getElem?
    intro t
    by_cases ht : t < n
    · rw [mkL_get ht]
      rcases Nat.lt_trichotomy t i with hti | hti | hti
      · rw [List.getElem?_append_left (by rw [List.length_take, mkL_len]; omega), List.getElem?_take, if_pos hti, mkL_get ht]
        congr 3
        unfold bitN
        obtain ⟨d, hd2⟩ : ∃ d, n - 1 - t = e + 1 + d := ⟨n - 1 - t - (e + 1), by omega⟩
        rw [hd2, Nat.pow_add, Nat.pow_add, ← Nat.div_div_eq_div_mul, ← Nat.div_div_eq_div_mul, ← Nat.div_div_eq_div_mul, ← Nat.div_div_eq_div_mul]
        have a1 : (k + 1) / 2 ^ e = 2 * q + 1 := by rw [hk2]; exact Nat.mul_div_cancel_left _ hpe
        rw [a1, hd]
        congr 2
        omega
      · subst hti
        rw [List.getElem?_append_right (by rw [List.length_take, mkL_len]; omega), List.length_take, mkL_len, Nat.min_eq_left (by omega), Nat.sub_self]
        simp only [List.getElem?_cons_zero]
        unfold bitN
        rw [he, hk2, Nat.mul_div_cancel_left _ hpe]
        rw [show (2 * q + 1) % 2 = 1 from by omega]; rfl
      · rw [List.getElem?_append_right (by rw [List.length_take, mkL_len]; omega), List.length_take, mkL_len, Nat.min_eq_left (by omega)]
        obtain ⟨j, hj⟩ : ∃ j, t - i = j + 1 := ⟨t - i - 1, by omega⟩
        rw [hj, List.getElem?_cons_succ, List.getElem?_replicate, if_pos (by omega)]
        unfold bitN
        obtain ⟨d, hd2⟩ : ∃ d, e = (n - 1 - t) + 1 + d := ⟨e - (n - 1 - t) - 1, by omega⟩
        have : (k + 1) / 2 ^ (n - 1 - t) % 2 = 0 := by
          rw [hk2, hd2, Nat.add_assoc, Nat.pow_add, Nat.mul_assoc, Nat.mul_div_cancel_left _ (Nat.two_pow_pos _), Nat.pow_add, Nat.pow_one, Nat.mul_assoc, Nat.mul_mod_right]
        rw [this]; rfl
    · rw [List.getElem?_eq_none (by rw [mkL_len]; omega), List.getElem?_eq_none]
      rw [List.length_append, List.length_take, mkL_len, List.length_cons, List.length_replicate]; omega
  · have hp : 2 ^ n = 2 ^ e * 2 ^ (i + 1) := by rw [← Nat.pow_add]; congr 1; omega
    have hlt0 : 2 ^ e * (2 * q) < 2 ^ e * 2 ^ (i + 1) := by rw [hp] at hk; omega
    have hlt : 2 * q < 2 ^ (i + 1) := Nat.lt_of_mul_lt_mul_left hlt0
    rw [hp, hk2]
    refine Nat.mul_lt_mul_of_pos_left ?_ hpe
    rw [Nat.pow_succ] at *
    omega
theorem mkL_zero (n : Nat) : mkL n 0 = List.replicate n 48 := by
  rw [List.eq_replicate_iff]
  refine ⟨mkL_len n 0, fun c hc => ?_⟩
  obtain ⟨t, _, rfl⟩ := List.mem_map.1 hc
  unfold bitN; rw [Nat.zero_div]; rfl
/-- The marker behind a marker, by its numbers. -/
def nextW (n k : Nat) : ByteArray := if k + 1 < 2 ^ n then mkW n (k + 1) else mkW (n + 1) 0
theorem nextW_at {n k i : Nat} (hi : i < n) (h1 : Tail1 n k i) (h0 : bitN n k i = 0) (hk : k < 2 ^ n) : nextW n k = ⟨((mkL n k).take i ++ 49 :: List.replicate (n - 1 - i) 48).toArray⟩ := by
  obtain ⟨a, b⟩ := next_at hi h1 h0 hk
  unfold nextW; rw [if_pos b]; unfold mkW; rw [a]
theorem nextW_all {n k : Nat} (hn : 0 < n) (hk : k < 2 ^ n) (h : Tail1 n k 0) (hb : bitN n k 0 ≠ 0) : nextW n k = ⟨(List.replicate (n + 1) 48).toArray⟩ := by
  have := tail1_all hn hk h hb
  unfold nextW; rw [if_neg (by omega)]; unfold mkW; rw [mkL_zero]
end Go.Proofs.Ytlkajmdcffemeaa
