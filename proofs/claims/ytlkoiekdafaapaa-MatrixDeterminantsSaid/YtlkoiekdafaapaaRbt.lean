/- The bits of a number; the walk of grooveref01.Bits. -/
import Derived.Lib.ItoaNum
import Derived.Test.YtlkoiekdafaapaaRA
import Derived.Test.YtlkoiekdafaapaaInt12
namespace Go.Proofs.Ytlkoiekdafaapaa
open Go.RowKit

/-- b is the length in bits of v. -/
def IsBits (v b : Nat) : Prop := v < 2 ^ b ∧ (b = 0 ∨ 2 ^ (b - 1) ≤ v)
theorem IsBits.unique {v a b : Nat} (ha : IsBits v a) (hb : IsBits v b) : a = b := by
  have key : ∀ a b : Nat, IsBits v a → IsBits v b → ¬ a < b := by
    intro a b ha hb h
    rcases hb.2 with h0 | h1
    · omega
    · have := Nat.pow_le_pow_right (n := 2) (by decide) (show a ≤ b - 1 by omega)
      exact absurd ha.1 (by omega)
  have := key a b ha hb
  have := key b a hb ha
  omega
theorem isBits_bitLen {x : Nat} (h0 : x ≠ 0) (h : x < 2 ^ 64) : IsBits x (Lib.bitLen x) ∧ 1 ≤ Lib.bitLen x := by
  obtain ⟨h1, h2, h3⟩ := Lib.bitLenAux_bounds 64 x h h0
  exact ⟨⟨h3, .inr h2⟩, h1⟩
theorem IsBits.top {d b : Nat} (h : IsBits d b) (h1 : 1 ≤ b) {e r : Nat} (hr : r < 2 ^ e) : IsBits (d * 2 ^ e + r) (e + b) := by
  obtain ⟨h2, h3⟩ := h
  have h3 : 2 ^ (b - 1) ≤ d := by rcases h3 with h | h <;> omega
  refine ⟨?_, .inr ?_⟩
  · have h4 : (d + 1) * 2 ^ e ≤ 2 ^ b * 2 ^ e := Nat.mul_le_mul_right _ h2
    rw [Nat.add_mul, Nat.one_mul] at h4
    rw [Nat.pow_add, Nat.mul_comm (2 ^ e)]
    omega
  · rw [show e + b - 1 = e + (b - 1) from by omega, Nat.pow_add, Nat.mul_comm (2 ^ e)]
    have := Nat.mul_le_mul_right (2 ^ e) h3
    omega
theorem isBits_bitsN (v : Nat) : IsBits v (bitsN v) := by
  unfold bitsN
  by_cases h : (digs v).length = 0
  · rw [if_pos h]
    rw [digs_len_pos.1 h]
    exact ⟨by decide, .inl rfl⟩
  · rw [if_neg h]
    have hv : v ≠ 0 := fun h2 => h (digs_len_pos.2 h2)
    have hl := digs_last hv
    have hx : (digs v).getD ((digs v).length - 1) 0 < 4294967296 := (dg_digs v).getD _
    obtain ⟨n, hn⟩ : ∃ n, (digs v).length = n + 1 := ⟨(digs v).length - 1, by omega⟩
    rw [hn, Nat.add_sub_cancel] at hl hx ⊢
    generalize hd : (digs v).getD n 0 = d at *
    obtain ⟨h1, h2⟩ := isBits_bitLen hl (Nat.lt_trans hx (by decide))
    have h3 := val_take_succ (xs := digs v) (k := n) (by omega)
    rw [List.take_of_length_le (by omega), val_digs, hd] at h3
    have h4 := val_take_lt (dg_digs v) n
    have h5 : (4294967296 : Nat) ^ n = 2 ^ (32 * n) := by
      rw [show (4294967296 : Nat) = 2 ^ 32 from rfl, ← Nat.pow_mul]
    rw [h5] at h3 h4
    have h6 := h1.top h2 h4
    rw [show d * 2 ^ (32 * n) + val ((digs v).take n) = v from by rw [Nat.mul_comm]; omega] at h6
    exact h6
theorem bitsN_mono {u v : Nat} (h : u ≤ v) : bitsN u ≤ bitsN v := by
  obtain ⟨_, h2⟩ := isBits_bitsN u
  obtain ⟨h3, _⟩ := isBits_bitsN v
  rcases h2 with h2 | h2
  · omega
  · by_cases h4 : bitsN u ≤ bitsN v
    · exact h4
    · have := Nat.pow_le_pow_right (n := 2) (by decide) (show bitsN v ≤ bitsN u - 1 by omega)
      omega
theorem bitsN_bytes {l : List UInt8} {c : UInt8} {r : List UInt8} {v : Nat} (hl : l = c :: r) (hc : c.toNat ≠ 0) (hv : v = bval l) : bitsN v = 8 * (l.length - 1) + Lib.bitLen c.toNat := by
  refine (isBits_bitsN v).unique ?_
  obtain ⟨h1, h2⟩ := isBits_bitLen hc (Nat.lt_trans (UInt8.toNat_lt c) (by decide))
  have h3 := bval_lt r
  rw [show (256 : Nat) ^ r.length = 2 ^ (8 * r.length) from by rw [show (256 : Nat) = 2 ^ 8 from rfl, ← Nat.pow_mul]] at h3
  have h4 := h1.top h2 h3
  rw [hl] at hv
  rw [hv, hl, List.length_cons, Nat.add_sub_cancel, bval_cons, show (256 : Nat) ^ r.length = 2 ^ (8 * r.length) from by rw [show (256 : Nat) = 2 ^ 8 from rfl, ← Nat.pow_mul]]
  exact h4
theorem beb_cons {v : Nat} (h : v ≠ 0) : ∃ c r, beb v = c :: r ∧ c.toNat ≠ 0 := by
  have h1 := beb_bval _ (beb v) rfl
  rw [bval_beb] at h1
  cases hb : beb v with
  | nil => exact absurd (beb_len_zero.1 (by rw [hb]; rfl)) h
  | cons c r =>
    refine ⟨c, r, rfl, fun h0 => ?_⟩
    have h2 : (c == 0) = true := by rw [beq_iff_eq]; exact UInt8.toNat_inj.1 h0
    rw [hb] at h1
    have h3 : (List.dropWhile (fun x => x == 0) (c :: r)).length ≤ r.length := by
      rw [List.dropWhile_cons, if_pos h2]
      exact (List.dropWhile_suffix _).length_le
    rw [← h1, List.length_cons] at h3
    omega

set_option maxRecDepth 100000 in
set_option maxHeartbeats 4000000 in
theorem refBits_any (z : ZI) (hz : z.mag.size ≤ 100000000) (w : World) :
    Calls Try.prog 13 #[.agg #[.bool z.neg, .string z.mag]] w fun e w' => e = .returned (.int .i64 (bitsN (absZ z) : Nat)) ∧ Below w.heap.size w w' := by
  have HT := Lib.hid (fun W => refTrim_any z.mag hz W)
  obtain ⟨t, ht⟩ : ∃ t : ByteArray, (⟨(beb (bval z.mag.data.toList)).toArray⟩ : ByteArray) = t := ⟨_, rfl⟩
  rw [ht] at HT
  have htl : t.data.toList = beb (absZ z) := by rw [← ht]; rfl
  have hts : t.size = (beb (absZ z)).length := by rw [← htl]; rfl
  have hle : (beb (absZ z)).length ≤ 100000000 := Nat.le_trans (beb_len z.mag.size (bval_lt z.mag.data.toList)) hz
  by_cases h0 : absZ z = 0
  · have h1 : t = ByteArray.empty := by rw [← ht, show bval z.mag.data.toList = absZ z from rfl, h0]; rfl
    have hv : bitsN (absZ z) = 0 := by rw [h0]; rfl
    have Hv := Lib.hid hv
    subst h1
    clear ht htl hts hle h0 hv
    go_enter Try.func13, Try.ntmps13
    go_wp2_with fail
    refine (HT.out _).mono ?_
    rintro e w2 ⟨rfl, rfl⟩
    dsimp only
    go_wp2
    go_ret
    refine ⟨?_, (Below.refl _ _).alloc (Nat.le_refl _) _⟩
    rw [Hv.out]; rfl
  · obtain ⟨c, r, hcr, hc⟩ := beb_cons h0
    have hlt : 0 < t.size := by rw [hts, hcr]; simp
    have hhead : (t[0]'hlt) = c := by
      have h2 := str_cons t hlt
      rw [htl, hcr] at h2
      exact (List.cons.inj h2).1.symm
    have hv := bitsN_bytes hcr hc (bval_beb (absZ z)).symm
    rw [← hts] at hv
    obtain ⟨d, hd⟩ : ∃ d, c.toNat = d := ⟨_, rfl⟩
    have hd2 : d < 256 := by rw [← hd]; exact UInt8.toNat_lt _
    rw [hd] at hv hc
    rw [← hhead] at hd
    have hne : t.toList.isEmpty = false := by
      rw [ByteArray.toList_eq, htl, hcr]
      rfl
    rw [← hts] at hle
    have hbd : Lib.bitLen d ≤ 8 := Lib.bitLen_le d 8 (by decide) hd2
    have hB : bitsN (absZ z) ≤ 800000000 := by omega
    have Hv := Lib.hid hv
    clear ht htl hts h0 hv hhead hcr hbd
    go_enter Try.func13, Try.ntmps13
    go_wp2_with fail
    refine (HT.out _).mono ?_
    rintro e w2 ⟨rfl, rfl⟩
    dsimp only
    have Hb := Lib.hid ((Below.refl w.heap.size w).alloc (Nat.le_refl _) (.cells #[.bool z.neg, .string z.mag] 27))
    go_wp2
    go_loopw [4, 5] (fun n x wr => ∃ k m : Nat, n = .int .i64 m ∧ x = .int .i64 k ∧ k < 256 ∧ m + Lib.bitLen k = bitsN (absZ z) ∧ Hid (Below w.heap.size w wr)) (fun _ x _ => (intOf x).toNat)
    case atStart => exact ⟨d, 8 * (t.size - 1), by go_num, by go_num, hd2, Hv.out.symm, Hb⟩
    case round =>
      clear Hb Hv
      obtain ⟨k, m, rfl, rfl, hk, hm, Hb⟩ := hrel
      by_cases hk0 : k = 0
      · subst hk0
        have Hm := Lib.hid hm
        clear hm
        go_wp2
        go_ret
        refine ⟨?_, Hb.out⟩
        rw [← Hm.out]; rfl
      · have k0 : (k : Int) > 0 := by omega
        have hbl := Lib.bitLen_half k hk0 (by omega)
        have hbk : Lib.bitLen k ≤ 8 := Lib.bitLen_le k 8 (by decide) hk
        have hmm : m ≤ 800000000 := by omega
        have Hm := Lib.hid (show m + 1 + Lib.bitLen (k / 2) = bitsN (absZ z) by omega)
        clear hm hbl hbk
        go_wp2
        go_roundw
        case rel => exact ⟨k / 2, m + 1, by go_num, by go_num, by omega, Hm.out, Hb⟩
        case measure => simp [intOf]; omega
end Go.Proofs.Ytlkoiekdafaapaa
