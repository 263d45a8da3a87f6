/- The walk of integer.digits. -/
import Derived.Test.YtlkajmdcffemeaaInt2
import Derived.Laws.BitsAllLaws
namespace Go.Proofs.Ytlkajmdcffemeaa
open Go.RowKit

theorem bval_cons (c : UInt8) (l : List UInt8) : bval (c :: l) = c.toNat * 256 ^ l.length + bval l := by
  have h : ∀ (l : List UInt8) (a : Nat), l.foldl (fun a c => a * 256 + c.toNat) a = a * 256 ^ l.length + bval l := by
    intro l
    induction l with
    | nil => intro a; simp [bval]
    | cons d l ih =>
      intro a
      have h1 := ih (a * 256 + d.toNat)
      have h2 := ih d.toNat
      simp only [bval, List.foldl_cons, List.length_cons, Nat.zero_mul, Nat.zero_add] at h1 h2 ⊢
      rw [h1, h2, Nat.pow_succ, Nat.add_mul, Nat.mul_assoc, Nat.mul_comm 256]
      omega
  have := h l c.toNat
  simpa [bval] using this
/-- The value of the last i bytes. -/
def lowB (l : List UInt8) (i : Nat) : Nat := bval (l.drop (l.length - i))
theorem lowB_zero (l : List UInt8) : lowB l 0 = 0 := by simp [lowB, bval]
theorem lowB_all (l : List UInt8) : lowB l l.length = bval l := by simp [lowB]
theorem lowB_lt (l : List UInt8) {i : Nat} (h : i ≤ l.length) : lowB l i < 256 ^ i := by
  have := bval_lt (l.drop (l.length - i))
  rw [List.length_drop, show l.length - (l.length - i) = i from by omega] at this
  exact this
theorem lowB_succ (l : List UInt8) {i : Nat} (h : i < l.length) : lowB l (i + 1) = (l.getD (l.length - 1 - i) 0).toNat * 256 ^ i + lowB l i := by
  unfold lowB
  rw [show l.length - (i + 1) = l.length - 1 - i from by omega, List.drop_eq_getElem_cons (by omega), bval_cons, List.length_drop,
    show l.length - (l.length - 1 - i + 1) = i from by omega, show l.length - 1 - i + 1 = l.length - i from by omega,
    List.getD_eq_getElem?_getD, List.getElem?_eq_getElem (by omega)]; rfl
/-- Digit q of a number. -/
def dig (L q : Nat) : Nat := L / 4294967296 ^ q % 4294967296
theorem dig_lt (L q : Nat) : dig L q < 4294967296 := Nat.mod_lt _ (by decide)

theorem base_pow (q : Nat) : (4294967296 : Nat) ^ q = 256 ^ (4 * q) := by rw [Nat.pow_mul]
theorem dig_step {L c i : Nat} (hL : L < 256 ^ i) (hc : c < 256) (j : Nat) : dig (c * 256 ^ i + L) j = if j = i / 4 then dig L j + c * 256 ^ (i % 4) else dig L j := by
  unfold dig
  rw [base_pow]
  rcases Nat.lt_trichotomy j (i / 4) with h | h | h
  · rw [if_neg (by omega)]
    obtain ⟨m, hm⟩ : ∃ m, i = 4 * j + 4 + m := ⟨i - 4 * j - 4, by omega⟩
    rw [hm, Nat.pow_add, Nat.pow_add, show c * (256 ^ (4 * j) * 256 ^ 4 * 256 ^ m) + L = L + 256 ^ (4 * j) * (4294967296 * (c * 256 ^ m)) from by
      rw [show (256 : Nat) ^ 4 = 4294967296 from by decide]
      rw [Nat.add_comm]; congr 1; simp only [Nat.mul_comm, Nat.mul_left_comm, Nat.mul_assoc],
      Nat.add_mul_div_left _ _ (Nat.pow_pos (by decide)), Nat.add_mul_mod_self_left]
  · rw [if_pos h]
    have h3 : i = 4 * j + i % 4 := by omega
    have h4 : L / 256 ^ (4 * j) < 256 ^ (i % 4) := by
      apply Nat.div_lt_of_lt_mul
      rw [← Nat.pow_add, ← h3]; exact hL
    have h5 : (256 : Nat) ^ (i % 4 + 1) ≤ 256 ^ 4 := Nat.pow_le_pow_right (by decide) (by omega)
    rw [Nat.pow_succ, show (256 : Nat) ^ 4 = 4294967296 from by decide] at h5
    have h6 : c * 256 ^ (i % 4) + 256 ^ (i % 4) ≤ 256 ^ (i % 4) * 256 := by
      have : (c + 1) * 256 ^ (i % 4) ≤ 256 * 256 ^ (i % 4) := Nat.mul_le_mul_right _ (by omega)
      rw [Nat.add_mul, Nat.mul_comm 256] at this; omega
    have e0 : c * 256 ^ i + L = L + 256 ^ (4 * j) * (c * 256 ^ (i % 4)) := by
      rw [Nat.add_comm]; congr 1
      rw [Nat.mul_left_comm, ← Nat.pow_add, ← h3]
    have e1 : (L / 256 ^ (4 * j) + c * 256 ^ (i % 4)) % 4294967296 = L / 256 ^ (4 * j) + c * 256 ^ (i % 4) := Nat.mod_eq_of_lt (by omega)
    have e2 : L / 256 ^ (4 * j) % 4294967296 = L / 256 ^ (4 * j) := Nat.mod_eq_of_lt (by omega)
    rw [e0, Nat.add_mul_div_left _ _ (Nat.pow_pos (by decide)), e1, e2]
  · rw [if_neg (by omega)]
    have h1 : c * 256 ^ i + L < 256 ^ (i + 1) := by
      have : (c + 1) * 256 ^ i ≤ 256 * 256 ^ i := Nat.mul_le_mul_right _ (by omega)
      rw [Nat.pow_succ]; rw [Nat.add_mul] at this; omega
    have h2 : (256 : Nat) ^ (i + 1) ≤ 256 ^ (4 * j) := Nat.pow_le_pow_right (by decide) (by omega)
    rw [Nat.div_eq_of_lt (by omega), Nat.div_eq_of_lt (by omega)]
theorem val_snoc (xs : List Nat) (d : Nat) : val (xs ++ [d]) = val xs + 4294967296 ^ xs.length * d := by
  induction xs with
  | nil => simp [val]
  | cons x xs ih => simp only [List.cons_append, val, ih, List.length_cons, Nat.pow_succ, Nat.mul_add, Nat.mul_assoc, Nat.mul_left_comm]; omega
theorem val_dig (L n : Nat) : val (digList (dig L) n) = L % 4294967296 ^ n := by
  induction n with
  | zero => simp [digList, val]; omega
  | succ n ih =>
    unfold digList at ih ⊢
    rw [List.range_succ, List.map_append, List.map_cons, List.map_nil, val_snoc, ih, List.length_map, List.length_range, Nat.mod_pow_succ]; rfl
theorem or_digit {D c r : Nat} (hD : D < 256 ^ r) (hc : c < 256) (hr : r < 4) : bits .or .u32 (D : Int) ((c : Int) * 2 ^ (8 * r) % 4294967296) = ((D + c * 256 ^ r : Nat) : Int) := by
  have hp : (256 : Nat) ^ r = 2 ^ (8 * r) := by rw [Nat.pow_mul]
  have h5 : (256 : Nat) ^ (r + 1) ≤ 256 ^ 4 := Nat.pow_le_pow_right (by decide) (by omega)
  rw [Nat.pow_succ, show (256 : Nat) ^ 4 = 4294967296 from by decide] at h5
  have h6 : c * 256 ^ r + 256 ^ r ≤ 256 ^ r * 256 := by
    have : (c + 1) * 256 ^ r ≤ 256 * 256 ^ r := Nat.mul_le_mul_right _ (by omega)
    rw [Nat.add_mul, Nat.mul_comm 256] at this; omega
  have hpos : 0 < 256 ^ r := Nat.pow_pos (by decide)
  have e1 : (c : Int) * 2 ^ (8 * r) % 4294967296 = ((c * 256 ^ r : Nat) : Int) := by
    rw [hp] at h5 h6 hpos ⊢
    have h7 : ((c : Int) * 2 ^ (8 * r)) = ((c * 2 ^ (8 * r) : Nat) : Int) := by simp
    rw [h7]; omega
  rw [e1, u32_or_nat _ _ (by omega) (by omega)]
  congr 1
  rw [Nat.or_comm, Nat.mul_comm c, hp, ← Nat.two_pow_add_eq_or_of_lt (by rw [← hp]; exact hD)]
  omega

set_option maxRecDepth 100000 in
set_option maxHeartbeats 2000000 in
theorem digits_any (z : ZI) (hz : z.mag.size ≤ 100000000) (w : World) :
    Calls Try.prog 98 #[.agg #[.bool z.neg, .string z.mag]] w (RetNat (absZ z) w) := by
  obtain ⟨n, hn⟩ : ∃ n, (z.mag.size + 3) / 4 = n := ⟨_, rfl⟩
  have hnI : ((z.mag.size : Int) + 3) / 4 = (n : Int) := by omega
  have hmk := make_nats .i64 .i64 n (by omega)
  go_enter Try.func98, Try.ntmps98
  go_wp2
  go_loopw [15] (fun v wr => ∃ i : Nat, i ≤ z.mag.size ∧ v = .int .i64 i ∧ Below (w.heap.size + 1) (w.alloc (.cells #[.bool z.neg, .string z.mag] 34)) wr ∧ Hid (DigBlk wr (w.heap.size + 1) (dig (lowB z.mag.data.toList i)) n)) (fun v _ => z.mag.size - (intOf v).toNat)
  case atStart =>
    refine ⟨0, by omega, rfl, (Below.refl _ _).alloc (by simp) _, Lib.hid ?_⟩
    have := (DigBlk.new (w.alloc (.cells #[.bool z.neg, .string z.mag] 34)) n)
    rw [World.size_alloc] at this
    exact this.congr fun j _ => by rw [lowB_zero]; simp [dig]
  case round =>
    have Hn := Lib.hid hn
    clear hmk hn hnI
    obtain ⟨i, hi, rfl, hb, hD⟩ := hrel
    obtain ⟨⟨c0, c1⟩, hsz, hbw⟩ := box2 hb
    have Hb := Lib.hid hb
    have Hbw := Lib.hid hbw
    clear hb hbw
    by_cases hlt : i < z.mag.size
    · have hq : i / 4 < n := by have := Hn.out; omega
      have hc := hD.out.cell hq
      have hf := hD.out.frozen (i / 4)
      obtain ⟨D, hDD⟩ : ∃ D, dig (lowB z.mag.data.toList i) (i / 4) = D := ⟨_, rfl⟩
      rw [hDD] at hc
      have i1 : (0 : Int) ≤ (z.mag.size : Int) - 1 - (i : Int) := by omega
      have i2 : (z.mag.size : Int) - 1 - (i : Int) < (z.mag.size : Int) := by omega
      have i3 : ((z.mag.size : Int) - 1 - (i : Int)).toNat = z.mag.size - 1 - i := by omega
      have i4 : ((i : Int) / 4).toNat = i / 4 := by omega
      have i5 : (0 : Int) ≤ (i : Int) / 4 := by omega
      have i6 : (i : Int) / 4 < (n : Int) := by have := Hn.out; omega
      obtain ⟨c, hcc⟩ : ∃ c, (z.mag[z.mag.size - 1 - i]'(by omega)).toNat = c := ⟨_, rfl⟩
      have hc256 : c < 256 := by rw [← hcc]; exact UInt8.toNat_lt _
      have hlen : z.mag.data.toList.length = z.mag.size := by simp
      have hLi := lowB_lt z.mag.data.toList (i := i) (by omega)
      have hDlt : D < 256 ^ (i % 4) := by
        rw [← hDD]
        unfold dig
        refine Nat.lt_of_le_of_lt (Nat.mod_le _ _) ?_
        rw [base_pow]
        apply Nat.div_lt_of_lt_mul
        rw [← Nat.pow_add, show 4 * (i / 4) + i % 4 = i from by omega]; exact hLi
      have hor := or_digit hDlt hc256 (show i % 4 < 4 by omega)
      have hstep : ∀ j, dig (lowB z.mag.data.toList (i + 1)) j = if j = i / 4 then D + c * 256 ^ (i % 4) else dig (lowB z.mag.data.toList i) j := fun j => by
        have h1 := lowB_succ z.mag.data.toList (i := i) (by omega)
        rw [hlen] at h1
        have h2 : (z.mag.data.toList.getD (z.mag.size - 1 - i) 0).toNat = c := by
          rw [List.getD_eq_getElem?_getD, List.getElem?_eq_getElem (by omega), ← hcc]; rfl
        rw [h2] at h1
        rw [h1, dig_step hLi hc256 j]
        by_cases hj : j = i / 4
        · rw [if_pos hj, if_pos hj, hj, hDD]
        · rw [if_neg hj, if_neg hj]
      have Hstep := Lib.hid hstep
      have Hor := Lib.hid hor
      clear hDD hDlt hstep hlen hor hLi
      go_wp2_with fail
      go_region
      rw [Hor.out]
      go_wp2
      go_roundw
      case rel =>
        refine ⟨i + 1, by omega, by go_num, (Hb.out.setCell (p := ⟨w.heap.size + 1, i / 4, none⟩) (by simp) _).drew, Lib.hid ?_⟩
        have := hD.out.set (j := i / 4) (D + c * 256 ^ (i % 4))
        exact (DigBlk.drew this).congr fun j _ => (Hstep.out j).symm
      case measure => simp [intOf]; omega
    · have hie : i = z.mag.size := by omega
      have hv : val (digList (dig (lowB z.mag.data.toList i)) n) = absZ z := by
        have hlen : z.mag.data.toList.length = z.mag.size := by simp
        rw [val_dig, hie, ← hlen, lowB_all, Nat.mod_eq_of_lt]; rfl
        rw [base_pow]
        exact Nat.lt_of_lt_of_le (bval_lt _) (Nat.pow_le_pow_right (by decide) (by have := Hn.out; omega))
      have Hv := Lib.hid hv
      clear hv hie
      go_wp2_with fail
      refine (trim_blk hD.out (fun j _ => dig_lt _ _) (by have := Hn.out; omega) Hbw.out Hv.out).mono ?_
      rintro e w2 ⟨p, c, rfl, hN, hc1, hc2, hb2⟩
      have HN := Lib.hid hN
      have Hb2 := Lib.hid hb2
      clear hN hb2
      go_wp2
      go_ret
      exact ⟨p, c, rfl, HN.out, hc1, hc2, Hb2.out⟩
end Go.Proofs.Ytlkajmdcffemeaa
