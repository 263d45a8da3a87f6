/- The walks of integer.length, Bits. -/
import Derived.Test.YtlkoiekdafaapaaIntB
import Derived.Test.YtlkoiekdafaapaaShelfA
namespace Go.Proofs.Ytlkoiekdafaapaa
open Go.RowKit

/-- The bits of a natural number. -/
def bitsN (v : Nat) : Nat := if (digs v).length = 0 then 0 else 32 * ((digs v).length - 1) + Lib.bitLen ((digs v).getD ((digs v).length - 1) 0)
set_option maxRecDepth 100000 in
set_option maxHeartbeats 8000000 in
theorem length_any (v : Nat) (p : Option Addr) (c : Nat) (w : World) (hX : NatsAt w p (digs v)) (hl : (digs v).length ≤ 200000000) :
    Calls Try.prog 104 #[.slice p (digs v).length c] w fun e w' => e = .returned (.int .i64 (bitsN v : Nat)) ∧ w = w' := by
  have HX := Lib.hid hX
  clear hX
  obtain ⟨n, hn⟩ : ∃ n, (digs v).length = n := ⟨_, rfl⟩
  by_cases h0 : n = 0
  · have hv : bitsN v = 0 := by unfold bitsN; rw [hn, if_pos h0]
    have Hv := Lib.hid hv
    have h1 : ((n : Int) == 0) = true := by rw [beq_iff_eq]; omega
    rw [hn]
    clear hn hv h0
    go_enter Try.func104, Try.ntmps104
    go_wp2
    go_ret
    exact ⟨by rw [Hv.out]; rfl, rfl⟩
  · obtain ⟨b, off, rfl, hbl, hcell⟩ := NatsAt.cells HX.out (k := n - 1) (by omega)
    have hx1 := hcell (n - 1) (by omega)
    obtain ⟨x, hxe⟩ : ∃ x, (digs v).getD (n - 1) 0 = x := ⟨_, rfl⟩
    rw [hxe] at hx1
    have hxl : x < 4294967296 := by rw [← hxe]; exact (dg_digs v).getD _
    have hv : bitsN v = 32 * (n - 1) + Lib.bitLen x := by unfold bitsN; rw [hn, if_neg h0, hxe]
    have Hv := Lib.hid hv
    have h1 : ((n : Int) == 0) = false := by rw [beq_eq_false_iff_ne]; omega
    have i0 : (0 : Int) ≤ (n : Int) - 1 := by omega
    have i1 : ((n : Int) - 1).toNat = n - 1 := by omega
    have hn2 : n ≤ 200000000 := by omega
    have hbx : Lib.bitLen x ≤ 32 := Lib.bitLen_le x 32 (by decide) hxl
    rw [hn]
    clear hn hv hcell hxe HX hl
    go_enter Try.func104, Try.ntmps104
    go_wp2_with (go_at_call 131; go_fit (Try.bits_Len32 (x : Int) w (by omega) (by omega)); rintro e w2 ⟨rfl, rfl⟩; rw [Int.toNat_natCast])
    go_ret
    refine ⟨?_, rfl⟩
    rw [Hv.out]
    exact ret_int (by omega)

set_option maxRecDepth 100000 in
set_option maxHeartbeats 8000000 in
theorem bits_any (z : ZI) (hz : z.mag.size ≤ 100000000) (w : World) :
    Calls Try.prog 58 #[.agg #[.bool z.neg, .string z.mag]] w fun e w' => e = .returned (.int .i64 (bitsN (absZ z) : Nat)) ∧ Below w.heap.size w w' := by
  have hl := digs_len_fit hz
  go_enter Try.func58, Try.ntmps58
  go_wp2_with first
    | (go_at_call 78; go_fit (digits_any z hz _); rintro e w2 ⟨p, c, rfl, hN, hc1, hc2, hb⟩; have HN := Lib.hid hN; have Hb := Lib.hid hb; clear hN hb)
    | (go_at_call 104; go_fit (length_any (absZ z) p c _ HN.out hl); rintro e w3 ⟨rfl, rfl⟩)
  go_ret
  exact ⟨rfl, ((Below.refl _ _).alloc (Nat.le_refl _) _).trans (Hb.out.mono (by simp))⟩
end Go.Proofs.Ytlkoiekdafaapaa
