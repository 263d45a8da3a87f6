/- The walk of integer.shift. -/
import Derived.Test.YtcafeffgaokiaaaJ25
import Derived.Test.YtcafeffgaokiaaaJ14
namespace Go.Proofs.Ytcafeffgaokiaaa
open Go.RowKit
def RetShift (xs : List Nat) (n : Nat) (w : World) (e : Ending) (w' : World) : Prop :=
  ∃ g, e = .returned (.slice (some ⟨g, 0, none⟩) (xs.length + 1) (xs.length + 1)) ∧ w.heap.size ≤ g ∧ DigBlk w' g (shU xs n) (xs.length + 1) ∧ Below w.heap.size w w'
set_option maxRecDepth 100000 in
set_option maxHeartbeats 4000000 in
theorem shift_any (xs : List Nat) (n : Nat) (p : Option Addr) (c : Nat) (w : World) (hX : NatsAt w p xs) (hdx : Dg xs) (hn : n ≤ 31) (hx : xs.length ≤ 200000000) :
    Calls Try.prog 146 #[.slice p xs.length c, .int .i64 (n : Int)] w (RetShift xs n w) := by
  have hmk := make_nats .i64 .i64 (xs.length + 1) (by omega)
  simp only [Int.natCast_add, Int.cast_ofNat_Int] at hmk
  have HX := Lib.hid hX
  have hD := Lib.hid hdx
  have HL := Lib.hid (shU_last hdx hn)
  have HC9 := Lib.hid (fun i => shC_lt hdx n i)
  have hp := pow31 hn
  have hn0 : (0 : Int) ≤ (n : Int) := by omega
  obtain ⟨P, hP⟩ : ∃ P, 2 ^ n = P := ⟨_, rfl⟩
  have hPi : ((2 : Int) ^ n) = (P : Int) := by rw [← hP]; simp
  have HP := Lib.hid hP
  rw [hP] at hp HC9
  clear hX hdx hP
  unfold RetShift
  go_enter Try.func146, Try.ntmps146
  go_wp2
  go_loopw [6, 16] (fun cv v wr => ∃ i : Nat, i ≤ xs.length ∧ v = .int .i64 i ∧ cv = .int .u64 (shC xs n i : Nat) ∧ Below w.heap.size w wr ∧ Hid (DigBlk wr w.heap.size (fun j => if j < i then shU xs n j else 0) (xs.length + 1))) (fun _ v _ => xs.length - (intOf v).toNat)
  case atStart =>
    refine ⟨0, by omega, rfl, rfl, (Below.refl _ _).alloc (by simp) _, Lib.hid ?_⟩
    exact (DigBlk.new w (xs.length + 1)).congr fun j _ => rfl
  case round =>
    clear hmk
    obtain ⟨i, hi, rfl, rfl, hb, hB⟩ := hrel
    have Hb := Lib.hid hb
    clear hb
    by_cases hlt : i < xs.length
    · obtain ⟨b, off, rfl, hbl, hcell⟩ := NatsAt.cells HX.out (k := i) hlt
      have hx1 := hcell i hlt
      rw [← Hb.out.cell (p := ⟨b, _, none⟩) hbl] at hx1
      obtain ⟨x, hxe⟩ : ∃ x, xs.getD i 0 = x := ⟨_, rfl⟩
      rw [hxe] at hx1
      have hxl : x < 4294967296 := by rw [← hxe]; exact hD.out.getD i
      have hcr := HC9.out i
      obtain ⟨k, hk⟩ : ∃ k, shC xs n i = k := ⟨_, rfl⟩
      obtain ⟨T, hT⟩ : ∃ T, x * P + k = T := ⟨_, rfl⟩
      have hk1 : shC xs n (i + 1) = T / 4294967296 := by simp only [shC]; rw [hk, hxe, HP.out, hT]
      have hs1 : shU xs n i = T % 4294967296 := by simp only [shU]; rw [hk, hxe, HP.out, hT]
      rw [hk] at hcr ⊢
      have hc0 := hB.out.cell (show i < xs.length + 1 by omega)
      simp only [Nat.lt_irrefl, if_false] at hc0
      have hf := hB.out.frozen i
      have i1 : (i : Int) < (xs.length : Int) + 1 := by omega
      have Hstep := Lib.hid (fun j => stepF (shU xs n) i j)
      have hxP : x * P ≤ 4294967295 * 2147483648 := Nat.mul_le_mul (by omega) hp
      have hor : bits .or .u64 ((x : Int) * (P : Int)) (k : Int) = (T : Int) := by
        have h1 : ((x : Int) * (P : Int)) = ((x * P : Nat) : Int) := by simp
        rw [h1, u64_or_nat _ _ (by omega) (by omega), ← hT, ← HP.out]
        have h2 := Nat.two_pow_add_eq_or_of_lt (i := n) (b := k) (by rw [HP.out]; exact hcr) x
        rw [Nat.mul_comm] at h2
        rw [← h2]
      have hsm : ((x : Int) * (P : Int)) % 18446744073709551616 = (x : Int) * (P : Int) := by
        have h1 : ((x : Int) * (P : Int)) = ((x * P : Nat) : Int) := by simp
        rw [h1]; omega
      have hTl : T < 18446744073709551616 := by omega
      obtain ⟨S, hS⟩ : ∃ S, shU xs n i = S := ⟨_, rfl⟩
      obtain ⟨C, hC⟩ : ∃ C, shC xs n (i + 1) = C := ⟨_, rfl⟩
      have HS := Lib.hid hS
      have HC := Lib.hid hC
      rw [hS] at hs1
      rw [hC] at hk1
      have e1 : (T : Int) % 4294967296 = (S : Int) := by omega
      have e2 : (T : Int) / 4294967296 = (C : Int) := by omega
      clear hcell hxe hk hS hC hT hk1 hs1 hxP
      go_wp2
      go_roundw
      case rel =>
        refine ⟨i + 1, by omega, by go_num, by rw [HC.out], Hb.out.setCell (p := ⟨w.heap.size, i, none⟩) (by simp) _, Lib.hid ?_⟩
        exact (hB.out.set (j := i) S).congr fun j _ => by rw [← Hstep.out j, HS.out]
      case measure => simp [intOf]; omega
    · obtain rfl : i = xs.length := by omega
      have hcr := HC9.out xs.length
      have hc0 := hB.out.cell (show xs.length < xs.length + 1 by omega)
      simp only [Nat.lt_irrefl, if_false] at hc0
      have hf := hB.out.frozen xs.length
      obtain ⟨C, hC⟩ : ∃ C, shC xs n xs.length = C := ⟨_, rfl⟩
      rw [hC] at hcr ⊢
      have HC := Lib.hid hC
      clear hC
      go_wp2
      go_ret
      refine ⟨w.heap.size, rfl, Nat.le_refl _, DigBlk.congr (hB.out.set (j := xs.length) C) ?_, Hb.out.setCell (by simp) _⟩
      intro j hj
      by_cases h1 : j = xs.length
      · subst h1; rw [if_pos rfl, HL.out, HC.out]
      · rw [if_neg h1, if_pos (by omega)]
end Go.Proofs.Ytcafeffgaokiaaa
