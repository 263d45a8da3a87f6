/- The walk of integer.add. -/
import Derived.Test.YtlkajmdcffemeaaInt4
import Derived.Test.YtlkajmdcffemeaaArith
namespace Go.Proofs.Ytlkajmdcffemeaa
open Go.RowKit

set_option maxRecDepth 100000 in
set_option maxHeartbeats 4000000 in
theorem add_core (sw : Bool) (xs ys : List Nat) (p q : Option Addr) (c d : Nat) (w : World) (hX : NatsAt w p xs) (hY : NatsAt w q ys) (hdx : Dg xs) (hdy : Dg ys)
    (hl : ys.length ≤ xs.length) (hsw : sw = true → ys.length < xs.length) (hx : xs.length ≤ 200000000) {v : Nat} (hv : val xs + val ys = v) :
    Calls Try.prog 101 (bif sw then #[.slice q ys.length d, .slice p xs.length c] else #[.slice p xs.length c, .slice q ys.length d]) w (RetNat v w) := by
  have hmk := make_nats .i64 .i64 (xs.length + 1) (by omega)
  simp only [Int.natCast_add, Int.cast_ofNat_Int] at hmk
  have HX := Lib.hid hX
  have HY := Lib.hid hY
  have hsum := Lib.hid (sum_all hdx hdy hl)
  have hD := Lib.hid hdx
  have hE := Lib.hid hdy
  rw [hv] at hsum
  clear hX hY hdx hdy hv
  cases sw
  case' true =>
    have hlt := hsw rfl
    simp only [cond_true]
  case' false =>
    simp only [cond_false]
  all_goals
    clear hsw
    go_enter Try.func101, Try.ntmps101
    go_wp2
    go_loopw [6, 22] (fun cv v wr => ∃ i : Nat, i ≤ xs.length ∧ v = .int .i64 i ∧ cv = .int .u64 (cr xs ys i : Nat) ∧ Below w.heap.size w wr ∧ Hid (DigBlk wr w.heap.size (fun j => if j < i then sumD xs ys j else 0) (xs.length + 1))) (fun _ v _ => xs.length - (intOf v).toNat)
    case atStart =>
      refine ⟨0, by omega, rfl, rfl, (Below.refl _ _).alloc (by simp) _, Lib.hid ?_⟩
      exact (DigBlk.new w (xs.length + 1)).congr fun j _ => rfl
    case round =>
      clear hmk
      obtain ⟨i, hi, rfl, rfl, hb, hB⟩ := hrel
      have Hb := Lib.hid hb
      clear hb
      by_cases hlt : i < xs.length
      · obtain ⟨b, off, rfl, hbl, hcell⟩ := NatsAt.cells HX.out (k := i) hlt
        have hx1 := hcell i hlt
        rw [← Hb.out.cell (p := ⟨b, _, none⟩) hbl] at hx1
        obtain ⟨x, hxe⟩ : ∃ x, xs.getD i 0 = x := ⟨_, rfl⟩
        rw [hxe] at hx1
        have hxl : x < 4294967296 := by rw [← hxe]; exact hD.out.getD i
        have hcr := cr_le hD.out hE.out i
        obtain ⟨y, hye⟩ : ∃ y, ys.getD i 0 = y := ⟨_, rfl⟩
        have hyl : y < 4294967296 := by rw [← hye]; exact hE.out.getD i
        obtain ⟨k, hk⟩ : ∃ k, cr xs ys i = k := ⟨_, rfl⟩
        have hk1 : cr xs ys (i + 1) = (k + x + y) / 4294967296 := by simp only [cr]; rw [hk, hxe, hye]
        have hs1 : sumD xs ys i = (k + x + y) % 4294967296 := by simp only [sumD]; rw [hk, hxe, hye]
        rw [hk] at hcr ⊢
        have hc0 := hB.out.cell (show i < xs.length + 1 by omega)
        simp only [Nat.lt_irrefl, if_false] at hc0
        have hf := hB.out.frozen i
        have i1 : (i : Int) < (xs.length : Int) + 1 := by omega
        have hstep : ∀ j, (if j = i then sumD xs ys i else (if j < i then sumD xs ys j else 0)) = (if j < i + 1 then sumD xs ys j else 0) := fun j => by
          by_cases h1 : j = i
          · subst h1; rw [if_pos rfl, if_pos (by omega)]
          · rw [if_neg h1]
            by_cases h2 : j < i
            · rw [if_pos h2, if_pos (by omega)]
            · rw [if_neg h2, if_neg (by omega)]
        have Hstep := Lib.hid hstep
        clear hstep
        obtain ⟨S, hS⟩ : ∃ S, sumD xs ys i = S := ⟨_, rfl⟩
        obtain ⟨C, hC⟩ : ∃ C, cr xs ys (i + 1) = C := ⟨_, rfl⟩
        have HS := Lib.hid hS
        have HC := Lib.hid hC
        rw [hS] at hs1
        rw [hC] at hk1
        have Hxe := Lib.hid hxe
        clear hcell hxe hk hS hC
        by_cases hly : i < ys.length
        · obtain ⟨b2, off2, rfl, hbl2, hcell2⟩ := NatsAt.cells HY.out (k := i) hly
          have hy1 := hcell2 i hly
          rw [← Hb.out.cell (p := ⟨b2, _, none⟩) hbl2, hye] at hy1
          have e1 : ((x : Int) + (k : Int) + (y : Int)) % 4294967296 = (S : Int) := by omega
          have e2 : ((x : Int) + (k : Int) + (y : Int)) / 4294967296 = (C : Int) := by omega
          clear hcell2 hye hk1 hs1
          go_wp2
          go_roundw
          case rel =>
            refine ⟨i + 1, by omega, by go_num, by rw [HC.out], Hb.out.setCell (p := ⟨w.heap.size, i, none⟩) (by simp) _, Lib.hid ?_⟩
            exact (hB.out.set (j := i) S).congr fun j _ => by rw [← Hstep.out j, HS.out]
          case measure => simp [intOf]; omega
        · have hy0 : y = 0 := by rw [← hye]; exact getD_over ys (by omega)
          subst hy0
          have e1 : ((x : Int) + (k : Int)) % 4294967296 = (S : Int) := by omega
          have e2 : ((x : Int) + (k : Int)) / 4294967296 = (C : Int) := by omega
          clear hye hk1 hs1
          go_wp2
          go_roundw
          case rel =>
            refine ⟨i + 1, by omega, by go_num, by rw [HC.out], Hb.out.setCell (p := ⟨w.heap.size, i, none⟩) (by simp) _, Lib.hid ?_⟩
            exact (hB.out.set (j := i) S).congr fun j _ => by rw [← Hstep.out j, HS.out]
          case measure => simp [intOf]; omega
      · obtain rfl : i = xs.length := by omega
        have hcr := cr_le hD.out hE.out xs.length
        have hlast : sumD xs ys xs.length = cr xs ys xs.length := by
          simp only [sumD]; rw [getD_over xs (Nat.le_refl _), getD_over ys hl]; omega
        have Hlast := Lib.hid hlast
        have hc0 := hB.out.cell (show xs.length < xs.length + 1 by omega)
        simp only [Nat.lt_irrefl, if_false] at hc0
        have hf := hB.out.frozen xs.length
        obtain ⟨C, hC⟩ : ∃ C, cr xs ys xs.length = C := ⟨_, rfl⟩
        rw [hC] at hcr ⊢
        have HC := Lib.hid hC
        clear hlast hC
        go_wp2_with (go_at_call 89; refine (trim_blk (F := sumD xs ys) (w0 := w) (v := v) (DigBlk.congr (hB.out.set (j := xs.length) C) ?_) ?_ ?_ (Hb.out.setCell (by simp) _) hsum.out).mono ?_)
        · intro j hj
          by_cases h1 : j = xs.length
          · subst h1; rw [if_pos rfl, Hlast.out, HC.out]
          · rw [if_neg h1, if_pos (by omega)]
        · exact fun j _ => Nat.mod_lt _ (by decide)
        · omega
        · rintro e w2 ⟨p2, c2, rfl, hN, hc1, hc2, hb2⟩
          have HN := Lib.hid hN
          have Hb2 := Lib.hid hb2
          clear hN hb2
          go_wp2
          go_ret
          exact ⟨p2, c2, rfl, HN.out, hc1, hc2, Hb2.out⟩
theorem add_any (m n : Nat) (p q : Option Addr) (c d : Nat) (w : World) (hX : NatsAt w p (digs m)) (hY : NatsAt w q (digs n)) (hm : (digs m).length ≤ 200000000) (hn : (digs n).length ≤ 200000000) :
    Calls Try.prog 101 #[.slice p (digs m).length c, .slice q (digs n).length d] w (RetNat (m + n) w) := by
  by_cases h : (digs m).length < (digs n).length
  · exact add_core true (digs n) (digs m) q p d c w hY hX (dg_digs n) (dg_digs m) (by omega) (fun _ => h) hn (by rw [val_digs, val_digs]; omega)
  · exact add_core false (digs m) (digs n) p q c d w hX hY (dg_digs m) (dg_digs n) (by omega) (fun h => by cases h) hm (by rw [val_digs, val_digs])
end Go.Proofs.Ytlkajmdcffemeaa
