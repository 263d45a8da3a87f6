/- The walk of integer.subtract. -/
import Derived.Test.YtlkajmdcffemeaaInt5
namespace Go.Proofs.Ytlkajmdcffemeaa
open Go.RowKit

theorem stepF (G : Nat → Nat) (i : Nat) (j : Nat) : (if j = i then G i else (if j < i then G j else 0)) = (if j < i + 1 then G j else 0) := by
  by_cases h1 : j = i
  · subst h1; rw [if_pos rfl, if_pos (by omega)]
  · rw [if_neg h1]
    by_cases h2 : j < i
    · rw [if_pos h2, if_pos (by omega)]
    · rw [if_neg h2, if_neg (by omega)]

set_option maxRecDepth 100000 in
set_option maxHeartbeats 4000000 in
theorem subtract_core (xs ys : List Nat) (p q : Option Addr) (c d : Nat) (w : World) (hX : NatsAt w p xs) (hY : NatsAt w q ys) (hdx : Dg xs) (hdy : Dg ys)
    (hl : ys.length ≤ xs.length) (hle : val ys ≤ val xs) (hx : xs.length ≤ 200000000) {v : Nat} (hv : val xs - val ys = v) :
    Calls Try.prog 102 #[.slice p xs.length c, .slice q ys.length d] w (RetNat v w) := by
  have hmk := make_nats .i64 .i64 xs.length (by omega)
  have HX := Lib.hid hX
  have HY := Lib.hid hY
  have hsum := Lib.hid (dif_all hdx hdy hl hle)
  have hD := Lib.hid hdx
  have hE := Lib.hid hdy
  rw [hv] at hsum
  clear hX hY hdx hdy hv hle
  go_enter Try.func102, Try.ntmps102
  go_wp2
  go_loopw [6, 14] (fun cv v wr => ∃ i : Nat, i ≤ xs.length ∧ v = .int .i64 i ∧ cv = .int .i64 (bw xs ys i : Nat) ∧ Below w.heap.size w wr ∧ Hid (DigBlk wr w.heap.size (fun j => if j < i then difD xs ys j else 0) xs.length)) (fun _ v _ => xs.length - (intOf v).toNat)
  case atStart =>
    refine ⟨0, by omega, rfl, rfl, (Below.refl _ _).alloc (by simp) _, Lib.hid ?_⟩
    exact (DigBlk.new w xs.length).congr fun j _ => rfl
  case round =>
    clear hmk
    obtain ⟨i, hi, rfl, rfl, hb, hB⟩ := hrel
    have Hb := Lib.hid hb
    clear hb
    by_cases hlt : i < xs.length
    · obtain ⟨b, off, rfl, hbl, hcell⟩ := NatsAt.cells HX.out (k := i) hlt
      have hx1 := hcell i hlt
      rw [← Hb.out.cell (p := ⟨b, _, none⟩) hbl] at hx1
      have hbw := bw_le xs ys i
      have heq := difD_eq (xs := xs) hE.out i
      have hSl := difD_lt hD.out hE.out i
      have hbe : bw xs ys (i + 1) = if xs.getD i 0 < bw xs ys i + ys.getD i 0 then 1 else 0 := rfl
      obtain ⟨x, hxe⟩ : ∃ x, xs.getD i 0 = x := ⟨_, rfl⟩
      have hxl : x < 4294967296 := by rw [← hxe]; exact hD.out.getD i
      obtain ⟨y, hye⟩ : ∃ y, ys.getD i 0 = y := ⟨_, rfl⟩
      have hyl : y < 4294967296 := by rw [← hye]; exact hE.out.getD i
      obtain ⟨k, hk⟩ : ∃ k, bw xs ys i = k := ⟨_, rfl⟩
      obtain ⟨S, hS⟩ : ∃ S, difD xs ys i = S := ⟨_, rfl⟩
      obtain ⟨C, hC⟩ : ∃ C, bw xs ys (i + 1) = C := ⟨_, rfl⟩
      rw [hxe] at hx1
      rw [hk, hye, hxe, hS, hC] at heq
      rw [hk, hye, hxe, hC] at hbe
      rw [hS] at hSl
      rw [hk] at hbw ⊢
      have hc0 := hB.out.cell hlt
      simp only [Nat.lt_irrefl, if_false] at hc0
      have hf := hB.out.frozen i
      have HS := Lib.hid hS
      have HC := Lib.hid hC
      have Hxe := Lib.hid hxe
      clear hcell hxe hk hS hC
      by_cases hly : i < ys.length
      · obtain ⟨b2, off2, rfl, hbl2, hcell2⟩ := NatsAt.cells HY.out (k := i) hly
        have hy1 := hcell2 i hly
        rw [← Hb.out.cell (p := ⟨b2, _, none⟩) hbl2, hye] at hy1
        by_cases hneg : x < k + y
        · rw [if_pos hneg] at hbe
          have e1 : (x : Int) - (k : Int) - (y : Int) + 4294967296 = (S : Int) := by omega
          have e2 : (S : Int) % 4294967296 = (S : Int) := by omega
          have e3 : (x : Int) - (k : Int) - (y : Int) < 0 := by omega
          clear hcell2 hye heq
          go_wp2
          go_roundw
          case rel =>
            refine ⟨i + 1, by omega, by go_num, by rw [HC.out, hbe]; rfl, Hb.out.setCell (p := ⟨w.heap.size, i, none⟩) (by simp) _, Lib.hid ?_⟩
            exact (hB.out.set (j := i) S).congr fun j _ => by rw [← stepF, HS.out]
          case measure => simp [intOf]; omega
        · rw [if_neg hneg] at hbe
          have e1 : (x : Int) - (k : Int) - (y : Int) = (S : Int) := by omega
          have e2 : (S : Int) % 4294967296 = (S : Int) := by omega
          have e3 : ¬ (S : Int) < 0 := by omega
          clear hcell2 hye heq
          go_wp2
          go_roundw
          case rel =>
            refine ⟨i + 1, by omega, by go_num, by rw [HC.out, hbe]; rfl, Hb.out.setCell (p := ⟨w.heap.size, i, none⟩) (by simp) _, Lib.hid ?_⟩
            exact (hB.out.set (j := i) S).congr fun j _ => by rw [← stepF, HS.out]
          case measure => simp [intOf]; omega
      · have hy0 : y = 0 := by rw [← hye]; exact getD_over ys (by omega)
        subst hy0
        by_cases hneg : x < k
        · rw [if_pos (by omega)] at hbe
          have e1 : (x : Int) - (k : Int) + 4294967296 = (S : Int) := by omega
          have e2 : (S : Int) % 4294967296 = (S : Int) := by omega
          have e3 : (x : Int) - (k : Int) < 0 := by omega
          clear hye heq
          go_wp2
          go_roundw
          case rel =>
            refine ⟨i + 1, by omega, by go_num, by rw [HC.out, hbe]; rfl, Hb.out.setCell (p := ⟨w.heap.size, i, none⟩) (by simp) _, Lib.hid ?_⟩
            exact (hB.out.set (j := i) S).congr fun j _ => by rw [← stepF, HS.out]
          case measure => simp [intOf]; omega
        · rw [if_neg (by omega)] at hbe
          have e1 : (x : Int) - (k : Int) = (S : Int) := by omega
          have e2 : (S : Int) % 4294967296 = (S : Int) := by omega
          have e3 : ¬ (S : Int) < 0 := by omega
          clear hye heq
          go_wp2
          go_roundw
          case rel =>
            refine ⟨i + 1, by omega, by go_num, by rw [HC.out, hbe]; rfl, Hb.out.setCell (p := ⟨w.heap.size, i, none⟩) (by simp) _, Lib.hid ?_⟩
            exact (hB.out.set (j := i) S).congr fun j _ => by rw [← stepF, HS.out]
          case measure => simp [intOf]; omega
    · obtain rfl : i = xs.length := by omega
      go_wp2_with (go_at_call 89; refine (trim_blk (F := difD xs ys) (w0 := w) (v := v) (DigBlk.congr hB.out ?_) ?_ ?_ Hb.out hsum.out).mono ?_)
      · intro j hj
        simp only [hj, if_true]
      · exact fun j _ => difD_lt hD.out hE.out j
      · omega
      · rintro e w2 ⟨p2, c2, rfl, hN, hc1, hc2, hb2⟩
        have HN := Lib.hid hN
        have Hb2 := Lib.hid hb2
        clear hN hb2
        go_wp2
        go_ret
        exact ⟨p2, c2, rfl, HN.out, hc1, hc2, Hb2.out⟩
theorem digs_len_le {m n : Nat} (h : m ≤ n) : (digs m).length ≤ (digs n).length := by
  apply Nat.le_of_not_lt
  intro hlt
  have := digs_lt hlt
  omega
theorem subtract_any (m n : Nat) (p q : Option Addr) (c d : Nat) (w : World) (hX : NatsAt w p (digs m)) (hY : NatsAt w q (digs n)) (hm : (digs m).length ≤ 200000000) (hle : n ≤ m) :
    Calls Try.prog 102 #[.slice p (digs m).length c, .slice q (digs n).length d] w (RetNat (m - n) w) :=
  subtract_core (digs m) (digs n) p q c d w hX hY (dg_digs m) (dg_digs n) (digs_len_le hle) (by rw [val_digs, val_digs]; exact hle) hm (by rw [val_digs, val_digs])
end Go.Proofs.Ytlkajmdcffemeaa
