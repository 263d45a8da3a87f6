/- integer.Print: the decimal text, and the walk. -/
import Derived.Test.YtmbamcpndbimaaaGreatDoorJ2
import Derived.Test.YtmbamcpndbimaaaGreatDoorJ17
import Derived.Test.YtmbamcpndbimaaaGreatDoorShelfA
import Derived.Deep.QuietTactic
namespace Go.Proofs.YtmbamcpndbimaaaGreatDoor
open Go.RowKit
theorem trim_own {w w0 : World} {g n : Nat} {F : Nat → Nat} (h : DigBlk w g F n) (hF : ∀ j, j < n → F j < 4294967296) (hn : n ≤ 1000000000) (hb : Below w0.heap.size w0 w) {v : Nat} (hv : val (digList F n) = v) :
  Calls Tryz.prog 95 #[.slice (some ⟨g, 0, none⟩) n n] w fun e w' => ∃ p c, e = .returned (.slice p (digs v).length c) ∧ NatsAt w' p (digs v) ∧ (digs v).length ≤ c ∧ c ≤ 1000000000 ∧ Below w0.heap.size w0 w' ∧ p = some ⟨g, 0, none⟩ := by
 have h1 := trim_any (digList F n) (some ⟨g, 0, none⟩) n w h.nats (by rw [digList_len]; exact Nat.le_refl _) (by omega)
 rw [digList_len] at h1
 refine h1.mono ?_
 rintro e w' ⟨rfl, rfl⟩
 have h2 := trim_digs _ (digList_dg hF)
 rw [digList_len, hv] at h2
 have h3 := tl_le (digList F n) n
 have h4 : (digs v).length = tl (digList F n) n := by
  rw [← h2, List.length_take, digList_len]; omega
 refine ⟨_, n, by rw [h4], by rw [← h2]; exact h.nats.take _, by omega, hn, hb, rfl⟩
def RetShortB (a b : Nat) (w : World) (e : Ending) (w' : World) : Prop :=
 ∃ p c, e = .returned (.tuple #[.slice p (digs a).length c, .int .u32 (b : Int)]) ∧ NatsAt w' p (digs a) ∧ (digs a).length ≤ c ∧ c ≤ 1000000000 ∧ Below w.heap.size w w' ∧ ∀ q, p = some q → w.heap.size ≤ q.block
set_option maxRecDepth 100000 in
set_option maxHeartbeats 4000000 in
theorem short_blk (xs : List Nat) (y : Nat) (p : Option Addr) (c : Nat) (w : World) (hX : NatsAt w p xs) (hdx : Dg xs) (hy : 0 < y) (hyl : y < 4294967296) (hx : xs.length ≤ 200000000) {a b : Nat} (ha : val xs / y = a) (hb : val xs % y = b) :
  Calls Tryz.prog 97 #[.slice p xs.length c, .int .u32 (y : Int)] w (RetShortB a b w) := by
 have hmk := make_nats .i64 .i64 xs.length (by omega)
 have HX := lhd hX
 have hD := lhd hdx
 have Ha := lhd ha
 have Hbb := lhd hb
 clear hX hdx ha hb
 go_enter Tryz.func97, Tryz.ntmps97
 go_wp2
 go_loopw [7, 8] (fun cv v wr => ∃ (i r : Nat) (F : Nat → Nat), i ≤ xs.length ∧ v = .int .i64 ((i : Int) - 1) ∧ cv = .int .u64 (r : Nat) ∧ Below w.heap.size w wr ∧ Hid (Sh xs y i r F) ∧ Hid (DigBlk wr w.heap.size F xs.length)) (fun _ v _ => (intOf v + 1).toNat)
 case atStart =>
  refine ⟨xs.length, 0, fun _ => 0, by omega, rfl, rfl, (Below.refl _ _).alloc (by simp) _, lhd ⟨fun _ => (by decide : 0 < 4294967296), hy, ?_⟩, lhd (DigBlk.new w xs.length)⟩
  rw [List.drop_of_length_le (Nat.le_refl _), List.drop_of_length_le (by rw [digList_len]; exact Nat.le_refl _)]; simp [val]
 case round =>
  clear hmk
  obtain ⟨i, r, F, hi, rfl, rfl, hb, hW, hB⟩ := hrel
  have Hb := lhd hb
  clear hb
  by_cases hi0 : 0 < i
  ·obtain ⟨i, rfl⟩ : ∃ k, i = k + 1 := ⟨i - 1, by omega⟩
   rw [show ((i + 1 : Nat) : Int) - 1 = (i : Int) from by omega]
   have hlt : i < xs.length := by omega
   obtain ⟨b, off, rfl, hbl, hcell⟩ := NatsAt.cells HX.out (k := i) hlt
   have hx1 := hcell i hlt
   rw [← Hb.out.cell (p := ⟨b, _, none⟩) hbl] at hx1
   obtain ⟨x, hxe⟩ : ∃ x, xs.getD i 0 = x := ⟨_, rfl⟩
   rw [hxe] at hx1
   have hxl : x < 4294967296 := by rw [← hxe]; exact hD.out.getD i
   have hst := hW.out.step hlt hxe hxl
   have hc0 := hB.out.cell hlt
   have hf := hB.out.frozen i
   have hrl := hW.out.2.1
   obtain ⟨N, hN⟩ : ∃ N, r * 4294967296 + x = N := ⟨_, rfl⟩
   rw [hN] at hst
   obtain ⟨q, hq⟩ : ∃ q, N / y = q := ⟨_, rfl⟩
   obtain ⟨s, hs⟩ : ∃ s, N % y = s := ⟨_, rfl⟩
   rw [hq, hs] at hst
   have Hst := lhd hst.2
   have hql := hst.1
   have hor : bits .or .u64 ((r : Int) * 4294967296) (x : Int) = (N : Int) := by
    have h1 : ((r : Int) * 4294967296) = ((r * 4294967296 : Nat) : Int) := by simp
    rw [h1, u64_or_nat _ _ (by omega) (by omega), ← hN]
    have h2 := Nat.two_pow_add_eq_or_of_lt (i := 32) (b := x) (by omega) r
    rw [Nat.mul_comm] at h2
    rw [← h2]
   have e1 : (N : Int) / (y : Int) = (q : Int) := by rw [← hq]; simp
   have e2 : (N : Int) % (y : Int) = (s : Int) := by rw [← hs]; simp
   have hNl : N < 18446744073709551616 := by omega
   have e3 : ((y : Int) == 0) = false := by rw [beq_eq_false_iff_ne]; omega
   have e4 : (q : Int) % 4294967296 = (q : Int) := by omega
   clear hst hcell hxe hN hq hs
   go_wp2_with fail
   go_region
   go_wp2
   go_roundw
   case rel =>
    exact ⟨i, s, _, by omega, by go_num, by rw [e2], (Hb.out.setCell (p := ⟨w.heap.size, i, none⟩) (by simp) _).drew, Hst, lhd (DigBlk.drew (hB.out.set (j := i) q))⟩
   case measure => simp [intOf]
  ·obtain rfl : i = 0 := by omega
   obtain ⟨h1, h2, h3⟩ := hW.out
   rw [List.drop_zero, List.drop_zero] at h3
   have hq : val (digList F xs.length) = a := by
    rw [← Ha.out, h3, Nat.mul_comm, Nat.mul_add_div hy, Nat.div_eq_of_lt h2]; omega
   have hr : r = b := by
    rw [← Hbb.out, h3, Nat.mul_comm, Nat.mul_add_mod, Nat.mod_eq_of_lt h2]
   have hrl : r < 4294967296 := by omega
   have Hq := lhd hq
   have Hr := lhd hr
   have e4 : (r : Int) % 4294967296 = (r : Int) := by omega
   clear hq hr h3
   go_wp2_with (go_at_call 95; refine (trim_own (w0 := w) (v := a) hB.out ?_ ?_ Hb.out Hq.out).mono ?_)
   ·exact fun j _ => h1 j
   ·omega
   ·rintro e w2 ⟨p2, c2, rfl, hN, hc1, hc2, hb2, hp2⟩
    have HN := lhd hN
    have Hb2 := lhd hb2
    have Hp2 := lhd hp2
    clear hN hb2 hp2
    go_wp2
    refine bodyPost_ret (v := .tuple #[.slice p2 (digs a).length c2, .int .u32 (b : Int)]) ?_ rfl ⟨p2, c2, rfl, HN.out, hc1, hc2, Hb2.out, fun b hb => by rw [Hp2.out] at hb; obtain rfl := Option.some.inj hb; exact Nat.le_refl _⟩
    simp [results, Tryz.results97, go_sem, Hr.out]
def pad : Nat → Nat → List UInt8
 | 0, _ => []
 | k + 1, r => pad k (r / 10) ++ [UInt8.ofNat (48 + r % 10)]
theorem pad_len : ∀ k r, (pad k r).length = k
 | 0, _ => rfl
 | k + 1, r => by rw [pad, List.length_append, pad_len]; rfl
theorem pad_front : ∀ k r, pad (k + 1) r = UInt8.ofNat (48 + r / 10 ^ k % 10) :: pad k r
 | 0, r => by simp [pad]
 | k + 1, r => by
  rw [pad, pad_front k (r / 10), pad, Nat.div_div_eq_div_mul, Nat.pow_succ, Nat.mul_comm 10]; rfl
def ndF : Nat → Nat → Nat
 | 0, _ => 0
 | f + 1, r => if r = 0 then 0 else 1 + ndF f (r / 10)
theorem ndF_fuel : ∀ f g r, r ≤ f → r ≤ g → ndF f r = ndF g r
 | 0, g, r, h, _ => by
  obtain rfl : r = 0 := by omega
  cases g <;> simp [ndF]
 | f + 1, 0, r, _, h => by
  obtain rfl : r = 0 := by omega
  simp [ndF]
 | f + 1, g + 1, r, h1, h2 => by
  simp only [ndF]
  split
  ·rfl
  ·rw [ndF_fuel f g (r / 10) (by omega) (by omega)]
def ndg (r : Nat) : Nat := ndF r r
theorem ndg_zero : ndg 0 = 0 := rfl
theorem ndg_pos {r : Nat} (h : r ≠ 0) : ndg r = 1 + ndg (r / 10) := by
 obtain ⟨k, rfl⟩ : ∃ k, r = k + 1 := ⟨r - 1, by omega⟩
 unfold ndg
 rw [ndF, if_neg h, ndF_fuel k ((k + 1) / 10) _ (by omega) (Nat.le_refl _)]
theorem ndg_le : ∀ k r, r < 10 ^ k → ndg r ≤ k
 | 0, r, h => by
  obtain rfl : r = 0 := by simpa using h
  rw [ndg_zero]; exact Nat.le_refl _
 | k + 1, r, h => by
  by_cases h0 : r = 0
  ·rw [h0, ndg_zero]; omega
  ·rw [ndg_pos h0]
   have := ndg_le k (r / 10) (Nat.div_lt_of_lt_mul (by rw [Nat.pow_succ] at h; omega))
   omega
def decF : Nat → Nat → List UInt8
 | 0, _ => []
 | f + 1, v => if v < 1000000000 then pad (ndg v) v else decF f (v / 1000000000) ++ pad 9 (v % 1000000000)
theorem decF_fuel : ∀ f g v, v < f → v < g → decF f v = decF g v
 | 0, _, _, h, _ => by omega
 | _, 0, _, _, h => by omega
 | f + 1, g + 1, v, h1, h2 => by
  simp only [decF]
  split
  ·rfl
  ·rw [decF_fuel f g (v / 1000000000) (by omega) (by omega)]
def decL (v : Nat) : List UInt8 := decF (v + 1) v
theorem decL_lt {v : Nat} (h : v < 1000000000) : decL v = pad (ndg v) v := by
 unfold decL
 rw [decF, if_pos h]
theorem decL_ge {v : Nat} (h : ¬ v < 1000000000) : decL v = decL (v / 1000000000) ++ pad 9 (v % 1000000000) := by
 unfold decL
 rw [decF, if_neg h, decF_fuel v (v / 1000000000 + 1) _ (by omega) (by omega)]
theorem decL_zero : decL 0 = [] := by rw [decL_lt (by decide)]; rfl
def prt (v : Nat) : List UInt8 := if v / 1000000000 = 0 then pad (ndg v) v else pad 9 (v % 1000000000)
theorem decL_step (v : Nat) : decL v = decL (v / 1000000000) ++ prt v := by
 unfold prt
 by_cases h : v < 1000000000
 ·rw [if_pos (Nat.div_eq_of_lt h), Nat.div_eq_of_lt h, decL_zero, decL_lt h]; rfl
 ·rw [if_neg (by omega)]; exact decL_ge h
def bsOf (l : List UInt8) : ByteArray := ⟨l.toArray⟩
theorem bsOf_append (l m : List UInt8) : bsOf l ++ bsOf m = bsOf (l ++ m) := by
 apply ByteArray.ext
 simp [bsOf]
theorem bsOf_size (l : List UInt8) : (bsOf l).size = l.length := by simp [bsOf, ByteArray.size]
theorem utf_digit : ∀ ch : Nat, ch < 58 → Utf8.encode (ch : Int) = bsOf [UInt8.ofNat ch] := by decide
def prL (z : ZI) : List UInt8 := if absZ z = 0 then [48] else (if z.neg then [45] else []) ++ decL (absZ z)
def totL (ps : List ByteArray) : List UInt8 := ps.reverse.flatMap fun b => b.data.toList
theorem totL_snoc (ps : List ByteArray) (b : ByteArray) : totL (ps ++ [b]) = b.data.toList ++ totL ps := by
 unfold totL
 rw [List.reverse_append]; rfl
theorem totL_drop {ps : List ByteArray} {k : Nat} (h : k < ps.length) : totL (ps.drop k) = totL (ps.drop (k + 1)) ++ (ps.getD k ByteArray.empty).data.toList := by
 unfold totL
 rw [List.drop_eq_getElem_cons h, List.reverse_cons, List.flatMap_append]
 simp [List.getD_eq_getElem?_getD, h]
theorem totL_drop_le (ps : List ByteArray) (k : Nat) : (totL (ps.drop k)).length ≤ (totL ps).length := by
 have h : totL ps = totL (ps.drop k) ++ totL (ps.take k) := by
  unfold totL
  rw [← List.flatMap_append, ← List.reverse_append, List.take_append_drop]
 rw [h, List.length_append]; omega
theorem NatsAt.alloc' {w : World} {p : Option Addr} {xs : List Nat} (h : NatsAt w p xs) (o : Obj) : NatsAt (w.alloc o) p xs := h.below (Nat.le_refl _) ((Below.refl w.heap.size w).alloc (Nat.le_refl _) o)
theorem NatsAt.grown {w w' : World} {p : Option Addr} {xs : List Nat} {g : Option Nat} (h : NatsAt w p xs) (hg : w.grownBy w' g) (hne : ∀ b, p = some b → ∀ k, g = some k → b.block ≠ k) : NatsAt w' p xs := by
 rcases h with h | ⟨b, off, rfl, hlt, hc⟩
 ·exact .inl h
 ·have h1 := hg.block b hlt (fun e => hne _ rfl b e.symm rfl)
  refine .inr ⟨b, off, rfl, Nat.lt_of_lt_of_le hlt hg.size, fun i hi j hj => ?_⟩
  have h2 := hc i hi j hj
  unfold World.cell? at h2 ⊢
  rw [h1]; exact h2
set_option maxRecDepth 100000 in
set_option maxHeartbeats 8000000 in
theorem print_any (z : ZI) (hz : z.mag.size ≤ 1000000) (w : World) :
  Calls Tryz.prog 71 #[.agg #[.bool z.neg, .string z.mag]] w fun e w' => e = .returned (.string ⟨(prL z).toArray⟩) ∧ Below w.heap.size w w' := by
 obtain ⟨v, hv⟩ : ∃ v, absZ z = v := ⟨_, rfl⟩
 have hdg := fun W => digits_any z (by omega) W
 rw [hv] at hdg
 have HDg := lhd hdg
 have hdl : (digs v).length ≤ 1000000 := by
  rw [← hv]
  have := digs_le z.mag.size (absZ z) (absZ_lt z)
  omega
 have hal := (Below.refl w.heap.size w).alloc (Nat.le_refl _) (.cells #[.bool z.neg, .string z.mag] 24)
 have hbx := BoxAt.new w (.bool z.neg) (.string z.mag) 24
 have HA := lhd hal
 have HX := lhd hbx
 obtain ⟨a0, a1, _, _, _⟩ := hbx
 have Hv := lhd hv
 clear hdg hv hal
 go_enter Tryz.func71, Tryz.ntmps71
 go_upto_region 1 with (fail)
 generalize w.alloc (.cells #[.bool z.neg, .string z.mag] 24) = X at *
 go_wp2_with fail
 refine (HDg.out X).mono ?_
 rintro e1 w1 ⟨px, cx, rfl, hN, hc1, hc2, hb1⟩
 dsimp only
 have HN := lhd hN
 have Hb1 := lhd hb1
 clear hN hb1 a0 a1 HDg
 by_cases h0 : v = 0
 ·have hl : (digs v).length = 0 := by rw [h0]; rfl
  rw [hl]
  go_wp2_with fail
  go_ret
  refine ⟨?_, HA.out.trans (Hb1.out.mono HA.out.size)⟩
  rw [prL, if_pos (by rw [← Hv.out] at h0; exact h0)]; rfl
 have hl : ((((digs v).length : Nat) : Int) == 0) = false := by
  rw [beq_eq_false_iff_ne]
  intro h
  exact h0 (digs_len_pos.1 (by omega))
 have HBw := lhd (HA.out.trans (Hb1.out.mono HA.out.size))
 have HX1 := lhd (HX.out.below Hb1.out HX.out.2.2.2.2)
 have H0 := lhd h0
 clear h0 HX HA
 go_wp2_with fail
 clear hl
 have hv256 : v < 256 ^ z.mag.size := by rw [← Hv.out]; exact absZ_lt z
 go_loopg [3, 4] z.mag.size (fun g xv pv wr => ∃ (u m : Nat) (p : Option Addr) (c : Nat) (ps : List ByteArray), u ≤ v ∧ Hid (u < 256 ^ m) ∧ m ≤ g ∧ ps.length + m ≤ 1000000 ∧ xv = .slice p (digs u).length c ∧ (digs u).length ≤ c ∧ c ≤ 1000000000 ∧ (digs u).length ≤ 1000000 ∧ Hid ((totL ps).length ≤ 9 * ps.length) ∧ Hid (NatsAt wr p (digs u)) ∧ Hid (OwnStrs wr w1.heap.size pv ps) ∧ Hid (decL v = decL u ++ totL ps) ∧ Hid (Below w1.heap.size w1 wr))
 case atStart => exact ⟨v, z.mag.size, px, cx, [], Nat.le_refl _, lhd hv256, Nat.le_refl _, by simp; omega, rfl, hc1, hc2, hdl, lhd (by simp [totL]), HN, lhd (OwnStrs.nil _ _), lhd (by rw [show totL [] = [] from rfl, List.append_nil]), lhd (Below.refl _ _)⟩
 case round =>
  clear HN
  clear hv256
  obtain ⟨u, m, p, c, ps, huv, Hum, hmg, hpm, rfl, hc1, hc2, hul, HTl, HN, HP, HT, HB⟩ := hrel
  by_cases hu0 : u = 0
  ·have hl : (digs u).length = 0 := by rw [hu0]; rfl
   go_upto_region 16 with (fail)
   have hsz := HB.out.size
   have hI := Lib.fresh_isBuilder 63 5 wr
   have hb0 := (Below.refl wr.heap.size wr).alloc (Nat.le_refl _) (.cells #[.pointer none, .slice none 0 0] 63)
   have hYs : wr.heap.size ≤ (wr.alloc (.cells #[.pointer none, .slice none 0 0] 63)).heap.size := hb0.size
   have hbb := HX1.out.below HB.out HX1.out.2.2.2.2
   have hbc := hbb.below hb0 hbb.2.2.2.2
   obtain ⟨pp, pc, rfl, hpc, hS, hpb⟩ := HP.out.form
   have HS := lhd hS
   have HI := lhd hI
   have Hb0 := lhd hb0
   have HBc := lhd hbc
   obtain ⟨a0, a1, _, _, _⟩ := hbc
   clear hI hb0 hS hpb hbb
   have HLd : Hid (∀ j, j < ps.length → ∃ b off, pp = some ⟨b, off, none⟩ ∧ ∀ W, Below wr.heap.size (wr.alloc (.cells #[.pointer none, .slice none 0 0] 63)) W → W.cell? ⟨b, off + j, none⟩ = some (.string (ps.getD j ByteArray.empty))) := lhd (fun j hj => by
    obtain ⟨b, off, rfl, hbl, hc⟩ := StrsAt.cells HS.out hj
    refine ⟨b, off, rfl, fun W hW => ?_⟩
    rw [(Hb0.out.trans hW).cell (p := ⟨b, off + j, none⟩) hbl]
    exact hc j hj)
   clear HS
   generalize wr.alloc (.cells #[.pointer none, .slice none 0 0] 63) = Y at *
   have HFin : Hid (∀ W, Below wr.heap.size Y W → Below w.heap.size w W) := lhd (fun W hW => (HBw.out.trans (HB.out.mono HBw.out.size)).trans ((Hb0.out.trans hW).mono (Nat.le_trans HBw.out.size hsz)))
   have HTl2 := HTl
   have hT : Hid (decL v = totL ps) := lhd (by rw [HT.out, hu0, decL_zero, List.nil_append])
   clear HB HN HP Hb0 HT
   generalize wr.heap.size = B0 at *
   cases hng : z.neg
   ·rw [hng] at a0
    have Hng := lhd hng
    clear hng
    have HI3 := HI
    have Hb3 : Hid (Below B0 Y Y) := lhd (Below.refl _ _)
    go_wp2_with fail
    go_loopw [9] (fun iv wx => ∃ k : Nat, k ≤ ps.length ∧ iv = .int .i64 ((k : Int) - 1) ∧ Hid (Lib.IsBuilder 63 5 B0 B0 (Lib.byteCells ([] ++ totL (ps.drop k))) wx) ∧ Hid (Below B0 Y wx)) (fun iv _ => (intOf iv + 1).toNat)
    case atStart => exact ⟨ps.length, Nat.le_refl _, by go_num, lhd (by rw [List.drop_of_length_le (Nat.le_refl _)]; exact HI3.out), Hb3⟩
    case round =>
     clear HI3 Hb3
     obtain ⟨k, hk, rfl, HI4, Hb4⟩ := hrel
     have hys4 := Hb4.out.size
     have hyw : B0 ≤ wr.heap.size := Nat.le_trans hYs hys4
     by_cases hk0 : 0 < k
     ·obtain ⟨j, rfl⟩ : ∃ j, k = j + 1 := ⟨k - 1, by omega⟩
      rw [show ((j + 1 : Nat) : Int) - 1 = (j : Int) from by omega]
      have hlt : j < ps.length := by omega
      obtain ⟨b, off, rfl, hcell⟩ := HLd.out j hlt
      have hx := hcell wr Hb4.out
      obtain ⟨x, hxe⟩ : ∃ x, ps.getD j ByteArray.empty = x := ⟨_, rfl⟩
      rw [hxe] at hx
      have htd := totL_drop hlt
      rw [hxe] at htd
      have hlen : (Lib.byteCells ([] ++ totL (ps.drop (j + 1)))).length + x.size ≤ 140737488355328 := by
       have h1 := totL_drop_le ps j
       have h2 := HTl2.out
       rw [htd, List.length_append] at h1
       have h3 : x.data.toList.length = x.size := by simp
       rw [Lib.byteCells_length, List.length_append]
       have h4 : ([] : List UInt8).length ≤ 1 := by decide
       omega
      have hws := writeString_any B0 B0 (Lib.byteCells ([] ++ totL (ps.drop (j + 1)))) x wr HI4.out hlen hyw
      have HWs := lhd hws
      have Htd := lhd htd
      clear hws hcell hxe htd hlen
      go_wp2_with fail
      refine HWs.out.mono ?_
      rintro e5 w5 ⟨rfl, hI5, hb5⟩
      dsimp only
      have HI5 := lhd hI5
      have Hb5 := lhd (Hb4.out.trans hb5)
      clear hI5 hb5
      go_wp2_with fail
      go_roundw
      case rel => exact ⟨j, by omega, by go_num, lhd (by rw [Htd.out]; simpa [Lib.byteCells, Lib.strCells] using HI5.out), Hb5⟩
      case measure => simp [intOf]
     ·obtain rfl : k = 0 := by omega
      have hst := Tryz.Builder_String_any B0 B0 ([] ++ totL (ps.drop 0)) wr HI4.out hyw
      have HSt := lhd hst
      clear hst
      go_wp2_with fail
      refine HSt.out.mono ?_
      rintro e5 w5 ⟨rfl, hb5⟩
      dsimp only
      have Hb5 := lhd (Hb4.out.trans hb5)
      clear hb5
      go_wp2_with fail
      go_ret
      exact ⟨by rw [prL, if_neg (by rw [Hv.out]; exact H0.out), Hv.out, hT.out, Hng.out]; rfl, HFin.out _ Hb5.out⟩
   ·rw [hng] at a0
    have Hng := lhd hng
    clear hng
    have hwb := fun (H : Lib.IsBuilder 63 5 B0 B0 [] Y) => writeByte_k B0 B0 [] 45 Y H (by simp) hYs
    have HWb := lhd hwb
    clear hwb
    go_wp2_with fail
    refine (HWb.out HI.out).mono ?_
    rintro e3 w3 ⟨rfl, hI3, hb3⟩
    dsimp only
    have HI3 := lhd hI3
    have Hb3 := lhd (hb3.trans (Below.refl _ _))
    clear hI3 hb3
    go_wp2_with fail
    go_loopw [9] (fun iv wx => ∃ k : Nat, k ≤ ps.length ∧ iv = .int .i64 ((k : Int) - 1) ∧ Hid (Lib.IsBuilder 63 5 B0 B0 (Lib.byteCells ([45] ++ totL (ps.drop k))) wx) ∧ Hid (Below B0 Y wx)) (fun iv _ => (intOf iv + 1).toNat)
    case atStart => exact ⟨ps.length, Nat.le_refl _, by go_num, lhd (by rw [List.drop_of_length_le (Nat.le_refl _)]; exact HI3.out), Hb3⟩
    case round =>
     clear HI3 Hb3
     obtain ⟨k, hk, rfl, HI4, Hb4⟩ := hrel
     have hys4 := Hb4.out.size
     have hyw : B0 ≤ wr.heap.size := Nat.le_trans hYs hys4
     by_cases hk0 : 0 < k
     ·obtain ⟨j, rfl⟩ : ∃ j, k = j + 1 := ⟨k - 1, by omega⟩
      rw [show ((j + 1 : Nat) : Int) - 1 = (j : Int) from by omega]
      have hlt : j < ps.length := by omega
      obtain ⟨b, off, rfl, hcell⟩ := HLd.out j hlt
      have hx := hcell wr Hb4.out
      obtain ⟨x, hxe⟩ : ∃ x, ps.getD j ByteArray.empty = x := ⟨_, rfl⟩
      rw [hxe] at hx
      have htd := totL_drop hlt
      rw [hxe] at htd
      have hlen : (Lib.byteCells ([45] ++ totL (ps.drop (j + 1)))).length + x.size ≤ 140737488355328 := by
       have h1 := totL_drop_le ps j
       have h2 := HTl2.out
       rw [htd, List.length_append] at h1
       have h3 : x.data.toList.length = x.size := by simp
       rw [Lib.byteCells_length, List.length_append]
       have h4 : ([45] : List UInt8).length ≤ 1 := by decide
       omega
      have hws := writeString_any B0 B0 (Lib.byteCells ([45] ++ totL (ps.drop (j + 1)))) x wr HI4.out hlen hyw
      have HWs := lhd hws
      have Htd := lhd htd
      clear hws hcell hxe htd hlen
      go_wp2_with fail
      refine HWs.out.mono ?_
      rintro e5 w5 ⟨rfl, hI5, hb5⟩
      dsimp only
      have HI5 := lhd hI5
      have Hb5 := lhd (Hb4.out.trans hb5)
      clear hI5 hb5
      go_wp2_with fail
      go_roundw
      case rel => exact ⟨j, by omega, by go_num, lhd (by rw [Htd.out]; simpa [Lib.byteCells, Lib.strCells] using HI5.out), Hb5⟩
      case measure => simp [intOf]
     ·obtain rfl : k = 0 := by omega
      have hst := Tryz.Builder_String_any B0 B0 ([45] ++ totL (ps.drop 0)) wr HI4.out hyw
      have HSt := lhd hst
      clear hst
      go_wp2_with fail
      refine HSt.out.mono ?_
      rintro e5 w5 ⟨rfl, hb5⟩
      dsimp only
      have Hb5 := lhd (Hb4.out.trans hb5)
      clear hb5
      go_wp2_with fail
      go_ret
      exact ⟨by rw [prL, if_neg (by rw [Hv.out]; exact H0.out), Hv.out, hT.out, Hng.out]; rfl, HFin.out _ Hb5.out⟩
  ·have hl : (((digs u).length : Nat) : Int) > 0 := by
    have : (digs u).length ≠ 0 := fun h => hu0 (digs_len_pos.1 h)
    omega
   obtain ⟨x, hx⟩ : ∃ x, u / 1000000000 = x := ⟨_, rfl⟩
   obtain ⟨r, hr⟩ : ∃ x, u % 1000000000 = x := ⟨_, rfl⟩
   have hsh := short_blk (digs u) 1000000000 p c wr HN.out (dg_digs u) (by decide) (by decide) (by omega) (a := x) (b := r) (by rw [val_digs]; exact hx) (by rw [val_digs]; exact hr)
   have HSh := lhd hsh
   have hrl : r < 1000000000 := by omega
   clear hsh
   go_wp2_with fail
   refine HSh.out.mono ?_
   rintro e2 w2 ⟨px, cx, rfl, hN2, hc3, hc4, hb2, hpb⟩
   dsimp only
   have HN2 := lhd hN2
   have Hb2 := lhd hb2
   have Hpb := lhd hpb
   clear hN2 hb2 hpb
   go_wp2_with fail
   have hxl : (digs x).length = 0 ↔ x = 0 := digs_len_pos
   have HBn : Hid (Below w1.heap.size w1 w2) := lhd (HB.out.trans (Hb2.out.mono HB.out.size))
   have HPn : Hid (OwnStrs w2 w1.heap.size u4 ps) := lhd (HP.out.below (Nat.le_refl _) Hb2.out)
   have Hdis : Hid (∀ b, px = some b → ∀ k, u4.ownBlock = some k → b.block ≠ k) := lhd (fun b hb k hk => by
    have h1 := Hpb.out b hb
    have h2 := (World.ownsRow.lt HP.out k hk).2
    omega)
   go_loopw [5, 6, 7] (fun rv sv iv wr => ∃ i : Nat, i ≤ 9 ∧ iv = .int .i64 (i : Nat) ∧ rv = .int .u32 ((r / 10 ^ i : Nat) : Int) ∧ sv = .string (bsOf (pad i r)) ∧ Hid (x = 0 → i + ndg (r / 10 ^ i) = ndg r) ∧ wr = w2) (fun _ _ iv _ => 9 - (intOf iv).toNat)
   case atStart => exact ⟨0, by omega, by go_num, by simp, rfl, lhd (fun _ => by simp), rfl⟩
   case round =>
    obtain ⟨i, hi, rfl, rfl, rfl, HI, rfl⟩ := hrel
    have hqd : r / 10 ^ (i + 1) = r / 10 ^ i / 10 := by rw [Nat.pow_succ, Nat.div_div_eq_div_mul]
    have hfr := pad_front i r
    have hq9 : i = 9 → r / 10 ^ i = 0 := fun h => by rw [h]; exact Nat.div_eq_of_lt (by omega)
    have hql : r / 10 ^ i ≤ r := Nat.div_le_self _ _
    obtain ⟨q, hq⟩ : ∃ q, r / 10 ^ i = q := ⟨_, rfl⟩
    rw [hq] at hqd hfr HI hq9 hql ⊢
    obtain ⟨d, hd⟩ : ∃ d, q % 10 = d := ⟨_, rfl⟩
    obtain ⟨q2, hq2⟩ : ∃ d, q / 10 = d := ⟨_, rfl⟩
    rw [hd] at hfr
    rw [hq2] at hqd
    have d10 : d < 10 := by omega
    have d1 : (q : Int) % 10 = (d : Int) := by omega
    have d2 : (q : Int) / 10 = (q2 : Int) := by omega
    obtain ⟨ch, hch⟩ : ∃ z, 48 + d = z := ⟨_, rfl⟩
    have d3 : (48 : Int) + (d : Int) = (ch : Int) := by omega
    have d4 : ch < 58 := by omega
    rw [hch] at hfr
    have Hqd := lhd hqd
    have Hfr := lhd hfr
    have HNd : Hid (q ≠ 0 → ndg q = 1 + ndg q2) := lhd (fun h => by rw [ndg_pos h, hq2])
    have hz1 : q = 0 → ch = 48 ∧ q2 = 0 := fun h => by omega
    clear hqd hfr hq hd hq2 hch
    by_cases hq0 : 0 < q
    ·have c1 : decide ((q : Int) > 0) = true := by rw [decide_eq_true_eq]; omega
     have c2 : decide (0 < q) = true := decide_eq_true hq0
     have c3 : (q : Int) > 0 := by omega
     have i9 : i < 9 := by omega
     have hue := utf_digit ch d4
     have hsz : ¬ 9223372036854775807 < (Utf8.encode (ch : Int)).size + (bsOf (pad i r)).size := by rw [hue, bsOf_size, bsOf_size, pad_len]; simp; omega
     have Hue := lhd hue
     clear hue
     go_wp2_with fail
     go_roundw
     case rel => exact ⟨i + 1, by omega, by go_num, by rw [Hqd.out], by rw [Hue.out, bsOf_append, Hfr.out]; rfl, lhd (fun h => by have h1 := HI.out h; have h2 := HNd.out (by omega); rw [Hqd.out]; omega), trivial⟩
     case measure => simp [intOf]; omega
    ·have q0 : q = 0 := by omega
     subst q0
     obtain ⟨ch48, q20⟩ := hz1 rfl
     subst ch48 q20
     by_cases hx0 : x ≠ 0 ∧ i < 9
     ·have i9 : i < 9 := hx0.2
      have hxn : x ≠ 0 := hx0.1
      have hxl2 : (digs x).length ≠ 0 := fun h => hxn (hxl.1 h)
      have c5 : ((digs x).length : Int) > 0 := by omega
      have hue := utf_digit 48 (by decide)
      have hsz : ¬ 9223372036854775807 < (Utf8.encode 48).size + (bsOf (pad i r)).size := by rw [show Utf8.encode 48 = _ from hue, bsOf_size, bsOf_size, pad_len]; simp; omega
      have Hue := lhd hue
      clear hue hx0
      go_wp2_with fail
      go_roundw
      case rel =>
       have h1 : ((r / 10 ^ (i + 1) : Nat) : Int) = 0 := by rw [Hqd.out]; rfl
       have h2 : (Utf8.encode 48) ++ bsOf (pad i r) = bsOf (pad (i + 1) r) := by rw [show Utf8.encode 48 = _ from Hue.out, bsOf_append, Hfr.out]; rfl
       exact ⟨_, _, _, ⟨i + 1, by omega, rfl, rfl, rfl, lhd trivial⟩, by rw [← h1]; push_cast; rfl, by rw [h2], by go_num⟩
      case measure => simp [intOf]; omega
     ·have hpt : Hid (prt u = pad i r) := lhd (by
       unfold prt
       rw [hx, hr]
       by_cases hx1 : x = 0
       ·rw [if_pos hx1]
        have h1 := HI.out hx1
        rw [ndg_zero] at h1
        have h2 : u = r := by omega
        rw [h2, ← h1]; rfl
       ·rw [if_neg hx1]
        have h3 : i = 9 := by omega
        rw [h3])
      have hsz1 := HBn.out.size
      have hplen : ps.length < 1000000000000 := by omega
      have hm0 : m ≠ 0 := fun h => by have h1 := Hum.out; rw [h, Nat.pow_zero] at h1; omega
      have Hum2 : Hid (x < 256 ^ (m - 1)) := lhd (by
       have h1 := Hum.out
       rw [show m = (m - 1) + 1 from by omega, Nat.pow_succ] at h1
       omega)
      by_cases hx1 : x = 0
      ·have c6 : ¬ ((digs x).length : Int) > 0 := by rw [hx1]; decide
       clear hx0
       go_wp2_with (at_builtin; refine wpList_append_str rfl _ _ rfl w1.heap.size _ ps rfl (HPn.out.alloc _) wr.heap.size 1 (bsOf (pad i r)) rfl (cell_new0 _ _ _) hplen (by simp; omega) ?_)
       intro v' w4 hown' hgrow
       have HB4 := lhd (below_append (HBn.out.alloc hsz1 _) (HPn.out.alloc _) hgrow (by simp; omega) (Nat.le_refl _))
       have HO4 := lhd hown'
       have HN4 : Hid (NatsAt w4 px (digs x)) := lhd (by
        exact (HN2.out.alloc' _).grown hgrow Hdis.out)
       clear hown' hgrow
       go_wp2_with fail
       go_roundg (m - 1)
       case measure => omega
       case rel => exact ⟨x, m - 1, px, cx, ps ++ [bsOf (pad i r)], by omega, Hum2, Nat.le_refl _, by simp; omega, (by first | rfl | rw [hx1]), hc3, hc4, by have := digs_len_le (show x ≤ v by omega); omega, lhd (by rw [totL_snoc, List.length_append, List.length_append]; have := HTl.out; have h8 : (bsOf (pad i r)).data.toList.length = i := (by simp [bsOf, pad_len]); rw [h8]; simp; omega), HN4, HO4, lhd (by rw [HT.out, decL_step u, hx, hpt.out]; rw [totL_snoc]; simp [bsOf]), HB4⟩
      ·have h9 : ¬ (i : Int) < 9 := by omega
       have hxl2 : (digs x).length ≠ 0 := fun h => hx1 (hxl.1 h)
       have c5 : ((digs x).length : Int) > 0 := by omega
       clear hx0
       go_wp2_with (at_builtin; refine wpList_append_str rfl _ _ rfl w1.heap.size _ ps rfl (HPn.out.alloc _) wr.heap.size 1 (bsOf (pad i r)) rfl (cell_new0 _ _ _) hplen (by simp; omega) ?_)
       intro v' w4 hown' hgrow
       have HB4 := lhd (below_append (HBn.out.alloc hsz1 _) (HPn.out.alloc _) hgrow (by simp; omega) (Nat.le_refl _))
       have HO4 := lhd hown'
       have HN4 : Hid (NatsAt w4 px (digs x)) := lhd (by
        exact (HN2.out.alloc' _).grown hgrow Hdis.out)
       clear hown' hgrow
       go_wp2_with fail
       go_roundg (m - 1)
       case measure => omega
       case rel => exact ⟨x, m - 1, px, cx, ps ++ [bsOf (pad i r)], by omega, Hum2, Nat.le_refl _, by simp; omega, (by first | rfl | rw [hx1]), hc3, hc4, by have := digs_len_le (show x ≤ v by omega); omega, lhd (by rw [totL_snoc, List.length_append, List.length_append]; have := HTl.out; have h8 : (bsOf (pad i r)).data.toList.length = i := (by simp [bsOf, pad_len]); rw [h8]; simp; omega), HN4, HO4, lhd (by rw [HT.out, decL_step u, hx, hpt.out]; rw [totL_snoc]; simp [bsOf]), HB4⟩
end Go.Proofs.YtmbamcpndbimaaaGreatDoor
