/- The walk of matrix.table at api.Int. The walks of matrix.scalar and sum, with their closures. The walk of integer.multiply. -/
import Derived.Test.YtcafeffgaokiaaaJ17
import Derived.Deep.RegionHeld
import Derived.RangeFuncCalls
import Derived.RangeFuncBox
import Derived.Shelf.Abstract
import Derived.Test.YtcafeffgaokiaaaJ13
namespace Go.Proofs.Ytcafeffgaokiaaa
open Go.RowKit

/-- Between two rounds of table: i rows are made. -/
structure TabO (w wr : World) (g rows cols i : Nat) (F : Nat → Nat → Int) (A : Nat → Nat) : Prop where
  below : Below w.heap.size w wr
  hdr : HAt wr g rows (fun j => if j < i then .slice (some ⟨A j, 0, none⟩) cols cols else .slice none 0 0)
  row : ∀ j, j < i → ZAt wr (A j) cols (F j) ∧ w.heap.size ≤ A j ∧ A j ≠ g
  low : w.heap.size ≤ g
/-- Within a round: the row i is in the block A i, and k of its numbers are there. -/
structure TabI (w wr : World) (g rows cols i k : Nat) (F : Nat → Nat → Int) (A : Nat → Nat) : Prop where
  below : Below w.heap.size w wr
  hdr : HAt wr g rows (fun j => if j < i + 1 then .slice (some ⟨A j, 0, none⟩) cols cols else .slice none 0 0)
  row : ∀ j, j < i → ZAt wr (A j) cols (F j) ∧ w.heap.size ≤ A j ∧ A j ≠ g ∧ A j ≠ A i
  cur : ZAt wr (A i) cols (fun m => if m < k then F i m else 0) ∧ w.heap.size ≤ A i ∧ A i ≠ g
  low : w.heap.size ≤ g
theorem TabO.start (w wr : World) (hb : Below w.heap.size w wr) (rows cols : Nat) (t : TypeId) (F : Nat → Nat → Int) : TabO w (wr.alloc (.cells (madeCells #[.slice none 0 0] rows) t)) wr.heap.size rows cols 0 F (fun _ => 0) :=
  ⟨hb.alloc hb.size _, (made_hdr wr rows t).congr fun k _ => by rw [if_neg (by omega)], fun j h => by omega, hb.size⟩
theorem TabO.enter {w wr : World} {g rows cols i : Nat} {F : Nat → Nat → Int} {A : Nat → Nat} (h : TabO w wr g rows cols i F A) (t : TypeId) :
    TabI w ((wr.alloc (.cells (madeCells #[.bool false, .string ⟨#[]⟩] (cols * 2)) t)).setCell ⟨g, i, none⟩ (.slice (some ⟨wr.heap.size, 0, none⟩) cols cols)) g rows cols i 0 F (fun j => if j = i then wr.heap.size else A j) := by
  obtain ⟨hb, hh, hr, hl⟩ := h
  have hg : g < wr.heap.size := hh.1
  have hal := (Below.refl wr.heap.size wr).alloc (Nat.le_refl _) (.cells (madeCells #[.bool false, .string ⟨#[]⟩] (cols * 2)) t)
  refine ⟨(hb.alloc hb.size _).setCell (by simpa using hl) _, ?_, fun j hj => ?_, ?_, hl⟩
  · refine ((hh.below hal hg).set (k := i) _).congr fun j hj => ?_
    by_cases e : j = i
    · subst e; simp
    · simp only [if_neg e]
      by_cases h1 : j < i
      · rw [if_pos h1, if_pos (by omega)]
      · rw [if_neg h1, if_neg (by omega)]
  · obtain ⟨h1, h2, h3⟩ := hr j hj
    have e : ¬ j = i := by omega
    have e1 : A j < wr.heap.size := h1.1
    simp only [if_neg e, if_true]
    exact ⟨(h1.below hal e1).other _ _ (by intro h; exact h3 h.symm), h2, h3, by omega⟩
  · simp only [if_true]
    refine ⟨((made_zero wr cols t).other _ _ (by show g ≠ wr.heap.size; omega)).congr fun k _ => by rw [if_neg (by omega)], hb.size, by omega⟩
theorem TabI.call {w wr wr' : World} {g rows cols i k : Nat} {F : Nat → Nat → Int} {A : Nat → Nat} (h : TabI w wr g rows cols i k F A) (hb : Below wr.heap.size wr wr') : TabI w wr' g rows cols i k F A := by
  obtain ⟨h1, h2, h3, h4, h5⟩ := h
  exact ⟨h1.trans (hb.mono h1.size), h2.below hb h2.1, fun j hj => by
    obtain ⟨a, b⟩ := h3 j hj
    exact ⟨a.below hb a.1, b⟩, ⟨h4.1.below hb h4.1.1, h4.2⟩, h5⟩
theorem TabI.put {w wr : World} {g rows cols i k : Nat} {F : Nat → Nat → Int} {A : Nat → Nat} (h : TabI w wr g rows cols i k F A) :
    TabI w ((wr.setCell ⟨A i, k * 2, none⟩ (.bool (canon (F i k)).neg)).setCell ⟨A i, k * 2 + 1, none⟩ (.string (canon (F i k)).mag)) g rows cols i (k + 1) F A := by
  obtain ⟨h1, h2, h3, h4, h5⟩ := h
  refine ⟨(h1.setCell h4.2.1 _).setCell h4.2.1 _, (h2.other _ _ h4.2.2).other _ _ h4.2.2, fun j hj => ?_, ⟨(h4.1.set (k := k) (F i k)).congr fun m _ => ?_, h4.2⟩, h5⟩
  · obtain ⟨a, b, c, d⟩ := h3 j hj
    exact ⟨(a.other _ _ (by exact fun h => d h.symm)).other _ _ (by exact fun h => d h.symm), b, c, d⟩
  · by_cases e : m = k
    · subst e; rw [if_pos rfl, if_pos (by omega)]
    · rw [if_neg e]
      by_cases h1 : m < k
      · rw [if_pos h1, if_pos (by omega)]
      · rw [if_neg h1, if_neg (by omega)]
theorem TabO.own {w wr : World} {g rows cols : Nat} {F : Nat → Nat → Int} {A : Nat → Nat} (h : TabO w wr g rows cols rows F A) : OwnMat wr w.heap.size g rows cols F :=
  ⟨A, h.hdr.congr fun j hj => by rw [if_pos hj], h.row, h.low⟩

end Go.Proofs.Ytcafeffgaokiaaa
namespace Go.Proofs.Ytcafeffgaokiaaa
open Go.RowKit Go.Shelf

end Go.Proofs.Ytcafeffgaokiaaa
namespace Go.Proofs.Ytcafeffgaokiaaa
open Go.RowKit

theorem RetNat.zero {w w' : World} (h : Below w.heap.size w w') : RetNat 0 w (.returned (.slice none 0 0)) w' :=
  ⟨none, 0, rfl, .inl rfl, Nat.le_refl _, by decide, h⟩
theorem mul_bound {a b f c : Nat} (ha : a < 4294967296) (hb : b < 4294967296) (hf : f < 4294967296) (hc : c < 4294967296) : a * b ≤ 18446744065119617025 ∧ a * b + f ≤ 18446744069414584320 ∧ a * b + f + c ≤ 18446744073709551615 := by
  have h : a * b ≤ 4294967295 * 4294967295 := Nat.mul_le_mul (by omega) (by omega)
  omega

/-- What stands in the block when i rows are done. -/
def Rows (xs ys : List Nat) (i : Nat) (G : Nat → Nat) : Prop :=
  (∀ j, G j < 4294967296) ∧ (∀ j, i + ys.length ≤ j → G j = 0) ∧ val (digList G (i + ys.length)) = val (xs.take i) * val ys
/-- What stands there when k digits of row i are done. -/
def Row (ys : List Nat) (i a k : Nat) (G F : Nat → Nat) (c : Nat) : Prop :=
  (∀ j, F j < 4294967296) ∧ c < 4294967296 ∧ (∀ j, i + k ≤ j → F j = G j) ∧ val (digList F (i + k)) + 4294967296 ^ (i + k) * c = val (digList G (i + k)) + 4294967296 ^ i * (a * val (ys.take k))
theorem Row.start {xs ys : List Nat} {i a : Nat} {G : Nat → Nat} (h : Rows xs ys i G) : Row ys i a 0 G G 0 :=
  ⟨h.1, by decide, fun _ _ => rfl, by simp [val]⟩
theorem Row.step {ys : List Nat} {i a b k c : Nat} {G F : Nat → Nat} (h : Row ys i a k G F c) (ha : a < 4294967296) (hb : b < 4294967296) (hk : k < ys.length) (hbe : ys.getD k 0 = b) {S C : Nat}
    (hS : S = (a * b + F (i + k) + c) % 4294967296) (hC : C = (a * b + F (i + k) + c) / 4294967296) :
    Row ys i a (k + 1) G (fun j => if j = i + k then S else F j) C := by
  obtain ⟨h1, h2, h3, h4⟩ := h
  have hb1 := mul_bound ha hb (h1 (i + k)) h2
  refine ⟨?_, by omega, ?_, ?_⟩
  · intro j
    simp only
    split
    · omega
    · exact h1 j
  · intro j hj
    show (if j = i + k then S else F j) = G j
    rw [if_neg (by omega)]
    exact h3 j (by omega)
  · have e1 : digList (fun j => if j = i + k then S else F j) (i + k) = digList F (i + k) := digList_congr fun j hj => by rw [if_neg (by omega)]
    have h5 := mul_step (F := fun j => if j = i + k then S else F j) (G := G) (V := val (ys.take k)) (i := i) (k := k) (a := a) (b := b) (c := c) (c' := C) (by rw [e1]; exact h4) (by
      rw [if_pos rfl, ← h3 (i + k) (Nat.le_refl _)]
      omega)
    rw [show i + (k + 1) = i + k + 1 from rfl, h5, val_take_succ hk, hbe]
theorem Row.done {xs ys : List Nat} {i a c : Nat} {G F : Nat → Nat} (hG : Rows xs ys i G) (h : Row ys i a ys.length G F c) (hi : i < xs.length) (ha : xs.getD i 0 = a) :
    Rows xs ys (i + 1) (fun j => if j = i + ys.length then c else F j) := by
  obtain ⟨h1, h2, h3, h4⟩ := h
  obtain ⟨g1, g2, g3⟩ := hG
  refine ⟨?_, ?_, ?_⟩
  · intro j
    simp only
    split
    · exact h2
    · exact h1 j
  · intro j hj
    show (if j = i + ys.length then c else F j) = 0
    rw [if_neg (by omega), h3 j (by omega)]
    exact g2 j (by omega)
  · have e1 : digList (fun j => if j = i + ys.length then c else F j) (i + ys.length) = digList F (i + ys.length) := digList_congr fun j hj => by rw [if_neg (by omega)]
    rw [List.take_of_length_le (Nat.le_refl _)] at h4
    rw [mul_row (F := fun j => if j = i + ys.length then c else F j) (G := G) (X := val (xs.take i)) (V := val ys) (i := i) (m := ys.length) (a := a) (c := c) (by rw [e1]; exact h4) g3 (by rw [if_pos rfl]), val_take_succ hi, ha]

set_option maxRecDepth 100000 in
set_option maxHeartbeats 4000000 in
theorem multiply_core (xs ys : List Nat) (p q : Option Addr) (c d : Nat) (w : World) (hX : NatsAt w p xs) (hY : NatsAt w q ys) (hdx : Dg xs) (hdy : Dg ys)
    (hx : xs.length ≤ 200000000) (hy : ys.length ≤ 200000000) {v : Nat} (hv : val xs * val ys = v) :
    Calls Try.prog 80 #[.slice p xs.length c, .slice q ys.length d] w (RetNat v w) := by
  have hmk := make_nats .i64 .i64 (xs.length + ys.length) (by omega)
  simp only [Int.natCast_add] at hmk
  have HX := Lib.hid hX
  have HY := Lib.hid hY
  have hD := Lib.hid hdx
  have hE := Lib.hid hdy
  have hV := Lib.hid hv
  clear hX hY hdx hdy hv
  go_enter Try.func80, Try.ntmps80
  by_cases hx0 : xs.length = 0
  · have h1 : ((xs.length : Int) == 0) = true := by rw [beq_iff_eq]; omega
    have h2 : xs = [] := List.length_eq_zero_iff.1 hx0
    have hv0 : 0 = v := by rw [← hV.out, h2]; simp [val]
    have Hv0 := Lib.hid hv0
    clear h2 hv0
    go_wp2
    go_ret
    rw [← Hv0.out]
    exact RetNat.zero (Below.refl _ _)
  have h1 : ((xs.length : Int) == 0) = false := by rw [beq_eq_false_iff_ne]; omega
  by_cases hy0 : ys.length = 0
  · have h3 : ((ys.length : Int) == 0) = true := by rw [beq_iff_eq]; omega
    have h2 : ys = [] := List.length_eq_zero_iff.1 hy0
    have hv0 : 0 = v := by rw [← hV.out, h2]; simp [val]
    have Hv0 := Lib.hid hv0
    clear h2 hv0
    go_wp2
    go_ret
    rw [← Hv0.out]
    exact RetNat.zero (Below.refl _ _)
  have h3 : ((ys.length : Int) == 0) = false := by rw [beq_eq_false_iff_ne]; omega
  go_wp2
  go_loopw [28] (fun v wr => ∃ (i : Nat) (G : Nat → Nat), i ≤ xs.length ∧ v = .int .i64 i ∧ Below w.heap.size w wr ∧ Hid (Rows xs ys i G) ∧ Hid (DigBlk wr w.heap.size G (xs.length + ys.length))) (fun v _ => xs.length - (intOf v).toNat)
  case atStart =>
    refine ⟨0, fun _ => 0, by omega, rfl, (Below.refl _ _).alloc (by simp) _, Lib.hid ⟨fun _ => (by decide : 0 < 4294967296), fun _ _ => rfl, ?_⟩, Lib.hid (DigBlk.new w (xs.length + ys.length))⟩
    have : ∀ k, val (digList (fun _ => 0) k) = 0 := fun k => by
      induction k with
      | zero => rfl
      | succ k ih => rw [val_digList_succ, ih]; simp
    rw [this]; simp [val]
  case round =>
    clear hmk h1 h3
    obtain ⟨i, G, hi, rfl, hb, hR, hB⟩ := hrel
    have Hb := Lib.hid hb
    clear hb
    by_cases hlt : i < xs.length
    · obtain ⟨b, off, rfl, hbl, hcell⟩ := NatsAt.cells HX.out (k := i) hlt
      have hx1 := hcell i hlt
      rw [← Hb.out.cell (p := ⟨b, _, none⟩) hbl] at hx1
      obtain ⟨x, hxe⟩ : ∃ x, xs.getD i 0 = x := ⟨_, rfl⟩
      rw [hxe] at hx1
      have hxl : x < 4294967296 := by rw [← hxe]; exact hD.out.getD i
      have Hxe := Lib.hid hxe
      clear hcell hxe
      go_wp2
      go_loopw [8, 35] (fun cv v wr => ∃ (k e : Nat) (F : Nat → Nat), k ≤ ys.length ∧ v = .int .i64 k ∧ cv = .int .u64 (e : Nat) ∧ Below w.heap.size w wr ∧ Hid (Row ys i x k G F e) ∧ Hid (DigBlk wr w.heap.size F (xs.length + ys.length))) (fun _ v _ => ys.length - (intOf v).toNat)
      case atStart => exact ⟨0, 0, G, by omega, rfl, rfl, Hb.out, Lib.hid (Row.start hR.out), hB⟩
      case round =>
        clear hx1
        obtain ⟨k, e, F, hk, rfl, rfl, hb2, hW, hB2⟩ := hrel
        have Hb2 := Lib.hid hb2
        clear hb2
        by_cases hkl : k < ys.length
        · obtain ⟨b2, off2, rfl, hbl2, hcell2⟩ := NatsAt.cells HY.out (k := k) hkl
          have hy1 := hcell2 k hkl
          obtain ⟨y, hye⟩ : ∃ y, ys.getD k 0 = y := ⟨_, rfl⟩
          rw [← Hb2.out.cell (p := ⟨b2, _, none⟩) hbl2, hye] at hy1
          have hyl : y < 4294967296 := by rw [← hye]; exact hE.out.getD k
          have hc0 := hB2.out.cell (show i + k < xs.length + ys.length by omega)
          have hf := hB2.out.frozen (i + k)
          have hel := hW.out.2.1
          have hFl := hW.out.1 (i + k)
          have hstep := fun S C => Row.step (S := S) (C := C) hW.out hxl hyl hkl hye
          obtain ⟨f, hfe⟩ : ∃ f, F (i + k) = f := ⟨_, rfl⟩
          simp only [hfe] at hc0 hFl hstep
          obtain ⟨m1, m2, m3⟩ := mul_bound hxl hyl hFl hel
          obtain ⟨S, hS⟩ : ∃ S, (x * y + f + e) % 4294967296 = S := ⟨_, rfl⟩
          obtain ⟨C, hC⟩ : ∃ C, (x * y + f + e) / 4294967296 = C := ⟨_, rfl⟩
          have Hstep := Lib.hid (hstep S C hS.symm hC.symm)
          obtain ⟨P, hP⟩ : ∃ P, x * y = P := ⟨_, rfl⟩
          rw [hP] at m1 m2 m3 hS hC
          have hPI : (x : Int) * (y : Int) = (P : Int) := by rw [← hP]; simp
          have e1 : ((P : Int) + (f : Int) + (e : Int)) % 4294967296 = (S : Int) := by omega
          have e2 : ((P : Int) + (f : Int) + (e : Int)) / 4294967296 = (C : Int) := by omega
          have i1 : (i : Int) + (k : Int) < (xs.length : Int) + (ys.length : Int) := by omega
          have i2 : ((i : Int) + (k : Int)).toNat = i + k := by omega
          clear hstep hfe hcell2 hye hS hC hP
          go_wp2
          go_roundw
          case rel =>
            exact ⟨k + 1, C, _, by omega, by go_num, rfl, Hb2.out.setCell (p := ⟨w.heap.size, i + k, none⟩) (by simp) _, Hstep, Lib.hid (hB2.out.set (j := i + k) S)⟩
          case measure => simp [intOf]; omega
        · obtain rfl : k = ys.length := by omega
          have hc0 := hB2.out.cell (show i + ys.length < xs.length + ys.length by omega)
          have hf := hB2.out.frozen (i + ys.length)
          have hel := hW.out.2.1
          have e1 : (e : Int) % 4294967296 = (e : Int) := by omega
          have i1 : (i : Int) + (ys.length : Int) < (xs.length : Int) + (ys.length : Int) := by omega
          have i2 : ((i : Int) + (ys.length : Int)).toNat = i + ys.length := by omega
          go_wp2
          go_roundw
          case rel =>
            exact ⟨i + 1, _, by omega, by go_num, Hb2.out.setCell (p := ⟨w.heap.size, i + ys.length, none⟩) (by simp) _, Lib.hid (Row.done hR.out hW.out hlt Hxe.out), Lib.hid (hB2.out.set (j := i + ys.length) e)⟩
          case measure => simp [intOf]; omega
    · obtain rfl : i = xs.length := by omega
      have hvv : val (digList G (xs.length + ys.length)) = v := by
        rw [hR.out.2.2, List.take_of_length_le (Nat.le_refl _), hV.out]
      have Hvv := Lib.hid hvv
      clear hvv
      go_wp2_with (go_at_call 106; refine (trim_blk (w0 := w) (v := v) hB.out ?_ ?_ Hb.out Hvv.out).mono ?_)
      · exact fun j _ => hR.out.1 j
      · omega
      · rintro e w2 ⟨p2, c2, rfl, hN, hc1, hc2, hb2⟩
        have HN := Lib.hid hN
        have Hb2 := Lib.hid hb2
        clear hN hb2
        go_wp2
        go_ret
        exact ⟨p2, c2, rfl, HN.out, hc1, hc2, Hb2.out⟩
theorem multiply_any (m n : Nat) (p q : Option Addr) (c d : Nat) (w : World) (hX : NatsAt w p (digs m)) (hY : NatsAt w q (digs n)) (hm : (digs m).length ≤ 200000000) (hn : (digs n).length ≤ 200000000) :
    Calls Try.prog 80 #[.slice p (digs m).length c, .slice q (digs n).length d] w (RetNat (m * n) w) :=
  multiply_core (digs m) (digs n) p q c d w hX hY (dg_digs m) (dg_digs n) hm hn (by rw [val_digs, val_digs])
end Go.Proofs.Ytcafeffgaokiaaa
