/- append: numbers onto a row of the call's own, rows onto a list of rows of the call's own. -/
import Derived.Test.YtmbamcpndbimaaaGreatDoorJ3
import Derived.OwnWalk
import Derived.Lib.Hide
import Derived.RangeFuncBox
import Derived.Shelf.Abstract
import Derived.Test.YtmbamcpndbimaaaGreatDoorJ1
namespace Go.Proofs.YtmbamcpndbimaaaGreatDoor
open Go.RowKit
def zL (xs : List Int) : List Value := xs.flatMap fun x => [.bool (canon x).neg, .string (canon x).mag]
theorem zL_append (xs ys : List Int) : zL (xs ++ ys) = zL xs ++ zL ys := List.flatMap_append ..
theorem zL_cons (x : Int) (xs : List Int) : zL (x :: xs) = .bool (canon x).neg :: .string (canon x).mag :: zL xs := rfl
theorem zL_length (xs : List Int) : (zL xs).length = xs.length * 2 := by
 induction xs with
 | nil => rfl
 | cons x xs ih => rw [zL_cons, List.length_cons, List.length_cons, ih, List.length_cons]; omega
theorem zL_get (xs : List Int) : ∀ k, k < xs.length → (zL xs)[k * 2]? = some (.bool (canon (xs.getD k 0)).neg) ∧ (zL xs)[k * 2 + 1]? = some (.string (canon (xs.getD k 0)).mag) := by
 induction xs with
 | nil => intro k hk; cases hk
 | cons x xs ih =>
  intro k hk
  rw [zL_cons]
  match k, hk with
  | 0, _ => exact ⟨rfl, rfl⟩
  | k + 1, hk =>
   have h := ih k (by simpa using hk)
   rw [show (k + 1) * 2 = k * 2 + 1 + 1 from by omega]
   exact ⟨by simpa using h.1, by simpa using h.2⟩
theorem zL_one (xs : List Int) : ∀ u ∈ zL xs, u.oneCell' = true := by
 induction xs with
 | nil => intro u hu; cases hu
 | cons x xs ih =>
  intro u hu
  rw [zL_cons] at hu
  simp only [List.mem_cons] at hu
  rcases hu with rfl | rfl | hu
  ·rfl
  ·rfl
  ·exact ih u hu
def OwnZ (w : World) (B : Nat) (v : Value) (xs : List Int) : Prop := w.ownsRow B 24 2 v xs.length (zL xs)
theorem OwnZ.made (w : World) {B : Nat} (h : B ≤ w.heap.size) : OwnZ (w.alloc (.cells #[] 24)) B (.slice (some ⟨w.heap.size, 0, none⟩) 0 0) [] := World.ownsRow_made w #[] 0 h (by simp [maxLen]) rfl
theorem OwnZ.below {w w' : World} {B C : Nat} {v : Value} {xs : List Int} (h : OwnZ w B v xs) (hB : w.heap.size ≤ C) (hb : Below C w w') : OwnZ w' B v xs := ownsRow_below h hB hb
theorem OwnZ.alloc {w : World} {B : Nat} {v : Value} {xs : List Int} (h : OwnZ w B v xs) (o : Obj) : OwnZ (w.alloc o) B v xs := World.ownsRow.alloc h o
theorem wpList_append_zs {ops : Array Oper} {rest : List Oper} {o : Oper} {a : Act} {Q : Exit → Act → World → Prop} {w : World} (hgd : o.guard = none) (s x : Operand)
  (ho : o.op = .call { callee := .builtin .append, args := #[s, x], argTypes := #[22, 22] })
  (base : Nat) (v : Value) (xs : List Int) (hs : a.eval s = v) (hown : OwnZ w base v xs) (g off c m : Nat) (ys : List Int) (hm : ys.length = m) (hx : a.eval x = .slice (some ⟨g, off, none⟩) m c)
  (hc : ∀ k, k < ys.length → w.cell? ⟨g, off + k * 2, none⟩ = some (.bool (canon (ys.getD k 0)).neg) ∧ w.cell? ⟨g, off + k * 2 + 1, none⟩ = some (.string (canon (ys.getD k 0)).mag)) (hn : xs.length + ys.length < 1000000000000) (hbase : base ≤ w.heap.size)
  (h : ∀ v' w', OwnZ w' base v' (xs ++ ys) → w.grownBy w' v.ownBlock → wpList Tryz.prog ops Q rest (a.put o.dst v') w') : wpList Tryz.prog ops Q (o :: rest) a w := by
 obtain ⟨i0, hi, hzz⟩ := Option.map_eq_some_iff.1 zInfo
 simp only [Prod.mk.injEq] at hzz
 obtain ⟨hz0, hz1, hz2⟩ := hzz
 subst hm
 refine wpList_append_own _ hgd s x _ ho base 24 i0 (.agg #[.bool false, .string ⟨#[]⟩]) 2 24 Tryz.underlying22 hi hz0 hz1 hz2 rfl (by decide) v xs.length (zL xs) hs hown ⟨g, off, none⟩ ys.length c (zL ys) hx (zL_length ys) ?_ (zL_one ys) ?_ ?_ hbase ?_
 ·intro j u hj
  have hjl : j < (zL ys).length := (List.getElem?_eq_some_iff.1 hj).1
  rw [zL_length] at hjl
  have hk : j / 2 < ys.length := by omega
  obtain ⟨c0, c1⟩ := hc (j / 2) hk
  obtain ⟨z0, z1⟩ := zL_get ys (j / 2) hk
  rw [Addr.add_lit]
  by_cases hp : j % 2 = 0
  ·have e : j = j / 2 * 2 := by omega
   rw [e] at hj ⊢
   rw [z0] at hj
   rw [c0]; exact hj
  ·have e : j = j / 2 * 2 + 1 := by omega
   rw [e] at hj ⊢
   rw [z1] at hj
   rw [show off + (j / 2 * 2 + 1) = off + j / 2 * 2 + 1 from by omega, c1]; exact hj
 ·unfold maxLen; omega
 ·omega
 ·intro v' w' h2 h3 _
  exact h v' w' (by unfold OwnZ; rw [List.length_append, zL_append]; exact h2) h3
def RowT (w : World) (g n : Nat) (f : Nat → Int) : Prop := ∃ cur, w.heap[g]? = some (.cells cur 24 (0, 0)) ∧ ∀ k, k < n → cur[k * 2]? = some (.bool (canon (f k)).neg) ∧ cur[k * 2 + 1]? = some (.string (canon (f k)).mag)
theorem RowT.z {w : World} {g n : Nat} {f : Nat → Int} (h : RowT w g n f) : ZAt w g n f := by
 obtain ⟨cur, hh, hc⟩ := h
 refine ⟨(Array.getElem?_eq_some_iff.1 hh).1, fun k hk => ⟨⟨?_, ?_⟩, ?_, ?_⟩⟩
 ·unfold World.cell?; simp only [hh]; simpa using (hc k hk).1
 ·unfold World.cell?; simp only [hh]; simpa using (hc k hk).2
 ·unfold World.frozen?; simp only [hh]; simp
 ·unfold World.frozen?; simp only [hh]; simp
theorem OwnZ.row {w : World} {B : Nat} {v : Value} {xs : List Int} (h : OwnZ w B v xs) (h0 : 0 < xs.length) : ∃ g cap, v = .slice (some ⟨g, 0, none⟩) xs.length cap ∧ B ≤ g ∧ RowT w g xs.length (fun k => xs.getD k 0) := by
 rcases h.2 with ⟨_, h1⟩ | ⟨g, cap, cur, rfl, hg, hh, hnc, _, hsz, htk⟩
 ·omega
 ·refine ⟨g, cap, rfl, hg, cur, hh, fun k hk => ?_⟩
  obtain ⟨z0, z1⟩ := zL_get xs k hk
  rw [← htk, List.getElem?_take_of_lt (by omega)] at z0 z1
  exact ⟨by simpa using z0, by simpa using z1⟩
theorem RowT.congr {w : World} {g n : Nat} {f h : Nat → Int} (hz : RowT w g n f) (e : ∀ k, k < n → f k = h k) : RowT w g n h := by
 obtain ⟨cur, hh, hc⟩ := hz
 exact ⟨cur, hh, fun k hk => by rw [← e k hk]; exact hc k hk⟩
def zsF (f : Nat → Int) (n : Nat) : List Int := (List.range n).map f
theorem zsF_len (f : Nat → Int) (n : Nat) : (zsF f n).length = n := by simp [zsF]
theorem zsF_get (f : Nat → Int) (n : Nat) {k : Nat} (hk : k < n) : (zsF f n).getD k 0 = f k := by
 unfold zsF
 rw [List.getD_eq_getElem?_getD, List.getElem?_map, List.getElem?_range hk]; rfl
theorem OwnZ.mkRow {w : World} {B : Nat} {v : Value} {f : Nat → Int} {n : Nat} (h : OwnZ w B v ([] ++ zsF f n)) (h0 : 0 < n) : ∃ g cap, v = .slice (some ⟨g, 0, none⟩) n cap ∧ B ≤ g ∧ RowT w g n f := by
 rw [List.nil_append] at h
 obtain ⟨g, cap, hv, hB, hr⟩ := OwnZ.row h (by rw [zsF_len]; exact h0)
 rw [zsF_len] at hv hr
 exact ⟨g, cap, hv, hB, hr.congr fun k hk => zsF_get f n hk⟩
open Go.RowKit Go.Shelf
open Go.RowKit
theorem RetNat.zero {w w' : World} (h : Below w.heap.size w w') : RetNat 0 w (.returned (.slice none 0 0)) w' :=
 ⟨none, 0, rfl, .inl rfl, Nat.le_refl _, by decide, h⟩
theorem mul_bound {a b f c : Nat} (ha : a < 4294967296) (hb : b < 4294967296) (hf : f < 4294967296) (hc : c < 4294967296) : a * b ≤ 18446744065119617025 ∧ a * b + f ≤ 18446744069414584320 ∧ a * b + f + c ≤ 18446744073709551615 := by
 have h : a * b ≤ 4294967295 * 4294967295 := Nat.mul_le_mul (by omega) (by omega)
 omega
def Rows (xs ys : List Nat) (i : Nat) (G : Nat → Nat) : Prop :=
 (∀ j, G j < 4294967296) ∧ (∀ j, i + ys.length ≤ j → G j = 0) ∧ val (digList G (i + ys.length)) = val (xs.take i) * val ys
def Row (ys : List Nat) (i a k : Nat) (G F : Nat → Nat) (c : Nat) : Prop :=
 (∀ j, F j < 4294967296) ∧ c < 4294967296 ∧ (∀ j, i + k ≤ j → F j = G j) ∧ val (digList F (i + k)) + 4294967296 ^ (i + k) * c = val (digList G (i + k)) + 4294967296 ^ i * (a * val (ys.take k))
theorem Row.start {xs ys : List Nat} {i a : Nat} {G : Nat → Nat} (h : Rows xs ys i G) : Row ys i a 0 G G 0 :=
 ⟨h.1, by decide, fun _ _ => rfl, by simp [val]⟩
theorem Row.step {ys : List Nat} {i a b k c : Nat} {G F : Nat → Nat} (h : Row ys i a k G F c) (ha : a < 4294967296) (hb : b < 4294967296) (hk : k < ys.length) (hbe : ys.getD k 0 = b) {S C : Nat}
  (hS : S = (a * b + F (i + k) + c) % 4294967296) (hC : C = (a * b + F (i + k) + c) / 4294967296) :
  Row ys i a (k + 1) G (fun j => if j = i + k then S else F j) C := by
 obtain ⟨h1, h2, h3, h4⟩ := h
 have hb1 := mul_bound ha hb (h1 (i + k)) h2
 refine ⟨?_, by omega, ?_, ?_⟩
 ·intro j
  simp only
  split
  ·omega
  ·exact h1 j
 ·intro j hj
  show (if j = i + k then S else F j) = G j
  rw [if_neg (by omega)]
  exact h3 j (by omega)
 ·have e1 : digList (fun j => if j = i + k then S else F j) (i + k) = digList F (i + k) := digList_congr fun j hj => by rw [if_neg (by omega)]
  have h5 := mul_step (F := fun j => if j = i + k then S else F j) (G := G) (V := val (ys.take k)) (i := i) (k := k) (a := a) (b := b) (c := c) (c' := C) (by rw [e1]; exact h4) (by
   rw [if_pos rfl, ← h3 (i + k) (Nat.le_refl _)]
   omega)
  rw [show i + (k + 1) = i + k + 1 from rfl, h5, val_take_succ hk, hbe]
theorem Row.done {xs ys : List Nat} {i a c : Nat} {G F : Nat → Nat} (hG : Rows xs ys i G) (h : Row ys i a ys.length G F c) (hi : i < xs.length) (ha : xs.getD i 0 = a) :
  Rows xs ys (i + 1) (fun j => if j = i + ys.length then c else F j) := by
 obtain ⟨h1, h2, h3, h4⟩ := h
 obtain ⟨g1, g2, g3⟩ := hG
 refine ⟨?_, ?_, ?_⟩
 ·intro j
  simp only
  split
  ·exact h2
  ·exact h1 j
 ·intro j hj
  show (if j = i + ys.length then c else F j) = 0
  rw [if_neg (by omega), h3 j (by omega)]
  exact g2 j (by omega)
 ·have e1 : digList (fun j => if j = i + ys.length then c else F j) (i + ys.length) = digList F (i + ys.length) := digList_congr fun j hj => by rw [if_neg (by omega)]
  rw [List.take_of_length_le (Nat.le_refl _)] at h4
  rw [mul_row (F := fun j => if j = i + ys.length then c else F j) (G := G) (X := val (xs.take i)) (V := val ys) (i := i) (m := ys.length) (a := a) (c := c) (by rw [e1]; exact h4) g3 (by rw [if_pos rfl]), val_take_succ hi, ha]
set_option maxRecDepth 100000 in
set_option maxHeartbeats 4000000 in
theorem multiply_core (xs ys : List Nat) (p q : Option Addr) (c d : Nat) (w : World) (hX : NatsAt w p xs) (hY : NatsAt w q ys) (hdx : Dg xs) (hdy : Dg ys)
  (hx : xs.length ≤ 200000000) (hy : ys.length ≤ 200000000) {v : Nat} (hv : val xs * val ys = v) :
  Calls Tryz.prog 87 #[.slice p xs.length c, .slice q ys.length d] w (RetNat v w) := by
 have hmk := make_nats .i64 .i64 (xs.length + ys.length) (by omega)
 simp only [Int.natCast_add] at hmk
 have HX := lhd hX
 have HY := lhd hY
 have hD := lhd hdx
 have hE := lhd hdy
 have hV := lhd hv
 clear hX hY hdx hdy hv
 go_enter Tryz.func87, Tryz.ntmps87
 by_cases hx0 : xs.length = 0
 ·have h1 : ((xs.length : Int) == 0) = true := by rw [beq_iff_eq]; omega
  have h2 : xs = [] := List.length_eq_zero_iff.1 hx0
  have hv0 : 0 = v := by rw [← hV.out, h2]; simp [val]
  have Hv0 := lhd hv0
  clear h2 hv0
  go_wp2
  go_ret
  rw [← Hv0.out]
  exact RetNat.zero (Below.refl _ _)
 have h1 : ((xs.length : Int) == 0) = false := by rw [beq_eq_false_iff_ne]; omega
 by_cases hy0 : ys.length = 0
 ·have h3 : ((ys.length : Int) == 0) = true := by rw [beq_iff_eq]; omega
  have h2 : ys = [] := List.length_eq_zero_iff.1 hy0
  have hv0 : 0 = v := by rw [← hV.out, h2]; simp [val]
  have Hv0 := lhd hv0
  clear h2 hv0
  go_wp2
  go_ret
  rw [← Hv0.out]
  exact RetNat.zero (Below.refl _ _)
 have h3 : ((ys.length : Int) == 0) = false := by rw [beq_eq_false_iff_ne]; omega
 go_wp2
 go_loopw [28] (fun v wr => ∃ (i : Nat) (G : Nat → Nat), i ≤ xs.length ∧ v = .int .i64 i ∧ Below w.heap.size w wr ∧ Hid (Rows xs ys i G) ∧ Hid (DigBlk wr w.heap.size G (xs.length + ys.length))) (fun v _ => xs.length - (intOf v).toNat)
 case atStart =>
  refine ⟨0, fun _ => 0, by omega, rfl, (Below.refl _ _).alloc (by simp) _, lhd ⟨fun _ => (by decide : 0 < 4294967296), fun _ _ => rfl, ?_⟩, lhd (DigBlk.new w (xs.length + ys.length))⟩
  have : ∀ k, val (digList (fun _ => 0) k) = 0 := fun k => by
   induction k with
   | zero => rfl
   | succ k ih => rw [val_digList_succ, ih]; simp
  rw [this]; simp [val]
 case round =>
  clear hmk h1 h3
  obtain ⟨i, G, hi, rfl, hb, hR, hB⟩ := hrel
  have Hb := lhd hb
  clear hb
  by_cases hlt : i < xs.length
  ·obtain ⟨b, off, rfl, hbl, hcell⟩ := NatsAt.cells HX.out (k := i) hlt
   have hx1 := hcell i hlt
   rw [← Hb.out.cell (p := ⟨b, _, none⟩) hbl] at hx1
   obtain ⟨x, hxe⟩ : ∃ x, xs.getD i 0 = x := ⟨_, rfl⟩
   rw [hxe] at hx1
   have hxl : x < 4294967296 := by rw [← hxe]; exact hD.out.getD i
   have Hxe := lhd hxe
   clear hcell hxe
   go_wp2
   go_loopw [8, 35] (fun cv v wr => ∃ (k e : Nat) (F : Nat → Nat), k ≤ ys.length ∧ v = .int .i64 k ∧ cv = .int .u64 (e : Nat) ∧ Below w.heap.size w wr ∧ Hid (Row ys i x k G F e) ∧ Hid (DigBlk wr w.heap.size F (xs.length + ys.length))) (fun _ v _ => ys.length - (intOf v).toNat)
   case atStart => exact ⟨0, 0, G, by omega, rfl, rfl, Hb.out, lhd (Row.start hR.out), hB⟩
   case round =>
    clear hx1
    obtain ⟨k, e, F, hk, rfl, rfl, hb2, hW, hB2⟩ := hrel
    have Hb2 := lhd hb2
    clear hb2
    by_cases hkl : k < ys.length
    ·obtain ⟨b2, off2, rfl, hbl2, hcell2⟩ := NatsAt.cells HY.out (k := k) hkl
     have hy1 := hcell2 k hkl
     obtain ⟨y, hye⟩ : ∃ y, ys.getD k 0 = y := ⟨_, rfl⟩
     rw [← Hb2.out.cell (p := ⟨b2, _, none⟩) hbl2, hye] at hy1
     have hyl : y < 4294967296 := by rw [← hye]; exact hE.out.getD k
     have hc0 := hB2.out.cell (show i + k < xs.length + ys.length by omega)
     have hf := hB2.out.frozen (i + k)
     have hel := hW.out.2.1
     have hFl := hW.out.1 (i + k)
     have hstep := fun S C => Row.step (S := S) (C := C) hW.out hxl hyl hkl hye
     obtain ⟨f, hfe⟩ : ∃ f, F (i + k) = f := ⟨_, rfl⟩
     simp only [hfe] at hc0 hFl hstep
     obtain ⟨m1, m2, m3⟩ := mul_bound hxl hyl hFl hel
     obtain ⟨S, hS⟩ : ∃ S, (x * y + f + e) % 4294967296 = S := ⟨_, rfl⟩
     obtain ⟨C, hC⟩ : ∃ C, (x * y + f + e) / 4294967296 = C := ⟨_, rfl⟩
     have Hstep := lhd (hstep S C hS.symm hC.symm)
     obtain ⟨P, hP⟩ : ∃ P, x * y = P := ⟨_, rfl⟩
     rw [hP] at m1 m2 m3 hS hC
     have hPI : (x : Int) * (y : Int) = (P : Int) := by rw [← hP]; simp
     have e1 : ((P : Int) + (f : Int) + (e : Int)) % 4294967296 = (S : Int) := by omega
     have e2 : ((P : Int) + (f : Int) + (e : Int)) / 4294967296 = (C : Int) := by omega
     have i1 : (i : Int) + (k : Int) < (xs.length : Int) + (ys.length : Int) := by omega
     have i2 : ((i : Int) + (k : Int)).toNat = i + k := by omega
     clear hstep hfe hcell2 hye hS hC hP
     go_wp2
     go_roundw
     case rel =>
      exact ⟨k + 1, C, _, by omega, by go_num, rfl, Hb2.out.setCell (p := ⟨w.heap.size, i + k, none⟩) (by simp) _, Hstep, lhd (hB2.out.set (j := i + k) S)⟩
     case measure => simp [intOf]; omega
    ·obtain rfl : k = ys.length := by omega
     have hc0 := hB2.out.cell (show i + ys.length < xs.length + ys.length by omega)
     have hf := hB2.out.frozen (i + ys.length)
     have hel := hW.out.2.1
     have e1 : (e : Int) % 4294967296 = (e : Int) := by omega
     have i1 : (i : Int) + (ys.length : Int) < (xs.length : Int) + (ys.length : Int) := by omega
     have i2 : ((i : Int) + (ys.length : Int)).toNat = i + ys.length := by omega
     go_wp2
     go_roundw
     case rel =>
      exact ⟨i + 1, _, by omega, by go_num, Hb2.out.setCell (p := ⟨w.heap.size, i + ys.length, none⟩) (by simp) _, lhd (Row.done hR.out hW.out hlt Hxe.out), lhd (hB2.out.set (j := i + ys.length) e)⟩
     case measure => simp [intOf]; omega
  ·obtain rfl : i = xs.length := by omega
   have hvv : val (digList G (xs.length + ys.length)) = v := by
    rw [hR.out.2.2, List.take_of_length_le (Nat.le_refl _), hV.out]
   have Hvv := lhd hvv
   clear hvv
   go_wp2_with (go_at_call 95; refine (trim_blk (w0 := w) (v := v) hB.out ?_ ?_ Hb.out Hvv.out).mono ?_)
   ·exact fun j _ => hR.out.1 j
   ·omega
   ·rintro e w2 ⟨p2, c2, rfl, hN, hc1, hc2, hb2⟩
    have HN := lhd hN
    have Hb2 := lhd hb2
    clear hN hb2
    go_wp2
    go_ret
    exact ⟨p2, c2, rfl, HN.out, hc1, hc2, Hb2.out⟩
theorem multiply_any (m n : Nat) (p q : Option Addr) (c d : Nat) (w : World) (hX : NatsAt w p (digs m)) (hY : NatsAt w q (digs n)) (hm : (digs m).length ≤ 200000000) (hn : (digs n).length ≤ 200000000) :
  Calls Tryz.prog 87 #[.slice p (digs m).length c, .slice q (digs n).length d] w (RetNat (m * n) w) :=
 multiply_core (digs m) (digs n) p q c d w hX hY (dg_digs m) (dg_digs n) hm hn (by rw [val_digs, val_digs])
end Go.Proofs.YtmbamcpndbimaaaGreatDoor
