/- The walk of integer.euclid and of its iterator. The walks of integer.euclid and integer.Gcd. The walks of rational.lowest, New, Ratio. grooveref01: mag and Of of numbers of one digit; Compare with zero; grooveref02.sign. grooveref01: Compare with zero; grooveref02.sign. grooveref01.Compare at canonical numbers. -/
import Derived.Test.YtlaoijfphkhchaaGreatB2
import Derived.Test.YtlaoijfphkhchaaGreatB6
import Derived.Shelf.Abstract
import Derived.Shelf.RegionOpen
import Derived.WalkKit
import Derived.OwnWalkIn
import Derived.TacticsInMore
import Derived.LoopNIn
import Derived.LoopIn
import Derived.Sort.LoopGhostIn
import Derived.Outline
import Derived.Test.YtlaoijfphkhchaaGreatB27
import Derived.Test.YtlaoijfphkhchaaGreatB37
import Derived.Test.YtlaoijfphkhchaaGreatB38
import Derived.Laws.IdiomStrings
import Derived.Deep.RegionWith
import Derived.Test.YtlaoijfphkhchaaGreatB39
namespace Go.Proofs.YtlaoijfphkhchaaGreat
open Go.RowKit Go.Shelf
attribute [local go_sem] Oper.semAt_some

/-- A cell that holds a digit is not in the box of another thing. -/
theorem u32_ne_box {w : World} {b off u : Nat} {t : TypeId} {v : Value} {z : Int} (hc : w.cell? ⟨b, off, none⟩ = some (.int .u32 z)) (hu : Boxed w u t v) (hv : ∀ z, v ≠ .int .u32 z) : b ≠ u := by
  rintro rfl
  simp only [World.cell?, show w.heap[b]? = _ from hu] at hc
  cases off with
  | zero => exact hv z (by simpa using hc)
  | succ k => simp at hc
theorem NatsAt.ne_box {w : World} {b off u : Nat} {xs : List Nat} {t : TypeId} {v : Value} (h : NatsAt w (some ⟨b, off, none⟩) xs) (hl : 0 < xs.length) (hu : Boxed w u t v) (hv : ∀ z, v ≠ .int .u32 z) : b ≠ u := by
  obtain ⟨b', off', he, _, hc⟩ := NatsAt.cells h hl
  cases he
  exact u32_ne_box (hc 0 hl) hu hv
theorem NatsAt.setBox {w : World} {p : Option Addr} {u : Nat} {xs : List Nat} {t : TypeId} {v : Value} (h : NatsAt w p xs) (hu : Boxed w u t v) (hv : ∀ z, v ≠ .int .u32 z) (v' : Value) : NatsAt (w.setCell ⟨u, 0, none⟩ v') p xs := by
  by_cases hl : 0 < xs.length
  · obtain ⟨b, off, rfl, hlt, hc⟩ := NatsAt.cells h hl
    have hne := h.ne_box hl hu hv
    rcases h with h | ⟨b', off', he, _, hc'⟩
    · omega
    · cases he
      refine .inr ⟨b, off, rfl, by simpa using hlt, fun i hi j hj => ?_⟩
      rw [World.cell?_setCell_other _ _ _ _ (by intro h; exact hne (by injection h with h1; exact h1.symm))]
      exact hc' i hi j hj
  · exact .inl (by omega)

theorem digs_one {b : Nat} (hb : b < 4294967296) : (digs b).length ≤ 1 := by
  by_cases h : b = 0
  · subst h; decide
  · rw [digs_pos h, Nat.div_eq_of_lt hb]; simp [digs_zero]
/-- A pair of Euclid's algorithm: two slices and the numbers that they hold. -/
structure EuP where
  p : Option Addr
  c : Nat
  q : Option Addr
  d : Nat
  a : Nat
  b : Nat
def encEu (x : EuP) : Array Value := #[.slice x.p (digs x.a).length x.c, .slice x.q (digs x.b).length x.d]
/-- Digits in none of two blocks. -/
def NatsOff (w : World) (p : Option Addr) (xs : List Nat) (u v : Nat) : Prop := NatsAt w p xs ∧ ∀ b, p = some b → 0 < xs.length → b.block ≠ u ∧ b.block ≠ v
def GEu (Bx By : Nat) (_ : List EuP) (x : EuP) (w : World) : Prop := NatsOff w x.p (digs x.a) Bx By ∧ (digs x.a).length ≤ x.c ∧ x.c ≤ 1000000000
def SEu (g : Nat) (xs : List EuP) : Prop := ∃ pre x, xs = pre ++ [x] ∧ x.a = g
def TEu (Bx By : Nat) (r : Nat) (_ : World) : Prop := r = Bx ∨ r = By
/-- What a round keeps: digits; the iterator's two boxes. -/
def KpEu (Bx By : Nat) (W W' : World) : Prop := W.heap.size ≤ W'.heap.size ∧ (∀ b off z, W.cell? ⟨b, off, none⟩ = some (.int .u32 z) → W'.cell? ⟨b, off, none⟩ = some (.int .u32 z)) ∧ W'.heap[Bx]? = W.heap[Bx]? ∧ W'.heap[By]? = W.heap[By]?
theorem KpEu.nats {Bx By : Nat} {W W' : World} (h : KpEu Bx By W W') {p : Option Addr} {xs : List Nat} (hN : NatsAt W p xs) : NatsAt W' p xs := by
  rcases hN with h0 | ⟨b, off, rfl, hlt, hc⟩
  · exact .inl h0
  · exact .inr ⟨b, off, rfl, Nat.lt_of_lt_of_le hlt h.1, fun i hi j hj => h.2.1 _ _ _ (hc i hi j hj)⟩
theorem below_grown {W W' : World} (h : Below W.heap.size W W') : W.grownBy W' none := by
  obtain ⟨h1, h2, h3, h4, h5⟩ := h
  exact ⟨h1, h2, h3, h4, fun k hk _ => h5 k hk⟩

end Go.Proofs.YtlaoijfphkhchaaGreat
namespace Go.Proofs.YtlaoijfphkhchaaGreat
open Go.RowKit Go.Shelf
attribute [local go_sem] Oper.semAt_some

theorem BoxAt.of_block {W W' : World} {g : Nat} {a b : Value} (h : BoxAt W g a b) (hs : W.heap.size ≤ W'.heap.size) (hb : W'.heap[g]? = W.heap[g]?) : BoxAt W' g a b := by
  obtain ⟨h1, h2, h3, h4, h5⟩ := h
  exact ⟨(cell_of_block hb _).trans h1, (cell_of_block hb _).trans h2, (frozen_of_block hb _).trans h3, (frozen_of_block hb _).trans h4, Nat.lt_of_lt_of_le h5 hs⟩
theorem KpEu.refl_ (Bx By : Nat) (W : World) : KpEu Bx By W W := ⟨Nat.le_refl _, fun _ _ _ h => h, rfl, rfl⟩
theorem KpEu.trans {Bx By : Nat} {A B C : World} (h : KpEu Bx By A B) (k : KpEu Bx By B C) : KpEu Bx By A C :=
  ⟨Nat.le_trans h.1 k.1, fun b o z hz => k.2.1 b o z (h.2.1 b o z hz), k.2.2.1.trans h.2.2.1, k.2.2.2.trans h.2.2.2⟩
theorem cells_of_cell {W : World} {b o : Nat} {v : Value} (h : W.cell? ⟨b, o, none⟩ = some v) : ∃ ob : Obj, W.heap[b]? = some ob ∧ ob.isCells = true := by
  unfold World.cell? at h
  cases ho : W.heap[b]? with
  | none => simp [ho] at h
  | some ob => exact ⟨ob, rfl, by cases ob <;> simp_all [Obj.isCells]⟩
theorem KpEu.put {Bx By : Nat} {W : World} {l : Nat} {o : Obj} (o' : Obj) (hl : W.heap[l]? = some o) (ho : o.isCells = false) (hx : Bx < l) (hy : By < l) : KpEu Bx By W (W.putObj l o') := by
  refine ⟨by simp, fun b f z hz => ?_, World.putObj_heap_other (by omega), World.putObj_heap_other (by omega)⟩
  obtain ⟨ob, hob, hc⟩ := cells_of_cell hz
  have hne : b ≠ l := by rintro rfl; rw [hl] at hob; cases hob; rw [ho] at hc; cases hc
  exact (cell_of_block (World.putObj_heap_other hne) f).trans hz
/-- A turn of a box that holds no digit. -/
theorem KpEu.set {Bx By u : Nat} {W : World} {t : TypeId} {v : Value} (hu : Boxed W u t v) (hv : ∀ z, v ≠ .int .u32 z) (hx : Bx ≠ u) (hy : By ≠ u) (v' : Value) : KpEu Bx By W (W.setCell ⟨u, 0, none⟩ v') := by
  refine ⟨by simp, fun b f z hz => ?_, Below.heap_setCell _ _ _ _ (by simpa using hx), Below.heap_setCell _ _ _ _ (by simpa using hy)⟩
  have hne := u32_ne_box hz hu hv
  exact (cell_of_block (Below.heap_setCell _ _ _ _ (by simpa using hne)) f).trans hz
theorem NatsOff.turn {W W' : World} {p : Option Addr} {xs : List Nat} {u v B : Nat} {row : Option Nat} (h : NatsOff W p xs u v) (hg : W.grownBy W' row) (hr : ∀ r, row = some r → TurnT B (TEu u v) r W) : NatsOff W' p xs u v := by
  refine ⟨?_, h.2⟩
  rcases h.1 with h0 | ⟨b, off, rfl, hlt, hc⟩
  · exact .inl h0
  · by_cases hl : 0 < xs.length
    · refine .inr ⟨b, off, rfl, Nat.lt_of_lt_of_le hlt hg.size, fun i hi j hj => (cell_of_block (hg.block b hlt fun e => ?_) _).trans (hc i hi j hj)⟩
      have ho := h.2 _ rfl hl
      rcases hr b e.symm with hT | ⟨_, o, hb, hoc⟩
      · rcases hT with hT | hT
        · exact ho.1 hT
        · exact ho.2 hT
      · obtain ⟨ob, hob, hcc⟩ := cells_of_cell (hc 0 hl 0 (by decide))
        rw [hb] at hob; cases hob; rw [hoc] at hcc; cases hcc
    · exact .inl (by omega)
/-- Between two rounds of Gcd: its own variable holds the first number of the pair that came last. -/
def IEu (w : World) (Bx By u : Nat) (pre : List EuP) (W : World) : Prop :=
  (∃ v, Boxed W u 73 v ∧ (∀ z, v ≠ .int .u32 z) ∧ ∀ pr x, pre = pr ++ [x] → v = .slice x.p (digs x.a).length x.c ∧ NatsOff W x.p (digs x.a) Bx By ∧ (digs x.a).length ≤ x.c ∧ x.c ≤ 1000000000) ∧
    Below w.heap.size w W ∧ BoxAt W (w.heap.size + 1 + 1) (.bool false) (.string ⟨#[]⟩)
theorem IEu.abides {w : World} {Bx By u B : Nat} (hx : w.heap.size + 1 + 1 < Bx) (hy : w.heap.size + 1 + 1 < By) (hux : u ≠ Bx) (huy : u ≠ By) (hB : w.heap.size + 1 + 1 < B) : AbT (TurnT B (TEu Bx By)) (IEu w Bx By u) := by
  rintro pre W W' row ⟨⟨v, hv, hvz, hl⟩, hb, hbox⟩ hg hr
  have hne : ∀ k o, (W.heap[k]? = some o ∧ o.isCells = true ∧ k ≠ Bx ∧ k ≠ By) → some k ≠ row := by
    rintro k o ⟨h1, h2, h3, h4⟩ e
    rcases hr k e.symm with hT | ⟨_, o', hb, hoc⟩
    · rcases hT with hT | hT
      · exact h3 hT
      · exact h4 hT
    · rw [h1] at hb; cases hb; rw [h2] at hoc; cases hoc
  refine ⟨⟨v, hv.kept hg (hne u _ ⟨hv, rfl, hux, huy⟩), hvz, fun pr x e => ?_⟩, ?_, ?_⟩
  · obtain ⟨h1, h2, h3⟩ := hl pr x e
    exact ⟨h1, h2.turn hg hr, h3⟩
  · refine hb.grown hg hb.size fun k e => ?_
    rcases hr k e with hT | ⟨hk, _⟩
    · rcases hT with hT | hT <;> omega
    · omega
  · obtain ⟨ob, hob, hcc⟩ := cells_of_cell hbox.1
    exact hbox.of_block hg.size (hg.block _ hbox.2.2.2.2 (hne _ _ ⟨hob, hcc, by omega, by omega⟩))

end Go.Proofs.YtlaoijfphkhchaaGreat
namespace Go.Proofs.YtlaoijfphkhchaaGreat
open Go.RowKit

/-- A rational number as the program hands it back. -/
def ratV (n d : Int) : Value := .agg #[.bool (canon n).neg, .string (canon n).mag, .bool (canon d).neg, .string (canon d).mag]
/-- What a function that returns a rational number gives. -/
def RetR (n d : Int) (w : World) (e : Ending) (w' : World) : Prop := e = .returned (ratV n d) ∧ Below w.heap.size w w'

def zeroZ : ZI := ⟨false, ⟨#[]⟩⟩
theorem canon_nat_size {n : Nat} (h : n < 4294967296) : (canon (n : Int)).mag.size ≤ 4 := canon_size _ (by simpa using h)
theorem cmp_pos (n : Nat) (h0 : 0 < n) (h : n < 4294967296) (w : World) :
    Calls Tryz.prog 56 #[.agg #[.bool (canon (n : Int)).neg, .string (canon (n : Int)).mag], .agg #[.bool false, .string ⟨#[]⟩]] w fun e w' => e = .returned (.int .i64 1) ∧ Below w.heap.size w w' := by
  have := cmp_any (canon (n : Int)) zeroZ (by have := canon_nat_size h; omega) (by decide) w
  rw [valZ_canon, show valZ zeroZ = 0 from by decide, show cmpI (n : Int) 0 = 1 from by unfold cmpI; rw [if_neg (by omega), if_pos (by omega)]] at this
  exact this
/-- Division of natural numbers by one digit. -/
theorem div_nat (n d : Nat) (hn : n < 4294967296) (h0 : 0 < d) (hd : d < 4294967296) (w : World) :
    Calls Tryz.prog 91 #[.agg #[.bool (canon (n : Int)).neg, .string (canon (n : Int)).mag], .agg #[.bool (canon (d : Int)).neg, .string (canon (d : Int)).mag]] w (RetDiv (canon ((n / d : Nat) : Int)) (canon ((n % d : Nat) : Int)) w) := by
  have h := div_short (canon (n : Int)) (canon (d : Int)) (by have := canon_nat_size hn; omega) (by have := canon_nat_size hd; omega) (by rw [absZ_canon]; simp; omega) (by rw [absZ_canon]; simpa using hd) w
  have e1 : (canon (n : Int)).neg = false := by simp [canon]
  have e2 : (canon (d : Int)).neg = false := by simp [canon]
  have q1 : quoZ (canon (n : Int)) (canon (d : Int)) = canon ((n / d : Nat) : Int) := by
    unfold quoZ; rw [e1, e2, if_pos rfl, mkZ_pos, absZ_canon, absZ_canon]; rfl
  have q2 : remZ (canon (n : Int)) (canon (d : Int)) = canon ((n % d : Nat) : Int) := by
    unfold remZ; rw [e1, e2, if_pos rfl, mkZ_pos, absZ_canon, absZ_canon]; rfl
  rw [q1, q2] at h
  exact h

/-- A box of four cells. -/
def Box4 (w : World) (g : Nat) (a b c d : Value) : Prop :=
  w.cell? ⟨g, 0, none⟩ = some a ∧ w.cell? ⟨g, 1, none⟩ = some b ∧ w.cell? ⟨g, 2, none⟩ = some c ∧ w.cell? ⟨g, 3, none⟩ = some d ∧ (∀ j, w.frozen? ⟨g, j, none⟩ = false) ∧ g < w.heap.size
theorem Box4.of_block {W W' : World} {g : Nat} {a b c d : Value} (h : Box4 W g a b c d) (hs : W.heap.size ≤ W'.heap.size) (hb : W'.heap[g]? = W.heap[g]?) : Box4 W' g a b c d := by
  obtain ⟨h0, h1, h2, h3, h4, h5⟩ := h
  exact ⟨(cell_of_block hb _).trans h0, (cell_of_block hb _).trans h1, (cell_of_block hb _).trans h2, (cell_of_block hb _).trans h3, fun j => (frozen_of_block hb _).trans (h4 j), Nat.lt_of_lt_of_le h5 hs⟩
theorem Box4.below {w w' : World} {g B : Nat} {a b c d : Value} (h : Box4 w g a b c d) (hb : Below B w w') (hg : g < B) : Box4 w' g a b c d := h.of_block hb.size (hb.block g hg)
theorem Box4.new (w : World) (a b c d : Value) (t : TypeId) : Box4 (w.alloc (.cells #[a, b, c, d] t)) w.heap.size a b c d := by
  have hb := Below.refl (w.heap.size + 1) (w.alloc (.cells #[a, b, c, d] t))
  obtain ⟨⟨h0, h1, h2, h3⟩, h4, _⟩ := box4 hb
  exact ⟨h0, h1, h2, h3, fun j => box_frozen hb (Nat.lt_succ_self _) j, h4⟩

end Go.Proofs.YtlaoijfphkhchaaGreat
namespace Go.Proofs.YtlaoijfphkhchaaGreat
open Go.RowKit

set_option maxRecDepth 100000 in
set_option maxHeartbeats 4000000 in
theorem refCmpMag_zero (a : ByteArray) (h0 : 0 < a.size) (w : World) :
    Calls Tryz.prog 82 #[.string a, .string ⟨#[]⟩] w fun e w' => e = .returned (.int .i64 1) ∧ w = w' := by
  have h1 : (((a.size : Nat) : Int) != 0) = true := by rw [bne_iff_ne]; omega
  have h2 : ¬ ((a.size : Nat) : Int) < 0 := by omega
  go_enter Tryz.func82, Tryz.ntmps82
  go_wp2
  go_ret
  exact ⟨rfl, rfl⟩
end Go.Proofs.YtlaoijfphkhchaaGreat
namespace Go.Proofs.YtlaoijfphkhchaaGreat
open Go.RowKit

theorem BoxAt.dr {w : World} {g : Nat} {a b : Value} (h : BoxAt w g a b) : BoxAt w.drew g a b := h
theorem BoxAt.call {w w' : World} {g : Nat} {a b : Value} (h : BoxAt w g a b) (hb : Below w.heap.size w w') : BoxAt w' g a b := h.below hb h.2.2.2.2
theorem BoxAt.callD {w w' : World} {g : Nat} {a b : Value} (h : BoxAt w g a b) (hb : Below w.drew.heap.size w.drew w') : BoxAt w' g a b := h.dr.call hb
theorem below_call {w0 w w' : World} {B : Nat} (h : Below B w0 w) (hB : B ≤ w.heap.size) (hb : Below w.heap.size w w') : Below B w0 w' := h.trans (hb.mono hB)
theorem below_callD {w0 w w' : World} {B : Nat} (h : Below B w0 w) (hB : B ≤ w.heap.size) (hb : Below w.drew.heap.size w.drew w') : Below B w0 w' := h.drew.trans (hb.mono hB)

set_option maxRecDepth 100000 in
set_option maxHeartbeats 4000000 in
theorem refCmp_zero (n : Nat) (h0 : 0 < n) (hn : n < 256) (w : World) :
    Calls Tryz.prog 61 #[.agg #[.bool (canon (n : Int)).neg, .string (canon (n : Int)).mag], .agg #[.bool false, .string ⟨#[]⟩]] w fun e w' => e = .returned (.int .i64 1) ∧ Below w.heap.size w w' := by
  have hc1 := refCanonical_any (canon (n : Int)) (by have := canon_nat_size (n := n) (by omega); omega)
  have hc2 := refCanonical_any zeroZ (by decide)
  rw [valZ_canon] at hc1
  rw [show canon (valZ zeroZ) = zeroZ from by decide] at hc2
  have hne := canon_nonneg n
  have hsz : 0 < (canon (n : Int)).mag.size := by rw [canon_one (by omega) hn]; exact Nat.one_pos
  generalize canon (n : Int) = Z at *
  obtain ⟨N, M⟩ := Z
  dsimp only at *
  subst hne
  have Hk := Lib.hid (refCmpMag_zero M hsz)
  have Hc1 := Lib.hid hc1
  have Hc2 := Lib.hid hc2
  clear hc1 hc2
  go_enter Tryz.func61, Tryz.ntmps61
  go_upto_region 1 with (fail)
  obtain ⟨W, hW, hA, hB, hb0, hs0⟩ := two_boxes w (.bool false) (.string M) (.bool false) (.string ⟨#[]⟩) 40
  rw [hW]
  have HA := Lib.hid hA
  have HB := Lib.hid hB
  have Hb0 := Lib.hid hb0
  have Hs0 := Lib.hid hs0
  obtain ⟨a0, a1, a2, a3, _⟩ := hA
  obtain ⟨b0, b1, b2, b3, _⟩ := hB
  have n1 : ¬ (w.heap.size = w.heap.size + 1) := by omega
  have n2 : ¬ (w.heap.size + 1 = w.heap.size) := by omega
  clear hW hb0 hs0
  go_region_with (go_at_call 59; (first | go_fit (Hc1.out _) | go_fit (Hc2.out _)); rintro e wx ⟨rfl, hb⟩; have HA := Lib.hid (by first | exact BoxAt.call HA.out hb | exact BoxAt.callD HA.out hb); have HB := Lib.hid (by first | exact BoxAt.call HB.out hb | exact BoxAt.callD HB.out hb); have Hb0 := Lib.hid (by first | exact below_call Hb0.out (by have := HA.out.2.2.2.2; have := HB.out.2.2.2.2; have := Hb0.out.size; have := Hs0.out; omega) hb | exact below_callD Hb0.out (by have := Hb0.out.size; have := Hs0.out; omega) hb); obtain ⟨a0, a1, a2, a3, _⟩ := HA.out; obtain ⟨b0, b1, b2, b3, _⟩ := HB.out; clear hb)
  all_goals
    go_wp2_with (go_at_call 82; go_fit (Hk.out _); rintro e wk ⟨rfl, rfl⟩)
    go_ret
    exact ⟨rfl, (((Hb0.out.setCell (by simp) _).setCell (by simp) _).setCell (by simp) _).setCell (by simp) _⟩

end Go.Proofs.YtlaoijfphkhchaaGreat
namespace Go.Proofs.YtlaoijfphkhchaaGreat
open Go.RowKit
theorem cmpV_neg {x y : Int} (h1 : x < 0) (h2 : y < 0) : cmpV y.natAbs x.natAbs = cmpI x y := by
  unfold cmpV cmpI
  repeat' split
  all_goals omega
theorem cmpV_pos {x y : Int} (h1 : ¬ x < 0) (h2 : ¬ y < 0) : cmpV x.natAbs y.natAbs = cmpI x y := by
  unfold cmpV cmpI
  repeat' split
  all_goals omega
set_option maxRecDepth 100000 in
set_option maxHeartbeats 8000000 in
theorem refCmpC_any (x y : Int) (hx : (canon x).mag.size ≤ 100000000) (hy : (canon y).mag.size ≤ 100000000) (w : World) :
    Calls Tryz.prog 61 #[.agg #[.bool (canon x).neg, .string (canon x).mag], .agg #[.bool (canon y).neg, .string (canon y).mag]] w fun e w' => e = .returned (.int .i64 (cmpI x y)) ∧ Below w.heap.size w w' := by
  have hc1 := refCanonC_any x hx
  have hc2 := refCanonC_any y hy
  have hk1 : ∀ W, Calls Tryz.prog 82 #[.string (canon x).mag, .string (canon y).mag] W fun e w' => e = .returned (.int .i64 (cmpV x.natAbs y.natAbs)) ∧ W = w' := fun W => refCmpMag_any x.natAbs y.natAbs W
  have hk2 : ∀ W, Calls Tryz.prog 82 #[.string (canon y).mag, .string (canon x).mag] W fun e w' => e = .returned (.int .i64 (cmpV y.natAbs x.natAbs)) ∧ W = w' := fun W => refCmpMag_any y.natAbs x.natAbs W
  have hnx := canon_neg x
  have hny := canon_neg y
  obtain ⟨r, hr⟩ : ∃ r, cmpI x y = r := ⟨_, rfl⟩
  rw [hr]
  have HR1 := Lib.hid (fun (h1 : x < 0) (h2 : ¬ y < 0) => show (-1 : Int) = r by rw [← hr]; unfold cmpI; rw [if_pos (by omega)])
  have HR2 := Lib.hid (fun (h1 : ¬ x < 0) (h2 : y < 0) => show (1 : Int) = r by rw [← hr]; unfold cmpI; rw [if_neg (by omega), if_pos (by omega)])
  have HR3 := Lib.hid (fun (h1 : x < 0) (h2 : y < 0) => (cmpV_neg h1 h2).trans hr)
  have HR4 := Lib.hid (fun (h1 : ¬ x < 0) (h2 : ¬ y < 0) => (cmpV_pos h1 h2).trans hr)
  generalize cmpV x.natAbs y.natAbs = c1 at *
  generalize cmpV y.natAbs x.natAbs = c2 at *
  generalize canon x = X at *
  generalize canon y = Y at *
  obtain ⟨NX, MX⟩ := X
  obtain ⟨NY, MY⟩ := Y
  dsimp only at *
  have Hk1 := Lib.hid hk1
  have Hk2 := Lib.hid hk2
  have Hc1 := Lib.hid hc1
  have Hc2 := Lib.hid hc2
  clear hc1 hc2 hk1 hk2 hr hx hy
  by_cases h1 : x < 0
  · rw [decide_eq_true h1] at hnx
    by_cases h2 : y < 0
    · rw [decide_eq_true h2] at hny
      have HR := Lib.hid (HR3.out h1 h2)
      subst hnx
      subst hny
      clear HR1 HR2 HR3 HR4 h1 h2
      go_enter Tryz.func61, Tryz.ntmps61
      go_upto_region 1 with (fail)
      obtain ⟨W, hW, hA, hB, hb0, hs0⟩ := two_boxes w (.bool true) (.string MX) (.bool true) (.string MY) 40
      try rw [hW]
      have HA := Lib.hid hA
      have HB := Lib.hid hB
      have Hb0 := Lib.hid hb0
      have Hs0 := Lib.hid hs0
      obtain ⟨a0, a1, a2, a3, _⟩ := hA
      obtain ⟨b0, b1, b2, b3, _⟩ := hB
      have n1 : ¬ (w.heap.size = w.heap.size + 1) := by omega
      have n2 : ¬ (w.heap.size + 1 = w.heap.size) := by omega
      clear hW hb0 hs0
      go_region_with (go_at_call 59; (first | go_fit (Hc1.out _) | go_fit (Hc2.out _)); rintro e wx ⟨rfl, hb⟩; have HA := Lib.hid (by first | exact BoxAt.call HA.out hb | exact BoxAt.callD HA.out hb); have HB := Lib.hid (by first | exact BoxAt.call HB.out hb | exact BoxAt.callD HB.out hb); have Hb0 := Lib.hid (by first | exact below_call Hb0.out (by have := HA.out.2.2.2.2; have := HB.out.2.2.2.2; have := Hb0.out.size; have := Hs0.out; omega) hb | exact below_callD Hb0.out (by have := Hb0.out.size; have := Hs0.out; omega) hb); obtain ⟨a0, a1, a2, a3, _⟩ := HA.out; obtain ⟨b0, b1, b2, b3, _⟩ := HB.out; clear hb)
      all_goals
        go_wp2_with (go_at_call 82; go_fit (Hk2.out _); rintro e wk ⟨rfl, rfl⟩)
        go_ret
        exact ⟨by rw [← HR.out]; rfl, (((Hb0.out.setCell (by simp) _).setCell (by simp) _).setCell (by simp) _).setCell (by simp) _⟩
    · rw [decide_eq_false h2] at hny
      have HR := Lib.hid (HR1.out h1 h2)
      subst hnx
      subst hny
      clear HR1 HR2 HR3 HR4 h1 h2
      go_enter Tryz.func61, Tryz.ntmps61
      go_upto_region 1 with (fail)
      obtain ⟨W, hW, hA, hB, hb0, hs0⟩ := two_boxes w (.bool true) (.string MX) (.bool false) (.string MY) 40
      try rw [hW]
      have HA := Lib.hid hA
      have HB := Lib.hid hB
      have Hb0 := Lib.hid hb0
      have Hs0 := Lib.hid hs0
      obtain ⟨a0, a1, a2, a3, _⟩ := hA
      obtain ⟨b0, b1, b2, b3, _⟩ := hB
      have n1 : ¬ (w.heap.size = w.heap.size + 1) := by omega
      have n2 : ¬ (w.heap.size + 1 = w.heap.size) := by omega
      clear hW hb0 hs0
      go_region_with (go_at_call 59; (first | go_fit (Hc1.out _) | go_fit (Hc2.out _)); rintro e wx ⟨rfl, hb⟩; have HA := Lib.hid (by first | exact BoxAt.call HA.out hb | exact BoxAt.callD HA.out hb); have HB := Lib.hid (by first | exact BoxAt.call HB.out hb | exact BoxAt.callD HB.out hb); have Hb0 := Lib.hid (by first | exact below_call Hb0.out (by have := HA.out.2.2.2.2; have := HB.out.2.2.2.2; have := Hb0.out.size; have := Hs0.out; omega) hb | exact below_callD Hb0.out (by have := Hb0.out.size; have := Hs0.out; omega) hb); obtain ⟨a0, a1, a2, a3, _⟩ := HA.out; obtain ⟨b0, b1, b2, b3, _⟩ := HB.out; clear hb)
      all_goals
        go_wp2
        go_ret
        exact ⟨by rw [← HR.out]; rfl, (((Hb0.out.setCell (by simp) _).setCell (by simp) _).setCell (by simp) _).setCell (by simp) _⟩
  · rw [decide_eq_false h1] at hnx
    by_cases h2 : y < 0
    · rw [decide_eq_true h2] at hny
      have HR := Lib.hid (HR2.out h1 h2)
      subst hnx
      subst hny
      clear HR1 HR2 HR3 HR4 h1 h2
      go_enter Tryz.func61, Tryz.ntmps61
      go_upto_region 1 with (fail)
      obtain ⟨W, hW, hA, hB, hb0, hs0⟩ := two_boxes w (.bool false) (.string MX) (.bool true) (.string MY) 40
      try rw [hW]
      have HA := Lib.hid hA
      have HB := Lib.hid hB
      have Hb0 := Lib.hid hb0
      have Hs0 := Lib.hid hs0
      obtain ⟨a0, a1, a2, a3, _⟩ := hA
      obtain ⟨b0, b1, b2, b3, _⟩ := hB
      have n1 : ¬ (w.heap.size = w.heap.size + 1) := by omega
      have n2 : ¬ (w.heap.size + 1 = w.heap.size) := by omega
      clear hW hb0 hs0
      go_region_with (go_at_call 59; (first | go_fit (Hc1.out _) | go_fit (Hc2.out _)); rintro e wx ⟨rfl, hb⟩; have HA := Lib.hid (by first | exact BoxAt.call HA.out hb | exact BoxAt.callD HA.out hb); have HB := Lib.hid (by first | exact BoxAt.call HB.out hb | exact BoxAt.callD HB.out hb); have Hb0 := Lib.hid (by first | exact below_call Hb0.out (by have := HA.out.2.2.2.2; have := HB.out.2.2.2.2; have := Hb0.out.size; have := Hs0.out; omega) hb | exact below_callD Hb0.out (by have := Hb0.out.size; have := Hs0.out; omega) hb); obtain ⟨a0, a1, a2, a3, _⟩ := HA.out; obtain ⟨b0, b1, b2, b3, _⟩ := HB.out; clear hb)
      all_goals
        go_wp2
        go_ret
        exact ⟨by rw [← HR.out]; rfl, (((Hb0.out.setCell (by simp) _).setCell (by simp) _).setCell (by simp) _).setCell (by simp) _⟩
    · rw [decide_eq_false h2] at hny
      have HR := Lib.hid (HR4.out h1 h2)
      subst hnx
      subst hny
      clear HR1 HR2 HR3 HR4 h1 h2
      go_enter Tryz.func61, Tryz.ntmps61
      go_upto_region 1 with (fail)
      obtain ⟨W, hW, hA, hB, hb0, hs0⟩ := two_boxes w (.bool false) (.string MX) (.bool false) (.string MY) 40
      try rw [hW]
      have HA := Lib.hid hA
      have HB := Lib.hid hB
      have Hb0 := Lib.hid hb0
      have Hs0 := Lib.hid hs0
      obtain ⟨a0, a1, a2, a3, _⟩ := hA
      obtain ⟨b0, b1, b2, b3, _⟩ := hB
      have n1 : ¬ (w.heap.size = w.heap.size + 1) := by omega
      have n2 : ¬ (w.heap.size + 1 = w.heap.size) := by omega
      clear hW hb0 hs0
      go_region_with (go_at_call 59; (first | go_fit (Hc1.out _) | go_fit (Hc2.out _)); rintro e wx ⟨rfl, hb⟩; have HA := Lib.hid (by first | exact BoxAt.call HA.out hb | exact BoxAt.callD HA.out hb); have HB := Lib.hid (by first | exact BoxAt.call HB.out hb | exact BoxAt.callD HB.out hb); have Hb0 := Lib.hid (by first | exact below_call Hb0.out (by have := HA.out.2.2.2.2; have := HB.out.2.2.2.2; have := Hb0.out.size; have := Hs0.out; omega) hb | exact below_callD Hb0.out (by have := Hb0.out.size; have := Hs0.out; omega) hb); obtain ⟨a0, a1, a2, a3, _⟩ := HA.out; obtain ⟨b0, b1, b2, b3, _⟩ := HB.out; clear hb)
      all_goals
        go_wp2_with (go_at_call 82; go_fit (Hk1.out _); rintro e wk ⟨rfl, rfl⟩)
        go_ret
        exact ⟨by rw [← HR.out]; rfl, (((Hb0.out.setCell (by simp) _).setCell (by simp) _).setCell (by simp) _).setCell (by simp) _⟩
end Go.Proofs.YtlaoijfphkhchaaGreat
