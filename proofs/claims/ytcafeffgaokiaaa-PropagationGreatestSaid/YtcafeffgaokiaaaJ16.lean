/- The walks of integer.euclid and integer.Gcd. The walks of rational.lowest, New, Ratio. The walks of rational.New, Ratio. -/
import Derived.Test.YtcafeffgaokiaaaJ15
import Derived.Test.YtcafeffgaokiaaaJ14
import Derived.Outline
namespace Go.Proofs.Ytcafeffgaokiaaa
open Go.RowKit Go.Shelf
attribute [local go_sem] Oper.semAt_some

set_option maxHeartbeats 1000000 in
theorem euclid_any (v1 v2 : Value) (p q : Option Addr) (a b c d : Nat) (h1 : v1 = .slice p a c) (h2 : v2 = .slice q b d) (w : World) :
    Calls Try.prog 127 #[v1, v2] w fun e w' => e = .returned (.func (.func 143) #[] #[.pointer (some ⟨w.heap.size, 0, none⟩), .pointer (some ⟨w.heap.size + 1, 0, none⟩)]) ∧ w' = (w.alloc (.cells #[v1] 136)).alloc (.cells #[v2] 136) := by
  subst h1 h2
  go_enter Try.func127, Try.ntmps127
  go_wp2
  go_ret
  exact ⟨rfl, rfl⟩

theorem BoxAt.of_block {W W' : World} {g : Nat} {a b : Value} (h : BoxAt W g a b) (hs : W.heap.size ≤ W'.heap.size) (hb : W'.heap[g]? = W.heap[g]?) : BoxAt W' g a b := by
  obtain ⟨h1, h2, h3, h4, h5⟩ := h
  exact ⟨(cell_of_block hb _).trans h1, (cell_of_block hb _).trans h2, (frozen_of_block hb _).trans h3, (frozen_of_block hb _).trans h4, Nat.lt_of_lt_of_le h5 hs⟩
theorem KpEu.trans {Bx By : Nat} {A B C : World} (h : KpEu Bx By A B) (k : KpEu Bx By B C) : KpEu Bx By A C :=
  ⟨Nat.le_trans h.1 k.1, fun b o z hz => k.2.1 b o z (h.2.1 b o z hz), k.2.2.1.trans h.2.2.1, k.2.2.2.trans h.2.2.2⟩
theorem cells_of_cell {W : World} {b o : Nat} {v : Value} (h : W.cell? ⟨b, o, none⟩ = some v) : ∃ ob : Obj, W.heap[b]? = some ob ∧ ob.isCells = true := by
  unfold World.cell? at h
  cases ho : W.heap[b]? with
  | none => simp [ho] at h
  | some ob => exact ⟨ob, rfl, by cases ob <;> simp_all [Obj.isCells]⟩
theorem KpEu.put {Bx By : Nat} {W : World} {l : Nat} {o : Obj} (o' : Obj) (hl : W.heap[l]? = some o) (ho : o.isCells = false) (hx : Bx < l) (hy : By < l) : KpEu Bx By W (W.putObj l o') := by
  refine ⟨by simp, fun b f z hz => ?_, World.putObj_heap_other (by omega), World.putObj_heap_other (by omega)⟩
  obtain ⟨ob, hob, hc⟩ := cells_of_cell hz
  have hne : b ≠ l := by rintro rfl; rw [hl] at hob; cases hob; rw [ho] at hc; cases hc
  exact (cell_of_block (World.putObj_heap_other hne) f).trans hz
/-- A turn of a box that holds no digit. -/
theorem KpEu.set {Bx By u : Nat} {W : World} {t : TypeId} {v : Value} (hu : Boxed W u t v) (hv : ∀ z, v ≠ .int .u32 z) (hx : Bx ≠ u) (hy : By ≠ u) (v' : Value) : KpEu Bx By W (W.setCell ⟨u, 0, none⟩ v') := by
  refine ⟨by simp, fun b f z hz => ?_, Below.heap_setCell _ _ _ _ (by simpa using hx), Below.heap_setCell _ _ _ _ (by simpa using hy)⟩
  have hne := u32_ne_box hz hu hv
  exact (cell_of_block (Below.heap_setCell _ _ _ _ (by simpa using hne)) f).trans hz
theorem NatsOff.turn {W W' : World} {p : Option Addr} {xs : List Nat} {u v B : Nat} {row : Option Nat} (h : NatsOff W p xs u v) (hg : W.grownBy W' row) (hr : ∀ r, row = some r → TurnT B (TEu u v) r W) : NatsOff W' p xs u v := by
  refine ⟨?_, h.2⟩
  rcases h.1 with h0 | ⟨b, off, rfl, hlt, hc⟩
  · exact .inl h0
  · by_cases hl : 0 < xs.length
    · refine .inr ⟨b, off, rfl, Nat.lt_of_lt_of_le hlt hg.size, fun i hi j hj => (cell_of_block (hg.block b hlt fun e => ?_) _).trans (hc i hi j hj)⟩
      have ho := h.2 _ rfl hl
      rcases hr b e.symm with hT | ⟨_, o, hb, hoc⟩
      · rcases hT with hT | hT
        · exact ho.1 hT
        · exact ho.2 hT
      · obtain ⟨ob, hob, hcc⟩ := cells_of_cell (hc 0 hl 0 (by decide))
        rw [hb] at hob; cases hob; rw [hoc] at hcc; cases hcc
    · exact .inl (by omega)
/-- Between two rounds of Gcd: its own variable holds the first number of the pair that came last. -/
def IEu (w : World) (Bx By u : Nat) (pre : List EuP) (W : World) : Prop :=
  (∃ v, Boxed W u 136 v ∧ (∀ z, v ≠ .int .u32 z) ∧ ∀ pr x, pre = pr ++ [x] → v = .slice x.p (digs x.a).length x.c ∧ NatsOff W x.p (digs x.a) Bx By ∧ (digs x.a).length ≤ x.c ∧ x.c ≤ 1000000000) ∧
    Below w.heap.size w W ∧ BoxAt W (w.heap.size + 1 + 1) (.bool false) (.string ⟨#[]⟩)
theorem IEu.abides {w : World} {Bx By u B : Nat} (hx : w.heap.size + 1 + 1 < Bx) (hy : w.heap.size + 1 + 1 < By) (hux : u ≠ Bx) (huy : u ≠ By) (hB : w.heap.size + 1 + 1 < B) : AbT (TurnT B (TEu Bx By)) (IEu w Bx By u) := by
  rintro pre W W' row ⟨⟨v, hv, hvz, hl⟩, hb, hbox⟩ hg hr
  have hne : ∀ k o, (W.heap[k]? = some o ∧ o.isCells = true ∧ k ≠ Bx ∧ k ≠ By) → some k ≠ row := by
    rintro k o ⟨h1, h2, h3, h4⟩ e
    rcases hr k e.symm with hT | ⟨_, o', hb, hoc⟩
    · rcases hT with hT | hT
      · exact h3 hT
      · exact h4 hT
    · rw [h1] at hb; cases hb; rw [h2] at hoc; cases hoc
  refine ⟨⟨v, hv.kept hg (hne u _ ⟨hv, rfl, hux, huy⟩), hvz, fun pr x e => ?_⟩, ?_, ?_⟩
  · obtain ⟨h1, h2, h3⟩ := hl pr x e
    exact ⟨h1, h2.turn hg hr, h3⟩
  · refine hb.grown hg hb.size fun k e => ?_
    rcases hr k e with hT | ⟨hk, _⟩
    · rcases hT with hT | hT <;> omega
    · omega
  · obtain ⟨ob, hob, hcc⟩ := cells_of_cell hbox.1
    exact hbox.of_block hg.size (hg.block _ hbox.2.2.2.2 (hne _ _ ⟨hob, hcc, by omega, by omega⟩))

end Go.Proofs.Ytcafeffgaokiaaa
namespace Go.Proofs.Ytcafeffgaokiaaa
open Go.RowKit

/-- A rational number as the program hands it back. -/
def ratV (n d : Int) : Value := .agg #[.bool (canon n).neg, .string (canon n).mag, .bool (canon d).neg, .string (canon d).mag]
/-- What a function that returns a rational number gives. -/
def RetR (n d : Int) (w : World) (e : Ending) (w' : World) : Prop := e = .returned (ratV n d) ∧ Below w.heap.size w w'

def zeroZ : ZI := ⟨false, ⟨#[]⟩⟩
theorem canon_nat_size {n : Nat} (h : n < 4294967296) : (canon (n : Int)).mag.size ≤ 4 := canon_size _ (by simpa using h)
theorem cmp_pos (n : Nat) (h0 : 0 < n) (h : n < 4294967296) (w : World) :
    Calls Try.prog 52 #[.agg #[.bool (canon (n : Int)).neg, .string (canon (n : Int)).mag], .agg #[.bool false, .string ⟨#[]⟩]] w fun e w' => e = .returned (.int .i64 1) ∧ Below w.heap.size w w' := by
  have := cmp_any (canon (n : Int)) zeroZ (by have := canon_nat_size h; omega) (by decide) w
  rw [valZ_canon, show valZ zeroZ = 0 from by decide, show cmpI (n : Int) 0 = 1 from by unfold cmpI; rw [if_neg (by omega), if_pos (by omega)]] at this
  exact this
/-- A box of four cells. -/
def Box4 (w : World) (g : Nat) (a b c d : Value) : Prop :=
  w.cell? ⟨g, 0, none⟩ = some a ∧ w.cell? ⟨g, 1, none⟩ = some b ∧ w.cell? ⟨g, 2, none⟩ = some c ∧ w.cell? ⟨g, 3, none⟩ = some d ∧ (∀ j, w.frozen? ⟨g, j, none⟩ = false) ∧ g < w.heap.size
theorem Box4.of_block {W W' : World} {g : Nat} {a b c d : Value} (h : Box4 W g a b c d) (hs : W.heap.size ≤ W'.heap.size) (hb : W'.heap[g]? = W.heap[g]?) : Box4 W' g a b c d := by
  obtain ⟨h0, h1, h2, h3, h4, h5⟩ := h
  exact ⟨(cell_of_block hb _).trans h0, (cell_of_block hb _).trans h1, (cell_of_block hb _).trans h2, (cell_of_block hb _).trans h3, fun j => (frozen_of_block hb _).trans (h4 j), Nat.lt_of_lt_of_le h5 hs⟩
theorem Box4.below {w w' : World} {g B : Nat} {a b c d : Value} (h : Box4 w g a b c d) (hb : Below B w w') (hg : g < B) : Box4 w' g a b c d := h.of_block hb.size (hb.block g hg)
theorem Box4.new (w : World) (a b c d : Value) (t : TypeId) : Box4 (w.alloc (.cells #[a, b, c, d] t)) w.heap.size a b c d := by
  have hb := Below.refl (w.heap.size + 1) (w.alloc (.cells #[a, b, c, d] t))
  obtain ⟨⟨h0, h1, h2, h3⟩, h4, _⟩ := box4 hb
  exact ⟨h0, h1, h2, h3, fun j => box_frozen hb (Nat.lt_succ_self _) j, h4⟩

end Go.Proofs.Ytcafeffgaokiaaa
namespace Go.Proofs.Ytcafeffgaokiaaa
open Go.RowKit

theorem rat_boxes (w : World) (a0 a1 b0 b1 c0 c1 c2 c3 : Value) (t u : TypeId) : ∃ V, (((w.alloc (.cells #[a0, a1] t)).alloc (.cells #[b0, b1] t)).alloc (.cells #[c0, c1, c2, c3] u)) = V ∧ BoxAt V w.heap.size a0 a1 ∧ BoxAt V (w.heap.size + 1) b0 b1 ∧ Box4 V (w.heap.size + 1 + 1) c0 c1 c2 c3 ∧ Below w.heap.size w V ∧ V.heap.size = w.heap.size + 1 + 1 + 1 := by
  obtain ⟨W, hW, hA, hB, hb, hs⟩ := two_boxes w a0 a1 b0 b1 t
  rw [hW]
  refine ⟨_, rfl, hA.alloc _, hB.alloc _, ?_, hb.alloc (by omega) _, by simp [hs]⟩
  have := Box4.new W c0 c1 c2 c3 u
  rwa [hs] at this

end Go.Proofs.Ytcafeffgaokiaaa
