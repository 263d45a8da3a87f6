/- The walk of integer.euclid and of its iterator. The walks of integer.euclid and integer.Gcd. -/
import Derived.Test.YtmbamcpndbimaaaDoorA2
import Derived.Test.YtmbamcpndbimaaaDoorA8
import Derived.Shelf.Abstract
import Derived.Shelf.RegionOpen
import Derived.WalkKit
import Derived.OwnWalkIn
import Derived.TacticsInMore
import Derived.LoopNIn
import Derived.LoopIn
import Derived.Sort.LoopGhostIn
import Derived.Outline
namespace Go.Proofs.YtmbamcpndbimaaaDoor
open Go.RowKit Go.Shelf
attribute [local go_sem] Oper.semAt_some

/-- A cell that holds a digit is not in the box of another thing. -/
theorem u32_ne_box {w : World} {b off u : Nat} {t : TypeId} {v : Value} {z : Int} (hc : w.cell? ⟨b, off, none⟩ = some (.int .u32 z)) (hu : Boxed w u t v) (hv : ∀ z, v ≠ .int .u32 z) : b ≠ u := by
  rintro rfl
  simp only [World.cell?, show w.heap[b]? = _ from hu] at hc
  cases off with
  | zero => exact hv z (by simpa using hc)
  | succ k => simp at hc
theorem NatsAt.ne_box {w : World} {b off u : Nat} {xs : List Nat} {t : TypeId} {v : Value} (h : NatsAt w (some ⟨b, off, none⟩) xs) (hl : 0 < xs.length) (hu : Boxed w u t v) (hv : ∀ z, v ≠ .int .u32 z) : b ≠ u := by
  obtain ⟨b', off', he, _, hc⟩ := NatsAt.cells h hl
  cases he
  exact u32_ne_box (hc 0 hl) hu hv
theorem NatsAt.setBox {w : World} {p : Option Addr} {u : Nat} {xs : List Nat} {t : TypeId} {v : Value} (h : NatsAt w p xs) (hu : Boxed w u t v) (hv : ∀ z, v ≠ .int .u32 z) (v' : Value) : NatsAt (w.setCell ⟨u, 0, none⟩ v') p xs := by
  by_cases hl : 0 < xs.length
  · obtain ⟨b, off, rfl, hlt, hc⟩ := NatsAt.cells h hl
    have hne := h.ne_box hl hu hv
    rcases h with h | ⟨b', off', he, _, hc'⟩
    · omega
    · cases he
      refine .inr ⟨b, off, rfl, by simpa using hlt, fun i hi j hj => ?_⟩
      rw [World.cell?_setCell_other _ _ _ _ (by intro h; exact hne (by injection h with h1; exact h1.symm))]
      exact hc' i hi j hj
  · exact .inl (by omega)

theorem digs_one {b : Nat} (hb : b < 4294967296) : (digs b).length ≤ 1 := by
  by_cases h : b = 0
  · subst h; decide
  · rw [digs_pos h, Nat.div_eq_of_lt hb]; simp [digs_zero]
/-- A pair of Euclid's algorithm: two slices and the numbers that they hold. -/
structure EuP where
  p : Option Addr
  c : Nat
  q : Option Addr
  d : Nat
  a : Nat
  b : Nat
def encEu (x : EuP) : Array Value := #[.slice x.p (digs x.a).length x.c, .slice x.q (digs x.b).length x.d]
/-- Digits in none of two blocks. -/
def NatsOff (w : World) (p : Option Addr) (xs : List Nat) (u v : Nat) : Prop := NatsAt w p xs ∧ ∀ b, p = some b → 0 < xs.length → b.block ≠ u ∧ b.block ≠ v
def GEu (Bx By : Nat) (_ : List EuP) (x : EuP) (w : World) : Prop := NatsOff w x.p (digs x.a) Bx By ∧ (digs x.a).length ≤ x.c ∧ x.c ≤ 1000000000
def SEu (g : Nat) (xs : List EuP) : Prop := ∃ pre x, xs = pre ++ [x] ∧ x.a = g
def TEu (Bx By : Nat) (r : Nat) (_ : World) : Prop := r = Bx ∨ r = By
/-- What a round keeps: digits; the iterator's two boxes. -/
def KpEu (Bx By : Nat) (W W' : World) : Prop := W.heap.size ≤ W'.heap.size ∧ (∀ b off z, W.cell? ⟨b, off, none⟩ = some (.int .u32 z) → W'.cell? ⟨b, off, none⟩ = some (.int .u32 z)) ∧ W'.heap[Bx]? = W.heap[Bx]? ∧ W'.heap[By]? = W.heap[By]?
theorem KpEu.nats {Bx By : Nat} {W W' : World} (h : KpEu Bx By W W') {p : Option Addr} {xs : List Nat} (hN : NatsAt W p xs) : NatsAt W' p xs := by
  rcases hN with h0 | ⟨b, off, rfl, hlt, hc⟩
  · exact .inl h0
  · exact .inr ⟨b, off, rfl, Nat.lt_of_lt_of_le hlt h.1, fun i hi j hj => h.2.1 _ _ _ (hc i hi j hj)⟩
theorem below_grown {W W' : World} (h : Below W.heap.size W W') : W.grownBy W' none := by
  obtain ⟨h1, h2, h3, h4, h5⟩ := h
  exact ⟨h1, h2, h3, h4, fun k hk _ => h5 k hk⟩

set_option maxRecDepth 100000 in
set_option maxHeartbeats 2000000 in
theorem euclid1_in (l Bx By g : Nat) (J Jx : List EuP → World → Prop) (hJ : AbT (TEu Bx By) J)
    (hY : ∀ pre x W1, J pre W1 → GEu Bx By pre x W1 → YieldAt Fence.wide 2 Tryd.prog l (encEu x) W1 fun e W' => (e = .returned (.bool true) ∧ J (pre ++ [x]) W' ∧ KpEu Bx By W1 W') ∨ (e = .returned (.bool false) ∧ Jx (pre ++ [x]) W'))
    (a b : Nat) (p q : Option Addr) (c d : Nat) (W : World) (hx : Boxed W Bx 63 (.slice p (digs a).length c)) (hy : Boxed W By 63 (.slice q (digs b).length d)) (hne : Bx ≠ By)
    (hp : NatsAt W p (digs a)) (hq : NatsAt W q (digs b)) (ha : (digs a).length ≤ 100000000) (hc : (digs a).length ≤ c ∧ c ≤ 1000000000) (hd : (digs b).length ≤ d ∧ d ≤ 1000000000) (hb : b < 4294967296) (hg : Nat.gcd a b = g) (h0 : J [] W) :
    CallsIn Fence.wide 3 Tryd.prog 84 #[.func (.yield l) #[] #[], .pointer (some ⟨Bx, 0, none⟩), .pointer (some ⟨By, 0, none⟩)] W fun e W' => (∃ v, e = .returned v) ∧ ((∃ xs, SEu g xs ∧ J xs W') ∨ ∃ pre, Jx pre W') := by
  refine callsIn_of_wp Tryd.func84 rfl trivial ?_ rfl
  simp only [Tryd.ntmps84, List.size_toArray, List.length_cons, List.length_nil, Nat.reduceAdd, Nat.reduceSub, Array.replicate_succ, Array.replicate_zero, List.push_toArray, List.append_toArray, List.nil_append, List.cons_append]
  have hxc := hx.cell
  have hyc := hy.cell
  gi_wp2
  gi_loopg [] b (fun k wr => ∃ (pre : List EuP) (a b : Nat) (p q : Option Addr) (c d : Nat), Boxed wr Bx 63 (.slice p (digs a).length c) ∧ Boxed wr By 63 (.slice q (digs b).length d) ∧ NatsAt wr p (digs a) ∧ NatsAt wr q (digs b) ∧ (digs a).length ≤ 100000000 ∧ ((digs a).length ≤ c ∧ c ≤ 1000000000) ∧ ((digs b).length ≤ d ∧ d ≤ 1000000000) ∧ b < 4294967296 ∧ Hid (Nat.gcd a b = g) ∧ b ≤ k ∧ Hid (J pre wr))
  case atStart => exact ⟨[], a, b, p, q, c, d, hx, hy, hp, hq, ha, hc, hd, hb, Lib.hid hg, Nat.le_refl _, Lib.hid h0⟩
  case round =>
    clear hx hy hp hq ha hc hd hb hg h0 hxc hyc
    obtain ⟨pre, a, b, p, q, c, d, hx, hy, hp, hq, ha, hc, hd, hb, hg, hk, hj⟩ := hrel
    have hxc := hx.cell
    have hyc := hy.cell
    obtain ⟨fn, tmps, assign, body, hyl, hR⟩ := hY pre ⟨p, c, q, d, a, b⟩ wr hj.out ⟨⟨hp, fun e he hl => by
      subst he
      obtain ⟨b', off, he, _, hc⟩ := NatsAt.cells hp hl
      cases he
      exact ⟨u32_ne_box (hc 0 hl) hx (by simp), u32_ne_box (hc 0 hl) hy (by simp)⟩⟩, hc⟩
    dsimp only [encEu] at hyl
    gi_wp2
    refine hR.mono ?_
    rintro e W3 (⟨rfl, hJ3, hk3⟩ | ⟨rfl, hJx3⟩)
    · have hx3 : Boxed W3 Bx 63 (.slice p (digs a).length c) := hk3.2.2.1.trans hx
      have hy3 : Boxed W3 By 63 (.slice q (digs b).length d) := hk3.2.2.2.trans hy
      have hp3 := hk3.nats hp
      have hq3 := hk3.nats hq
      clear hxc hyc
      have hxc := hx3.cell
      have hyc := hy3.cell
      by_cases hl : 0 < (digs b).length
      · have hb0 : b ≠ 0 := fun h => by rw [digs_len_pos.2 h] at hl; omega
        have Hj := Lib.hid hJ3
        clear hJ3
        gi_wp2
        refine ⟨trivial, ?_⟩
        refine (callsIn_wide.2 (divide_short a b p q c d W3 hp3 hq3 ha hc.1 hc.2 hb0 hb)).mono ?_
        rintro e W4 ⟨p1, c1, p2, c2, rfl, hN1, hN1a, hN1b, hN2, hN2a, hN2b, hbe⟩
        have hx4 : Boxed W4 Bx 63 (.slice p (digs a).length c) := (hbe.block Bx hx3.lt).trans hx3
        have hy4 : Boxed W4 By 63 (.slice q (digs b).length d) := (hbe.block By hy3.lt).trans hy3
        have hq4 := hq3.below (Nat.le_refl _) hbe
        have hj4 := Lib.hid (hJ _ _ _ _ Hj.out (below_grown hbe) (by simp))
        have hxc4 := hx4.cell
        have hyc4 := hy4.cell
        have hxf4 := hx4.frozen
        have hyf4 := hy4.frozen
        clear hxc hyc hbe
        gi_wp2
        go_roundg (a % b)
        case measure => have := Nat.mod_lt a (show 0 < b by omega); omega
        case rel =>
          have hxn := hx4.set (.slice q (digs b).length d)
          have hyn := (hy4.kept (grownBy_setCell' W4 Bx (.slice q (digs b).length d)) (by simpa using fun h => hne h.symm)).set (.slice p2 (digs (a % b)).length c2)
          have hxn2 := hxn.kept (grownBy_setCell' _ By (.slice p2 (digs (a % b)).length c2)) (by simpa using hne)
          refine ⟨_, b, a % b, q, p2, d, c2, hxn2, hyn, ?_, ?_, ?_, hd, ⟨hN2a, hN2b⟩, ?_, ?_, Nat.le_refl _, Lib.hid (hJ _ _ _ _ (hJ _ _ _ _ hj4.out (grownBy_setCell' W4 Bx _) ?_) (grownBy_setCell' _ By _) ?_)⟩
          · exact (hq4.setBox hx4 (by simp) _).setBox (hy4.kept (grownBy_setCell' W4 Bx (.slice q (digs b).length d)) (by simpa using fun h => hne h.symm)) (by simp) _
          · exact (hN2.setBox hx4 (by simp) _).setBox (hy4.kept (grownBy_setCell' W4 Bx (.slice q (digs b).length d)) (by simpa using fun h => hne h.symm)) (by simp) _
          · exact Nat.le_trans (digs_one hb) (by decide)
          · have := Nat.mod_lt a (show 0 < b by omega); omega
          · exact Lib.hid (by rw [← hg.out, Nat.gcd_comm b (a % b), ← Nat.gcd_rec]; exact Nat.gcd_comm _ _)
          · intro r e; cases e; exact .inl rfl
          · intro r e; cases e; exact .inr rfl
      · have hb0 : b = 0 := digs_len_pos.1 (by omega)
        have Hj := Lib.hid hJ3
        have Hg := Lib.hid (show a = g by rw [← hg.out, hb0, Nat.gcd_zero_right])
        clear hJ3 hb0
        gi_wp2
        go_end0
        exact ⟨⟨_, rfl⟩, .inl ⟨_, ⟨pre, _, rfl, Hg.out⟩, Hj.out⟩⟩
    · have Hj := Lib.hid hJx3
      clear hJx3
      gi_wp2
      go_end0
      exact ⟨⟨_, rfl⟩, .inr ⟨_, Hj.out⟩⟩
end Go.Proofs.YtmbamcpndbimaaaDoor
namespace Go.Proofs.YtmbamcpndbimaaaDoor
open Go.RowKit Go.Shelf
attribute [local go_sem] Oper.semAt_some

set_option maxHeartbeats 1000000 in
theorem euclid_any (v1 v2 : Value) (p q : Option Addr) (a b c d : Nat) (h1 : v1 = .slice p a c) (h2 : v2 = .slice q b d) (w : World) :
    Calls Tryd.prog 75 #[v1, v2] w fun e w' => e = .returned (.func (.func 84) #[] #[.pointer (some ⟨w.heap.size, 0, none⟩), .pointer (some ⟨w.heap.size + 1, 0, none⟩)]) ∧ w' = (w.alloc (.cells #[v1] 63)).alloc (.cells #[v2] 63) := by
  subst h1 h2
  go_enter Tryd.func75, Tryd.ntmps75
  go_wp2
  go_ret
  exact ⟨rfl, rfl⟩

theorem BoxAt.of_block {W W' : World} {g : Nat} {a b : Value} (h : BoxAt W g a b) (hs : W.heap.size ≤ W'.heap.size) (hb : W'.heap[g]? = W.heap[g]?) : BoxAt W' g a b := by
  obtain ⟨h1, h2, h3, h4, h5⟩ := h
  exact ⟨(cell_of_block hb _).trans h1, (cell_of_block hb _).trans h2, (frozen_of_block hb _).trans h3, (frozen_of_block hb _).trans h4, Nat.lt_of_lt_of_le h5 hs⟩
theorem KpEu.refl_ (Bx By : Nat) (W : World) : KpEu Bx By W W := ⟨Nat.le_refl _, fun _ _ _ h => h, rfl, rfl⟩
theorem KpEu.trans {Bx By : Nat} {A B C : World} (h : KpEu Bx By A B) (k : KpEu Bx By B C) : KpEu Bx By A C :=
  ⟨Nat.le_trans h.1 k.1, fun b o z hz => k.2.1 b o z (h.2.1 b o z hz), k.2.2.1.trans h.2.2.1, k.2.2.2.trans h.2.2.2⟩
theorem cells_of_cell {W : World} {b o : Nat} {v : Value} (h : W.cell? ⟨b, o, none⟩ = some v) : ∃ ob : Obj, W.heap[b]? = some ob ∧ ob.isCells = true := by
  unfold World.cell? at h
  cases ho : W.heap[b]? with
  | none => simp [ho] at h
  | some ob => exact ⟨ob, rfl, by cases ob <;> simp_all [Obj.isCells]⟩
theorem KpEu.put {Bx By : Nat} {W : World} {l : Nat} {o : Obj} (o' : Obj) (hl : W.heap[l]? = some o) (ho : o.isCells = false) (hx : Bx < l) (hy : By < l) : KpEu Bx By W (W.putObj l o') := by
  refine ⟨by simp, fun b f z hz => ?_, World.putObj_heap_other (by omega), World.putObj_heap_other (by omega)⟩
  obtain ⟨ob, hob, hc⟩ := cells_of_cell hz
  have hne : b ≠ l := by rintro rfl; rw [hl] at hob; cases hob; rw [ho] at hc; cases hc
  exact (cell_of_block (World.putObj_heap_other hne) f).trans hz
/-- A turn of a box that holds no digit. -/
theorem KpEu.set {Bx By u : Nat} {W : World} {t : TypeId} {v : Value} (hu : Boxed W u t v) (hv : ∀ z, v ≠ .int .u32 z) (hx : Bx ≠ u) (hy : By ≠ u) (v' : Value) : KpEu Bx By W (W.setCell ⟨u, 0, none⟩ v') := by
  refine ⟨by simp, fun b f z hz => ?_, Below.heap_setCell _ _ _ _ (by simpa using hx), Below.heap_setCell _ _ _ _ (by simpa using hy)⟩
  have hne := u32_ne_box hz hu hv
  exact (cell_of_block (Below.heap_setCell _ _ _ _ (by simpa using hne)) f).trans hz
theorem NatsOff.turn {W W' : World} {p : Option Addr} {xs : List Nat} {u v B : Nat} {row : Option Nat} (h : NatsOff W p xs u v) (hg : W.grownBy W' row) (hr : ∀ r, row = some r → TurnT B (TEu u v) r W) : NatsOff W' p xs u v := by
  refine ⟨?_, h.2⟩
  rcases h.1 with h0 | ⟨b, off, rfl, hlt, hc⟩
  · exact .inl h0
  · by_cases hl : 0 < xs.length
    · refine .inr ⟨b, off, rfl, Nat.lt_of_lt_of_le hlt hg.size, fun i hi j hj => (cell_of_block (hg.block b hlt fun e => ?_) _).trans (hc i hi j hj)⟩
      have ho := h.2 _ rfl hl
      rcases hr b e.symm with hT | ⟨_, o, hb, hoc⟩
      · rcases hT with hT | hT
        · exact ho.1 hT
        · exact ho.2 hT
      · obtain ⟨ob, hob, hcc⟩ := cells_of_cell (hc 0 hl 0 (by decide))
        rw [hb] at hob; cases hob; rw [hoc] at hcc; cases hcc
    · exact .inl (by omega)
/-- Between two rounds of Gcd: its own variable holds the first number of the pair that came last. -/
def IEu (w : World) (Bx By u : Nat) (pre : List EuP) (W : World) : Prop :=
  (∃ v, Boxed W u 63 v ∧ (∀ z, v ≠ .int .u32 z) ∧ ∀ pr x, pre = pr ++ [x] → v = .slice x.p (digs x.a).length x.c ∧ NatsOff W x.p (digs x.a) Bx By ∧ (digs x.a).length ≤ x.c ∧ x.c ≤ 1000000000) ∧
    Below w.heap.size w W ∧ BoxAt W (w.heap.size + 1 + 1) (.bool false) (.string ⟨#[]⟩)
theorem IEu.abides {w : World} {Bx By u B : Nat} (hx : w.heap.size + 1 + 1 < Bx) (hy : w.heap.size + 1 + 1 < By) (hux : u ≠ Bx) (huy : u ≠ By) (hB : w.heap.size + 1 + 1 < B) : AbT (TurnT B (TEu Bx By)) (IEu w Bx By u) := by
  rintro pre W W' row ⟨⟨v, hv, hvz, hl⟩, hb, hbox⟩ hg hr
  have hne : ∀ k o, (W.heap[k]? = some o ∧ o.isCells = true ∧ k ≠ Bx ∧ k ≠ By) → some k ≠ row := by
    rintro k o ⟨h1, h2, h3, h4⟩ e
    rcases hr k e.symm with hT | ⟨_, o', hb, hoc⟩
    · rcases hT with hT | hT
      · exact h3 hT
      · exact h4 hT
    · rw [h1] at hb; cases hb; rw [h2] at hoc; cases hoc
  refine ⟨⟨v, hv.kept hg (hne u _ ⟨hv, rfl, hux, huy⟩), hvz, fun pr x e => ?_⟩, ?_, ?_⟩
  · obtain ⟨h1, h2, h3⟩ := hl pr x e
    exact ⟨h1, h2.turn hg hr, h3⟩
  · refine hb.grown hg hb.size fun k e => ?_
    rcases hr k e with hT | ⟨hk, _⟩
    · rcases hT with hT | hT <;> omega
    · omega
  · obtain ⟨ob, hob, hcc⟩ := cells_of_cell hbox.1
    exact hbox.of_block hg.size (hg.block _ hbox.2.2.2.2 (hne _ _ ⟨hob, hcc, by omega, by omega⟩))

set_option maxRecDepth 100000 in
set_option maxHeartbeats 4000000 in
theorem gcd_any (x y : ZI) (hx : x.mag.size ≤ 100000000) (hys : y.mag.size ≤ 100000000) (hy : absZ y < 4294967296) (w : World) :
    Calls Tryd.prog 55 #[.agg #[.bool x.neg, .string x.mag], .agg #[.bool y.neg, .string y.mag]] w (RetZ (canon (Nat.gcd (absZ x) (absZ y) : Nat)) w) := by
  have hlx := Lib.hid (digs_len_fit1 hx)
  have hly := Lib.hid (digs_len_fit1 hys)
  refine calls_marks Tryd.func55 rfl ?_
  simp only [Tryd.ntmps55, List.size_toArray, List.length_cons, List.length_nil, Nat.reduceAdd, Nat.reduceSub, Array.replicate_succ, Array.replicate_zero, List.push_toArray, List.append_toArray, List.nil_append, List.cons_append]
  go_upto_region 2 with (fail)
  obtain ⟨W, hW⟩ : ∃ W, ((((w.alloc (.cells #[.bool x.neg, .string x.mag] 32)).alloc (.cells #[.bool y.neg, .string y.mag] 32)).alloc (.cells #[.bool false, .string ⟨#[]⟩] 32)).alloc (.cells #[.slice none 0 0] 63)) = W := ⟨_, rfl⟩
  have hA : BoxAt W w.heap.size (.bool x.neg) (.string x.mag) := by rw [← hW]; exact (((BoxAt.new w (.bool x.neg) (.string x.mag) 32).alloc _).alloc _).alloc _
  have hB : BoxAt W (w.heap.size + 1) (.bool y.neg) (.string y.mag) := by
    rw [← hW]
    have := ((BoxAt.new (w.alloc (.cells #[.bool x.neg, .string x.mag] 32)) (.bool y.neg) (.string y.mag) 32).alloc (.cells #[.bool false, .string ⟨#[]⟩] 32)).alloc (.cells #[.slice none 0 0] 63)
    rwa [World.size_alloc] at this
  have hC : BoxAt W (w.heap.size + 1 + 1) (.bool false) (.string ⟨#[]⟩) := by
    rw [← hW]
    have := (BoxAt.new ((w.alloc (.cells #[.bool x.neg, .string x.mag] 32)).alloc (.cells #[.bool y.neg, .string y.mag] 32)) (.bool false) (.string ⟨#[]⟩) 32).alloc (.cells #[.slice none 0 0] 63)
    rwa [World.size_alloc, World.size_alloc] at this
  have hU : Boxed W (w.heap.size + 1 + 1 + 1) 63 (.slice none 0 0) := by
    rw [← hW]
    have := Boxed.new (((w.alloc (.cells #[.bool x.neg, .string x.mag] 32)).alloc (.cells #[.bool y.neg, .string y.mag] 32)).alloc (.cells #[.bool false, .string ⟨#[]⟩] 32)) 63 (.slice none 0 0)
    rwa [World.size_alloc, World.size_alloc, World.size_alloc] at this
  have hb0 : Below w.heap.size w W := by rw [← hW]; exact ((((Below.refl _ _).alloc (Nat.le_refl _) _).alloc (by simp) _).alloc (by simp; omega) _).alloc (by simp; omega) _
  have hs0 : W.heap.size = w.heap.size + 1 + 1 + 1 + 1 := by rw [← hW]; simp
  rw [hW]
  have HA := Lib.hid hA
  have HB := Lib.hid hB
  have HC := Lib.hid hC
  have HU := Lib.hid hU
  have Hb0 := Lib.hid hb0
  have Hs0 := Lib.hid hs0
  obtain ⟨a0, a1, _, _, _⟩ := hA
  obtain ⟨b0, b1, _, _, _⟩ := hB
  clear hC hU hb0 hs0 hW
  go_region_held3 (fun w' => w'.cell? ⟨w.heap.size, 0, none⟩ = some (.bool x.neg) ∧ w'.cell? ⟨w.heap.size, 1, none⟩ = some (.string x.mag) ∧ w'.cell? ⟨w.heap.size + 1, 0, none⟩ = some (.bool y.neg) ∧ w'.cell? ⟨w.heap.size + 1, 1, none⟩ = some (.string y.mag)) (go_keep)
    (first
      | (go_at_call 38; go_fit (digits_any x hx _); rintro e wa ⟨pa, ca, rfl, hN, hca1, hca2, hb⟩; have HNa := Lib.hid hN; have Hwa := Lib.hid (show Below W.heap.size W wa from Below.trans (by repeat (first | exact Below.refl _ _ | refine Below.drew ?_ | refine below_dr ?_)) (hb.mono (Nat.le_refl _))); have HA2 := Lib.hid (HA.out.below Hwa.out (by have := Hs0.out; omega)); have HB2 := Lib.hid (HB.out.below Hwa.out (by have := Hs0.out; omega)); obtain ⟨d0, d1, _, _, _⟩ := HA2.out; obtain ⟨e0, e1, _, _, _⟩ := HB2.out; clear hb hN)
      | (go_at_call 38; go_fit (digits_any y hys _); rintro e wb ⟨pb, cb, rfl, hN, hcb1, hcb2, hb⟩; have HNb := Lib.hid hN; have Hab := Lib.hid (show Below wa.heap.size wa wb from Below.trans (by repeat (first | exact Below.refl _ _ | refine Below.drew ?_ | refine below_dr ?_)) (hb.mono (Nat.le_refl _))); have Hwb := Lib.hid (show Below W.heap.size W wb from Hwa.out.trans (Hab.out.mono Hwa.out.size)); have HA2 := Lib.hid (HA.out.below Hwb.out (by have := Hs0.out; omega)); have HB2 := Lib.hid (HB.out.below Hwb.out (by have := Hs0.out; omega)); obtain ⟨d0, d1, _, _, _⟩ := HA2.out; obtain ⟨e0, e1, _, _, _⟩ := HB2.out; clear hb hN)
      | (go_at_call 75; go_fit (euclid_any _ _ pa pb (digs (absZ x)).length (digs (absZ y)).length ca cb rfl rfl _); rintro e we ⟨rfl, hwe⟩; have Hwe := Lib.hid hwe; have Hbe := Lib.hid (show Below wb.heap.size wb we from by rw [hwe]; exact Below.trans (by repeat (first | exact Below.refl _ _ | refine Below.drew ?_ | refine below_dr ?_)) (((Below.refl _ _).alloc (Nat.le_refl _) _).alloc (by simp) _)); have HA2 := Lib.hid (HA.out.below (Hwb.out.trans (Hbe.out.mono Hwb.out.size)) (by have := Hs0.out; omega)); have HB2 := Lib.hid (HB.out.below (Hwb.out.trans (Hbe.out.mono Hwb.out.size)) (by have := Hs0.out; omega)); obtain ⟨d0, d1, _, _, _⟩ := HA2.out; obtain ⟨e0, e1, _, _, _⟩ := HB2.out; clear hwe))
  go_wp2
  obtain ⟨g, hg⟩ : ∃ g, Nat.gcd (absZ x) (absZ y) = g := ⟨_, rfl⟩
  rw [hg]
  have Hg := Lib.hid hg
  have hbx : Boxed we wb.heap.size 63 (.slice pa (digs (absZ x)).length ca) := by rw [Hwe.out]; exact (Boxed.new _ _ _).alloc _
  have hby : Boxed we (wb.heap.size + 1) 63 (.slice pb (digs (absZ y)).length cb) := by
    rw [Hwe.out]
    have := Boxed.new (wb.alloc (.cells #[.slice pa (digs (absZ x)).length ca] 63)) 63 (.slice pb (digs (absZ y)).length cb)
    rwa [World.size_alloc] at this
  have hse : we.heap.size = wb.heap.size + 1 + 1 := by rw [Hwe.out]; simp
  have hsb : w.heap.size + 1 + 1 + 1 + 1 ≤ wb.heap.size := by have := Hwb.out.size; have := Hs0.out; omega
  have hWe : Below W.heap.size W we := Hwb.out.trans (Hbe.out.mono Hwb.out.size)
  have hue : Boxed we (w.heap.size + 1 + 1 + 1) 63 (.slice none 0 0) := (hWe.block _ (by have := Hs0.out; omega)).trans HU.out
  have hce : BoxAt we (w.heap.size + 1 + 1) (.bool false) (.string ⟨#[]⟩) := HC.out.below hWe (by have := Hs0.out; omega)
  have hpe : NatsAt we pa (digs (absZ x)) := HNa.out.below (Nat.le_refl _) (Hab.out.trans (Hbe.out.mono Hab.out.size))
  have hqe : NatsAt we pb (digs (absZ y)) := HNb.out.below (Nat.le_refl _) Hbe.out
  have hwe0 : Below w.heap.size w we := Hb0.out.trans (hWe.mono (by have := Hs0.out; omega))
  clear hg
  refine rangeW (gf := 84) (lb := #[.pointer (some ⟨wb.heap.size, 0, none⟩), .pointer (some ⟨wb.heap.size + 1, 0, none⟩)]) rfl (enters_of Tryd.func84 (by kernel_rfl) rfl)
    (encs := encEu) (G := GEu wb.heap.size (wb.heap.size + 1)) (S := SEu g) (T := TEu wb.heap.size (wb.heap.size + 1)) (Kp := KpEu wb.heap.size (wb.heap.size + 1))
    (Pre := fun X => Boxed X wb.heap.size 63 (.slice pa (digs (absZ x)).length ca) ∧ Boxed X (wb.heap.size + 1) 63 (.slice pb (digs (absZ y)).length cb) ∧ NatsAt X pa (digs (absZ x)) ∧ NatsAt X pb (digs (absZ y)))
    (fun l J Jx X hX hJ _ hY h0 => euclid1_in l _ _ g J Jx hJ hY _ _ pa pb ca cb X hX.1 hX.2.1 (by omega) hX.2.2.1 hX.2.2.2 hlx.out ⟨hca1, hca2⟩ ⟨hcb1, hcb2⟩ hy Hg.out h0)
    (by rintro r X (rfl | rfl) <;> omega) (fun h k => h.trans k) (fun X l o o' hl ho hc => KpEu.put o' ho hc (by omega) (by omega))
    (fun X hX => ⟨(hX.block _ hbx.lt).trans hbx, (hX.block _ hby.lt).trans hby, hpe.below (Nat.le_refl _) hX, hqe.below (Nat.le_refl _) hX⟩) (fun _ => rfl)
    (fun x pre X X' row h hg hr => ⟨h.1.turn hg hr, h.2⟩)
    (IEu w wb.heap.size (wb.heap.size + 1) (w.heap.size + 1 + 1 + 1)) (fun _ _ _ => False) (IEu.abides (by omega) (by omega) (by omega) (by omega) (by omega)) (fun _ _ _ _ _ h _ _ => h)
    ⟨⟨_, hue, by simp, fun pr x e => by simp at e⟩, hwe0, hce⟩
    (fun z => { tmps := #[.agg #[.bool x.neg, .string x.mag], .agg #[.bool y.neg, .string y.mag], .pointer (some ⟨w.heap.size, 0, none⟩), .pointer (some ⟨w.heap.size + 1, 0, none⟩), .pointer (some ⟨w.heap.size + 1 + 1, 0, none⟩), .pointer (some ⟨w.heap.size + 1 + 1 + 1, 0, none⟩), .slice z.p (digs z.a).length z.c, .agg #[.bool x.neg, .string x.mag], .slice pa (digs (absZ x)).length ca, .agg #[.bool y.neg, .string y.mag], .slice pb (digs (absZ y)).length cb, .func (.func 84) #[] #[.pointer (some ⟨wb.heap.size, 0, none⟩), .pointer (some ⟨wb.heap.size + 1, 0, none⟩)], .slice z.p (digs z.a).length z.c, .slice z.q (digs z.b).length z.d, undef, undef, undef], defers := [] }) ?assign ?body ?done ?stop
  case assign =>
    intro l z X K hK
    dsimp only [encEu]
    gi_wp2
    exact hK
  case body =>
    rintro l pre z X ⟨⟨v, hv, hvz, hl⟩, hb, hbox⟩ hgz
    have hvc := hv.cell
    have hvf := hv.frozen
    clear hl
    gi_wp2
    refine ⟨(KeepsOthers.setCell _ _ _).from _, KpEu.set hv hvz (by omega) (by omega) _, ⟨_, hv.set _, by simp, fun pr q e => ?_⟩, hb.setCell (by simp; omega) _, ?_⟩
    · have e2 := (List.append_inj' e rfl).2
      simp only [List.cons.injEq, and_true] at e2
      subst e2
      refine ⟨rfl, ⟨hgz.1.1.setBox hv hvz _, hgz.1.2⟩, hgz.2⟩
    · exact hbox.of_block (by simp) (Below.heap_setCell _ _ _ _ (by simp))
  case done =>
    rintro D xs X hD ⟨pre, z, rfl, hza⟩ ⟨⟨v, hv, hvz, hl⟩, hb, hbox⟩ hK
    obtain ⟨rfl, hN, hc1, hc2⟩ := hl pre z rfl
    rw [hza] at hN hc1 hv
    have hvc := hv.cell
    have HK := Lib.hid hK
    have Hbox := Lib.hid hbox
    have Hb := Lib.hid hb
    have hD2 : w.heap.size + 1 + 1 < D := by omega
    clear hl hza hK hvz
    go_wp2_with (go_at_call 39; go_fit (number_digs false g z.p z.c _ hN.1 hc1 hc2); rintro e w3 ⟨rfl, hb3⟩; rw [mkZ_pos]; have Hb3 := Lib.hid hb3; have hbox3 := Hbox.out.below hb3 Hbox.out.2.2.2.2; obtain ⟨k0, k1, k2, k3, _⟩ := hbox3; clear hb3)
    have hK3 : w3.heap[D]? = some (.deferred (some [])) := (Hb3.out.block D (Array.getElem?_eq_some_iff.1 HK.out).1).trans HK.out
    have hK4 : ((w3.setCell ⟨w.heap.size + 1 + 1, 0, none⟩ (.bool (canon (g : Int)).neg)).setCell ⟨w.heap.size + 1 + 1, 1, none⟩ (.string (canon (g : Int)).mag)).heap[D]? = some (.deferred (some [])) :=
      (Below.heap_setCell _ _ _ D (by simp; omega)).trans ((Below.heap_setCell _ _ _ D (by simp; omega)).trans hK3)
    rw [Hg.out]
    have v0 : ((w3.setCell ⟨w.heap.size + 1 + 1, 0, none⟩ (.bool (canon (g : Int)).neg)).setCell ⟨w.heap.size + 1 + 1, 1, none⟩ (.string (canon (g : Int)).mag)).cell? ⟨w.heap.size + 1 + 1, 0, none⟩ = some (.bool (canon (g : Int)).neg) := by simp [go_sem, k0]
    have v1 : ((w3.setCell ⟨w.heap.size + 1 + 1, 0, none⟩ (.bool (canon (g : Int)).neg)).setCell ⟨w.heap.size + 1 + 1, 1, none⟩ (.string (canon (g : Int)).mag)).cell? ⟨w.heap.size + 1 + 1, 1, none⟩ = some (.string (canon (g : Int)).mag) := by simp [go_sem, k1]
    have v2 : Below w.heap.size w ((w3.setCell ⟨w.heap.size + 1 + 1, 0, none⟩ (.bool (canon (g : Int)).neg)).setCell ⟨w.heap.size + 1 + 1, 1, none⟩ (.string (canon (g : Int)).mag)) := ((Hb.out.trans (Hb3.out.mono Hb.out.size)).setCell (by simp; omega) _).setCell (by simp; omega) _
    generalize ((w3.setCell ⟨w.heap.size + 1 + 1, 0, none⟩ (.bool (canon (g : Int)).neg)).setCell ⟨w.heap.size + 1 + 1, 1, none⟩ (.string (canon (g : Int)).mag)) = V at *
    refine ⟨by simp, .inl ⟨_, _, rfl, run_takeDeferred hK4, ?_⟩⟩
    have hne : w.heap.size + 1 + 1 ≠ D := by omega
    have f0 := (cell_of_block (World.putObj_heap_other (w := V) (o := .deferred none) hne) 0).trans v0
    have f1 := (cell_of_block (World.putObj_heap_other (w := V) (o := .deferred none) hne) 1).trans v1
    refine ⟨.agg #[.bool (canon (g : Int)).neg, .string (canon (g : Int)).mag], ?_, rfl, ?_⟩
    · simp [results, Tryd.results55, go_sem, f0, f1]
    · exact v2.trans (belowK_b (w := w) (Nat.le_refl _) _ D _ _ (by omega) hK4 rfl rfl)
  case stop =>
    intro _ _ _ _ _ h _
    exact h.elim
end Go.Proofs.YtmbamcpndbimaaaDoor
