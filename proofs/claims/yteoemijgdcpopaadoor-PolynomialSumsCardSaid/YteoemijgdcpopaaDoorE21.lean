/- The walk of integer.euclid and of its iterator. -/
import Derived.Test.YteoemijgdcpopaaDoorE3
import Derived.Test.YteoemijgdcpopaaDoorE11
import Derived.Shelf.Abstract
import Derived.Shelf.RegionOpen
import Derived.WalkKit
import Derived.OwnWalkIn
import Derived.TacticsInMore
import Derived.LoopNIn
import Derived.LoopIn
import Derived.Sort.LoopGhostIn
namespace Go.Proofs.YteoemijgdcpopaaDoor
open Go.RowKit Go.Shelf
attribute [local go_sem] Oper.semAt_some

/-- A cell that holds a digit is not in the box of another thing. -/
theorem u32_ne_box {w : World} {b off u : Nat} {t : TypeId} {v : Value} {z : Int} (hc : w.cell? ⟨b, off, none⟩ = some (.int .u32 z)) (hu : Boxed w u t v) (hv : ∀ z, v ≠ .int .u32 z) : b ≠ u := by
  rintro rfl
  simp only [World.cell?, show w.heap[b]? = _ from hu] at hc
  cases off with
  | zero => exact hv z (by simpa using hc)
  | succ k => simp at hc
theorem NatsAt.ne_box {w : World} {b off u : Nat} {xs : List Nat} {t : TypeId} {v : Value} (h : NatsAt w (some ⟨b, off, none⟩) xs) (hl : 0 < xs.length) (hu : Boxed w u t v) (hv : ∀ z, v ≠ .int .u32 z) : b ≠ u := by
  obtain ⟨b', off', he, _, hc⟩ := NatsAt.cells h hl
  cases he
  exact u32_ne_box (hc 0 hl) hu hv
theorem NatsAt.setBox {w : World} {p : Option Addr} {u : Nat} {xs : List Nat} {t : TypeId} {v : Value} (h : NatsAt w p xs) (hu : Boxed w u t v) (hv : ∀ z, v ≠ .int .u32 z) (v' : Value) : NatsAt (w.setCell ⟨u, 0, none⟩ v') p xs := by
  by_cases hl : 0 < xs.length
  · obtain ⟨b, off, rfl, hlt, hc⟩ := NatsAt.cells h hl
    have hne := h.ne_box hl hu hv
    rcases h with h | ⟨b', off', he, _, hc'⟩
    · omega
    · cases he
      refine .inr ⟨b, off, rfl, by simpa using hlt, fun i hi j hj => ?_⟩
      rw [World.cell?_setCell_other _ _ _ _ (by intro h; exact hne (by injection h with h1; exact h1.symm))]
      exact hc' i hi j hj
  · exact .inl (by omega)

theorem digs_one {b : Nat} (hb : b < 4294967296) : (digs b).length ≤ 1 := by
  by_cases h : b = 0
  · subst h; decide
  · rw [digs_pos h, Nat.div_eq_of_lt hb]; simp [digs_zero]
/-- A pair of Euclid's algorithm: two slices and the numbers that they hold. -/
structure EuP where
  p : Option Addr
  c : Nat
  q : Option Addr
  d : Nat
  a : Nat
  b : Nat
def encEu (x : EuP) : Array Value := #[.slice x.p (digs x.a).length x.c, .slice x.q (digs x.b).length x.d]
/-- Digits in none of two blocks. -/
def NatsOff (w : World) (p : Option Addr) (xs : List Nat) (u v : Nat) : Prop := NatsAt w p xs ∧ ∀ b, p = some b → 0 < xs.length → b.block ≠ u ∧ b.block ≠ v
def GEu (Bx By : Nat) (_ : List EuP) (x : EuP) (w : World) : Prop := NatsOff w x.p (digs x.a) Bx By ∧ (digs x.a).length ≤ x.c ∧ x.c ≤ 1000000000
def SEu (g : Nat) (xs : List EuP) : Prop := ∃ pre x, xs = pre ++ [x] ∧ x.a = g
def TEu (Bx By : Nat) (r : Nat) (_ : World) : Prop := r = Bx ∨ r = By
/-- What a round keeps: digits; the iterator's two boxes. -/
def KpEu (Bx By : Nat) (W W' : World) : Prop := W.heap.size ≤ W'.heap.size ∧ (∀ b off z, W.cell? ⟨b, off, none⟩ = some (.int .u32 z) → W'.cell? ⟨b, off, none⟩ = some (.int .u32 z)) ∧ W'.heap[Bx]? = W.heap[Bx]? ∧ W'.heap[By]? = W.heap[By]?
theorem KpEu.nats {Bx By : Nat} {W W' : World} (h : KpEu Bx By W W') {p : Option Addr} {xs : List Nat} (hN : NatsAt W p xs) : NatsAt W' p xs := by
  rcases hN with h0 | ⟨b, off, rfl, hlt, hc⟩
  · exact .inl h0
  · exact .inr ⟨b, off, rfl, Nat.lt_of_lt_of_le hlt h.1, fun i hi j hj => h.2.1 _ _ _ (hc i hi j hj)⟩
theorem below_grown {W W' : World} (h : Below W.heap.size W W') : W.grownBy W' none := by
  obtain ⟨h1, h2, h3, h4, h5⟩ := h
  exact ⟨h1, h2, h3, h4, fun k hk _ => h5 k hk⟩

set_option maxRecDepth 100000 in
set_option maxHeartbeats 2000000 in
theorem euclid1_in (l Bx By g : Nat) (J Jx : List EuP → World → Prop) (hJ : AbT (TEu Bx By) J)
    (hY : ∀ pre x W1, J pre W1 → GEu Bx By pre x W1 → YieldAt Fence.wide 2 Tryd.prog l (encEu x) W1 fun e W' => (e = .returned (.bool true) ∧ J (pre ++ [x]) W' ∧ KpEu Bx By W1 W') ∨ (e = .returned (.bool false) ∧ Jx (pre ++ [x]) W'))
    (a b : Nat) (p q : Option Addr) (c d : Nat) (W : World) (hx : Boxed W Bx 89 (.slice p (digs a).length c)) (hy : Boxed W By 89 (.slice q (digs b).length d)) (hne : Bx ≠ By)
    (hp : NatsAt W p (digs a)) (hq : NatsAt W q (digs b)) (ha : (digs a).length ≤ 100000000) (hc : (digs a).length ≤ c ∧ c ≤ 1000000000) (hd : (digs b).length ≤ d ∧ d ≤ 1000000000) (hb : b < 4294967296) (hg : Nat.gcd a b = g) (h0 : J [] W) :
    CallsIn Fence.wide 3 Tryd.prog 114 #[.func (.yield l) #[] #[], .pointer (some ⟨Bx, 0, none⟩), .pointer (some ⟨By, 0, none⟩)] W fun e W' => (∃ v, e = .returned v) ∧ ((∃ xs, SEu g xs ∧ J xs W') ∨ ∃ pre, Jx pre W') := by
  refine callsIn_of_wp Tryd.func114 rfl trivial ?_ rfl
  simp only [Tryd.ntmps114, List.size_toArray, List.length_cons, List.length_nil, Nat.reduceAdd, Nat.reduceSub, Array.replicate_succ, Array.replicate_zero, List.push_toArray, List.append_toArray, List.nil_append, List.cons_append]
  have hxc := hx.cell
  have hyc := hy.cell
  gi_wp2
  gi_loopg [] b (fun k wr => ∃ (pre : List EuP) (a b : Nat) (p q : Option Addr) (c d : Nat), Boxed wr Bx 89 (.slice p (digs a).length c) ∧ Boxed wr By 89 (.slice q (digs b).length d) ∧ NatsAt wr p (digs a) ∧ NatsAt wr q (digs b) ∧ (digs a).length ≤ 100000000 ∧ ((digs a).length ≤ c ∧ c ≤ 1000000000) ∧ ((digs b).length ≤ d ∧ d ≤ 1000000000) ∧ b < 4294967296 ∧ Hid (Nat.gcd a b = g) ∧ b ≤ k ∧ Hid (J pre wr))
  case atStart => exact ⟨[], a, b, p, q, c, d, hx, hy, hp, hq, ha, hc, hd, hb, Lib.hid hg, Nat.le_refl _, Lib.hid h0⟩
  case round =>
    clear hx hy hp hq ha hc hd hb hg h0 hxc hyc
    obtain ⟨pre, a, b, p, q, c, d, hx, hy, hp, hq, ha, hc, hd, hb, hg, hk, hj⟩ := hrel
    have hxc := hx.cell
    have hyc := hy.cell
    obtain ⟨fn, tmps, assign, body, hyl, hR⟩ := hY pre ⟨p, c, q, d, a, b⟩ wr hj.out ⟨⟨hp, fun e he hl => by
      subst he
      obtain ⟨b', off, he, _, hc⟩ := NatsAt.cells hp hl
      cases he
      exact ⟨u32_ne_box (hc 0 hl) hx (by simp), u32_ne_box (hc 0 hl) hy (by simp)⟩⟩, hc⟩
    dsimp only [encEu] at hyl
    gi_wp2
    refine hR.mono ?_
    rintro e W3 (⟨rfl, hJ3, hk3⟩ | ⟨rfl, hJx3⟩)
    · have hx3 : Boxed W3 Bx 89 (.slice p (digs a).length c) := hk3.2.2.1.trans hx
      have hy3 : Boxed W3 By 89 (.slice q (digs b).length d) := hk3.2.2.2.trans hy
      have hp3 := hk3.nats hp
      have hq3 := hk3.nats hq
      clear hxc hyc
      have hxc := hx3.cell
      have hyc := hy3.cell
      by_cases hl : 0 < (digs b).length
      · have hb0 : b ≠ 0 := fun h => by rw [digs_len_pos.2 h] at hl; omega
        have Hj := Lib.hid hJ3
        clear hJ3
        gi_wp2
        refine ⟨trivial, ?_⟩
        refine (callsIn_wide.2 (divide_short a b p q c d W3 hp3 hq3 ha hc.1 hc.2 hb0 hb)).mono ?_
        rintro e W4 ⟨p1, c1, p2, c2, rfl, hN1, hN1a, hN1b, hN2, hN2a, hN2b, hbe⟩
        have hx4 : Boxed W4 Bx 89 (.slice p (digs a).length c) := (hbe.block Bx hx3.lt).trans hx3
        have hy4 : Boxed W4 By 89 (.slice q (digs b).length d) := (hbe.block By hy3.lt).trans hy3
        have hq4 := hq3.below (Nat.le_refl _) hbe
        have hj4 := Lib.hid (hJ _ _ _ _ Hj.out (below_grown hbe) (by simp))
        have hxc4 := hx4.cell
        have hyc4 := hy4.cell
        have hxf4 := hx4.frozen
        have hyf4 := hy4.frozen
        clear hxc hyc hbe
        gi_wp2
        go_roundg (a % b)
        case measure => have := Nat.mod_lt a (show 0 < b by omega); omega
        case rel =>
          have hxn := hx4.set (.slice q (digs b).length d)
          have hyn := (hy4.kept (grownBy_setCell' W4 Bx (.slice q (digs b).length d)) (by simpa using fun h => hne h.symm)).set (.slice p2 (digs (a % b)).length c2)
          have hxn2 := hxn.kept (grownBy_setCell' _ By (.slice p2 (digs (a % b)).length c2)) (by simpa using hne)
          refine ⟨_, b, a % b, q, p2, d, c2, hxn2, hyn, ?_, ?_, ?_, hd, ⟨hN2a, hN2b⟩, ?_, ?_, Nat.le_refl _, Lib.hid (hJ _ _ _ _ (hJ _ _ _ _ hj4.out (grownBy_setCell' W4 Bx _) ?_) (grownBy_setCell' _ By _) ?_)⟩
          · exact (hq4.setBox hx4 (by simp) _).setBox (hy4.kept (grownBy_setCell' W4 Bx (.slice q (digs b).length d)) (by simpa using fun h => hne h.symm)) (by simp) _
          · exact (hN2.setBox hx4 (by simp) _).setBox (hy4.kept (grownBy_setCell' W4 Bx (.slice q (digs b).length d)) (by simpa using fun h => hne h.symm)) (by simp) _
          · exact Nat.le_trans (digs_one hb) (by decide)
          · have := Nat.mod_lt a (show 0 < b by omega); omega
          · exact Lib.hid (by rw [← hg.out, Nat.gcd_comm b (a % b), ← Nat.gcd_rec]; exact Nat.gcd_comm _ _)
          · intro r e; cases e; exact .inl rfl
          · intro r e; cases e; exact .inr rfl
      · have hb0 : b = 0 := digs_len_pos.1 (by omega)
        have Hj := Lib.hid hJ3
        have Hg := Lib.hid (show a = g by rw [← hg.out, hb0, Nat.gcd_zero_right])
        clear hJ3 hb0
        gi_wp2
        go_end0
        exact ⟨⟨_, rfl⟩, .inl ⟨_, ⟨pre, _, rfl, Hg.out⟩, Hj.out⟩⟩
    · have Hj := Lib.hid hJx3
      clear hJx3
      gi_wp2
      go_end0
      exact ⟨⟨_, rfl⟩, .inr ⟨_, Hj.out⟩⟩
end Go.Proofs.YteoemijgdcpopaaDoor
