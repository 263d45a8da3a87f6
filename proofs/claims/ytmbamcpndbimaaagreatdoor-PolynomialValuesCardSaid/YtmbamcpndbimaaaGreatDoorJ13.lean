/- The walk of integer.euclid and of its iterator. -/
import Derived.Test.YtmbamcpndbimaaaGreatDoorJ2
import Derived.Test.YtmbamcpndbimaaaGreatDoorJ7
import Derived.Shelf.Abstract
import Derived.Shelf.RegionOpen
import Derived.WalkKit
import Derived.OwnWalkIn
import Derived.TacticsInMore
import Derived.LoopNIn
import Derived.LoopIn
import Derived.Sort.LoopGhostIn
import Derived.Outline
namespace Go.Proofs.YtmbamcpndbimaaaGreatDoor
open Go.RowKit Go.Shelf
attribute [local go_sem] Oper.semAt_some
theorem u32_ne_box {w : World} {b off u : Nat} {t : TypeId} {v : Value} {z : Int} (hc : w.cell? ⟨b, off, none⟩ = some (.int .u32 z)) (hu : Boxed w u t v) (hv : ∀ z, v ≠ .int .u32 z) : b ≠ u := by
 rintro rfl
 simp only [World.cell?, show w.heap[b]? = _ from hu] at hc
 cases off with
 | zero => exact hv z (by simpa using hc)
 | succ k => simp at hc
theorem NatsAt.ne_box {w : World} {b off u : Nat} {xs : List Nat} {t : TypeId} {v : Value} (h : NatsAt w (some ⟨b, off, none⟩) xs) (hl : 0 < xs.length) (hu : Boxed w u t v) (hv : ∀ z, v ≠ .int .u32 z) : b ≠ u := by
 obtain ⟨b', off', he, _, hc⟩ := NatsAt.cells h hl
 cases he
 exact u32_ne_box (hc 0 hl) hu hv
theorem NatsAt.setBox {w : World} {p : Option Addr} {u : Nat} {xs : List Nat} {t : TypeId} {v : Value} (h : NatsAt w p xs) (hu : Boxed w u t v) (hv : ∀ z, v ≠ .int .u32 z) (v' : Value) : NatsAt (w.setCell ⟨u, 0, none⟩ v') p xs := by
 by_cases hl : 0 < xs.length
 ·obtain ⟨b, off, rfl, hlt, hc⟩ := NatsAt.cells h hl
  have hne := h.ne_box hl hu hv
  rcases h with h | ⟨b', off', he, _, hc'⟩
  ·omega
  ·cases he
   refine .inr ⟨b, off, rfl, by simpa using hlt, fun i hi j hj => ?_⟩
   rw [World.cell?_setCell_other _ _ _ _ (by intro h; exact hne (by injection h with h1; exact h1.symm))]
   exact hc' i hi j hj
 ·exact .inl (by omega)
structure EuP where
 p : Option Addr
 c : Nat
 q : Option Addr
 d : Nat
 a : Nat
 b : Nat
def encEu (x : EuP) : Array Value := #[.slice x.p (digs x.a).length x.c, .slice x.q (digs x.b).length x.d]
def NatsOff (w : World) (p : Option Addr) (xs : List Nat) (u v : Nat) : Prop := NatsAt w p xs ∧ ∀ b, p = some b → 0 < xs.length → b.block ≠ u ∧ b.block ≠ v
def GEu (Bx By : Nat) (_ : List EuP) (x : EuP) (w : World) : Prop := NatsOff w x.p (digs x.a) Bx By ∧ (digs x.a).length ≤ x.c ∧ x.c ≤ 1000000000
def SEu (g : Nat) (xs : List EuP) : Prop := ∃ pre x, xs = pre ++ [x] ∧ x.a = g
def TEu (Bx By : Nat) (r : Nat) (_ : World) : Prop := r = Bx ∨ r = By
def KpEu (Bx By : Nat) (W W' : World) : Prop := W.heap.size ≤ W'.heap.size ∧ (∀ b off z, W.cell? ⟨b, off, none⟩ = some (.int .u32 z) → W'.cell? ⟨b, off, none⟩ = some (.int .u32 z)) ∧ W'.heap[Bx]? = W.heap[Bx]? ∧ W'.heap[By]? = W.heap[By]?
theorem KpEu.nats {Bx By : Nat} {W W' : World} (h : KpEu Bx By W W') {p : Option Addr} {xs : List Nat} (hN : NatsAt W p xs) : NatsAt W' p xs := by
 rcases hN with h0 | ⟨b, off, rfl, hlt, hc⟩
 ·exact .inl h0
 ·exact .inr ⟨b, off, rfl, Nat.lt_of_lt_of_le hlt h.1, fun i hi j hj => h.2.1 _ _ _ (hc i hi j hj)⟩
theorem below_grown {W W' : World} (h : Below W.heap.size W W') : W.grownBy W' none := by
 obtain ⟨h1, h2, h3, h4, h5⟩ := h
 exact ⟨h1, h2, h3, h4, fun k hk _ => h5 k hk⟩
open Go.RowKit Go.Shelf
attribute [local go_sem] Oper.semAt_some
set_option maxHeartbeats 1000000 in
theorem euclid_any (v1 v2 : Value) (p q : Option Addr) (a b c d : Nat) (h1 : v1 = .slice p a c) (h2 : v2 = .slice q b d) (w : World) :
  Calls Tryz.prog 88 #[v1, v2] w fun e w' => e = .returned (.func (.func 104) #[] #[.pointer (some ⟨w.heap.size, 0, none⟩), .pointer (some ⟨w.heap.size + 1, 0, none⟩)]) ∧ w' = (w.alloc (.cells #[v1] 89)).alloc (.cells #[v2] 89) := by
 subst h1 h2
 go_enter Tryz.func88, Tryz.ntmps88
 go_wp2
 go_ret
 exact ⟨rfl, rfl⟩
theorem BoxAt.of_block {W W' : World} {g : Nat} {a b : Value} (h : BoxAt W g a b) (hs : W.heap.size ≤ W'.heap.size) (hb : W'.heap[g]? = W.heap[g]?) : BoxAt W' g a b := by
 obtain ⟨h1, h2, h3, h4, h5⟩ := h
 exact ⟨(cell_of_block hb _).trans h1, (cell_of_block hb _).trans h2, (frozen_of_block hb _).trans h3, (frozen_of_block hb _).trans h4, Nat.lt_of_lt_of_le h5 hs⟩
theorem KpEu.trans {Bx By : Nat} {A B C : World} (h : KpEu Bx By A B) (k : KpEu Bx By B C) : KpEu Bx By A C :=
 ⟨Nat.le_trans h.1 k.1, fun b o z hz => k.2.1 b o z (h.2.1 b o z hz), k.2.2.1.trans h.2.2.1, k.2.2.2.trans h.2.2.2⟩
theorem cells_of_cell {W : World} {b o : Nat} {v : Value} (h : W.cell? ⟨b, o, none⟩ = some v) : ∃ ob : Obj, W.heap[b]? = some ob ∧ ob.isCells = true := by
 unfold World.cell? at h
 cases ho : W.heap[b]? with
 | none => simp [ho] at h
 | some ob => exact ⟨ob, rfl, by cases ob <;> simp_all [Obj.isCells]⟩
theorem KpEu.put {Bx By : Nat} {W : World} {l : Nat} {o : Obj} (o' : Obj) (hl : W.heap[l]? = some o) (ho : o.isCells = false) (hx : Bx < l) (hy : By < l) : KpEu Bx By W (W.putObj l o') := by
 refine ⟨by simp, fun b f z hz => ?_, World.putObj_heap_other (by omega), World.putObj_heap_other (by omega)⟩
 obtain ⟨ob, hob, hc⟩ := cells_of_cell hz
 have hne : b ≠ l := by rintro rfl; rw [hl] at hob; cases hob; rw [ho] at hc; cases hc
 exact (cell_of_block (World.putObj_heap_other hne) f).trans hz
theorem KpEu.set {Bx By u : Nat} {W : World} {t : TypeId} {v : Value} (hu : Boxed W u t v) (hv : ∀ z, v ≠ .int .u32 z) (hx : Bx ≠ u) (hy : By ≠ u) (v' : Value) : KpEu Bx By W (W.setCell ⟨u, 0, none⟩ v') := by
 refine ⟨by simp, fun b f z hz => ?_, Below.heap_setCell _ _ _ _ (by simpa using hx), Below.heap_setCell _ _ _ _ (by simpa using hy)⟩
 have hne := u32_ne_box hz hu hv
 exact (cell_of_block (Below.heap_setCell _ _ _ _ (by simpa using hne)) f).trans hz
theorem NatsOff.turn {W W' : World} {p : Option Addr} {xs : List Nat} {u v B : Nat} {row : Option Nat} (h : NatsOff W p xs u v) (hg : W.grownBy W' row) (hr : ∀ r, row = some r → TurnT B (TEu u v) r W) : NatsOff W' p xs u v := by
 refine ⟨?_, h.2⟩
 rcases h.1 with h0 | ⟨b, off, rfl, hlt, hc⟩
 ·exact .inl h0
 ·by_cases hl : 0 < xs.length
  ·refine .inr ⟨b, off, rfl, Nat.lt_of_lt_of_le hlt hg.size, fun i hi j hj => (cell_of_block (hg.block b hlt fun e => ?_) _).trans (hc i hi j hj)⟩
   have ho := h.2 _ rfl hl
   rcases hr b e.symm with hT | ⟨_, o, hb, hoc⟩
   ·rcases hT with hT | hT
    ·exact ho.1 hT
    ·exact ho.2 hT
   ·obtain ⟨ob, hob, hcc⟩ := cells_of_cell (hc 0 hl 0 (by decide))
    rw [hb] at hob; cases hob; rw [hoc] at hcc; cases hcc
  ·exact .inl (by omega)
def IEu (w : World) (Bx By u : Nat) (pre : List EuP) (W : World) : Prop :=
 (∃ v, Boxed W u 89 v ∧ (∀ z, v ≠ .int .u32 z) ∧ ∀ pr x, pre = pr ++ [x] → v = .slice x.p (digs x.a).length x.c ∧ NatsOff W x.p (digs x.a) Bx By ∧ (digs x.a).length ≤ x.c ∧ x.c ≤ 1000000000) ∧
  Below w.heap.size w W ∧ BoxAt W (w.heap.size + 1 + 1) (.bool false) (.string ⟨#[]⟩)
theorem IEu.abides {w : World} {Bx By u B : Nat} (hx : w.heap.size + 1 + 1 < Bx) (hy : w.heap.size + 1 + 1 < By) (hux : u ≠ Bx) (huy : u ≠ By) (hB : w.heap.size + 1 + 1 < B) : AbT (TurnT B (TEu Bx By)) (IEu w Bx By u) := by
 rintro pre W W' row ⟨⟨v, hv, hvz, hl⟩, hb, hbox⟩ hg hr
 have hne : ∀ k o, (W.heap[k]? = some o ∧ o.isCells = true ∧ k ≠ Bx ∧ k ≠ By) → some k ≠ row := by
  rintro k o ⟨h1, h2, h3, h4⟩ e
  rcases hr k e.symm with hT | ⟨_, o', hb, hoc⟩
  ·rcases hT with hT | hT
   ·exact h3 hT
   ·exact h4 hT
  ·rw [h1] at hb; cases hb; rw [h2] at hoc; cases hoc
 refine ⟨⟨v, hv.kept hg (hne u _ ⟨hv, rfl, hux, huy⟩), hvz, fun pr x e => ?_⟩, ?_, ?_⟩
 ·obtain ⟨h1, h2, h3⟩ := hl pr x e
  exact ⟨h1, h2.turn hg hr, h3⟩
 ·refine hb.grown hg hb.size fun k e => ?_
  rcases hr k e with hT | ⟨hk, _⟩
  ·rcases hT with hT | hT <;> omega
  ·omega
 ·obtain ⟨ob, hob, hcc⟩ := cells_of_cell hbox.1
  exact hbox.of_block hg.size (hg.block _ hbox.2.2.2.2 (hne _ _ ⟨hob, hcc, by omega, by omega⟩))
end Go.Proofs.YtmbamcpndbimaaaGreatDoor
