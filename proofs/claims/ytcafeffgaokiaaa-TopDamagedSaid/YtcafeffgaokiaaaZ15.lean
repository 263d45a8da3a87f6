/- The replacements of the words of an encoder, as lists; what a round of a range in a range keeps. What the replacements of an encoder's words add up to, and why there are none: plain facts. -/
import Derived.Test.YtcafeffgaokiaaaZ13
import Derived.Test.YtcafeffgaokiaaaZ14
import Derived.Test.YtcafeffgaokiaaaZ10
namespace Go.Proofs.Ytcafeffgaokiaaa
open Go.RowKit
/-- A replacement: the word, the place, the letter, how many outputs change. -/
structure Rp where
  w : ByteArray
  a : Nat
  c : Nat
  n : Nat
/-- What a round keeps: the cells but the caller's, and what is no cells from B on. -/
def KpO (B lo hi : Nat) (W W' : World) : Prop := KpH lo hi W W' ∧ KeepsFrom B W W'
theorem KpO.refl (B lo hi : Nat) (W : World) : KpO B lo hi W W := ⟨KpH.refl _ _ _, KeepsFrom.refl _ _⟩
theorem KpO.trans {B lo hi : Nat} {X Y Z : World} (h : KpO B lo hi X Y) (k : KpO B lo hi Y Z) : KpO B lo hi X Z := ⟨h.1.trans k.1, h.2.trans k.2⟩
theorem keepsB {B : Nat} {X Z : World} (h : Below X.heap.size X Z) : KeepsFrom B X Z := ⟨h.size, fun k _ _ hk _ => (h.block k (Array.getElem?_eq_some_iff.1 hk).1).trans hk⟩
theorem KpO.of_below {B lo hi : Nat} {W W' : World} (h : Below W.heap.size W W') : KpO B lo hi W W' := ⟨KpH.of_below h, keepsB h⟩
theorem KpO.put {lo hi : Nat} {W : World} {B l : Nat} {o : Obj} (o' : Obj) (hB : l < B) (hl : W.heap[l]? = some o) (hc : o.isCells = false) : KpO B lo hi W (W.putObj l o') :=
  ⟨KpH.put o' hl hc, by simp, fun k o2 hk ho _ => (World.putObj_heap_other (by omega)).trans ho⟩
/-- What an iterator that holds a range turns: what is no cells, from B on. -/
def TB (B : Nat) (r : Nat) (W : World) : Prop := B ≤ r ∧ ∃ o : Obj, W.heap[r]? = some o ∧ o.isCells = false
theorem AbT.up {β : Type} {B C : Nat} {J : β → World → Prop} (h : AbT (TB B) J) (hC : B ≤ C) : AbT (TurnT C fun _ _ => False) J := fun s W W' row hs hg hr =>
  h s W W' row hs hg fun r e => by
    rcases hr r e with h0 | ⟨h1, h2⟩
    · exact h0.elim
    · exact ⟨Nat.le_trans hC h1, h2⟩
theorem AbT.below {β : Type} {T : Nat → World → Prop} {J : β → World → Prop} (h : AbT T J) {s : β} {W W' : World} (hs : J s W) (hb : Below W.heap.size W W') : J s W' := h s W W' none hs (below_grown0 hb) fun r e => by cases e
theorem KpH.turn {lo hi B : Nat} {W W' : World} {row : Option Nat} (hg : W.grownBy W' row) (hr : ∀ r, row = some r → TurnT B (fun _ _ => False) r W) : KpH lo hi W W' :=
  ⟨hg.size, fun b o _ hb hc => by
    have := hg.block b (Array.getElem?_eq_some_iff.1 hb).1 (fun e => by
      rcases hr _ e.symm with h0 | ⟨_, o2, ho2, hc2⟩
      · exact h0
      · rw [hb] at ho2; cases ho2; rw [hc] at hc2; cases hc2)
    rw [this]; exact hb⟩
/-- A decoder's box. -/
def DBox (W : World) (bd : Nat) (l b i p f : Int) (a : Option Addr) (n c : Nat) : Prop :=
  W.cell? ⟨bd, 0, none⟩ = some (.int .i64 l) ∧ W.cell? ⟨bd, 1, none⟩ = some (.int .i64 b) ∧ W.cell? ⟨bd, 2, none⟩ = some (.int .i64 i) ∧ W.cell? ⟨bd, 3, none⟩ = some (.int .i64 p) ∧ W.cell? ⟨bd, 4, none⟩ = some (.int .i64 f) ∧ W.cell? ⟨bd, 5, none⟩ = some (.slice a n c)
theorem DBox.kept {lo hi : Nat} {W W' : World} {bd : Nat} {l b i p f : Int} {a : Option Addr} {n c : Nat} (h : DBox W bd l b i p f a n c) (k : KpH lo hi W W') (hb : bd < lo ∨ hi ≤ bd) : DBox W' bd l b i p f a n c :=
  ⟨k.cell h.1 hb, k.cell h.2.1 hb, k.cell h.2.2.1 hb, k.cell h.2.2.2.1 hb, k.cell h.2.2.2.2.1 hb, k.cell h.2.2.2.2.2 hb⟩
end Go.Proofs.Ytcafeffgaokiaaa
namespace Go.Proofs.Ytcafeffgaokiaaa
open Go.RowKit
/-- The worst replacement so far. -/
structure Ws where
  w : ByteArray
  a : Int
  c : Int
  n : Int
def Rp.ws (x : Rp) : Ws := ⟨x.w, (x.a : Int), (x.c : Int), (x.n : Int)⟩
def Ws.step (s : Ws) (x : Rp) : Ws := if s.n < (x.n : Int) then x.ws else s
end Go.Proofs.Ytcafeffgaokiaaa
