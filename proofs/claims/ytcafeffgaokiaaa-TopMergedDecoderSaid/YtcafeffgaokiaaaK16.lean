/- The replacements of the words of an encoder, as lists; what a round of a range in a range keeps. -/
import Derived.Test.YtcafeffgaokiaaaK14
import Derived.Test.YtcafeffgaokiaaaK15
import Derived.Test.YtcafeffgaokiaaaK10
namespace Go.Proofs.Ytcafeffgaokiaaa
open Go.RowKit
/-- A replacement: the word, the place, the letter, how many outputs change. -/
structure Rp where
  w : ByteArray
  a : Nat
  c : Nat
  n : Nat
def encR (x : Rp) : Array Value := #[.agg #[.string x.w, .int .i64 (x.a : Int), .int .i64 (x.c : Int), .int .i64 (x.n : Int)]]
def rpN (D : ByteArray → List Int) (w : ByteArray) (a c : Nat) : Rp := ⟨w, a, c, (diffs (D w) (D (replS w a c))).length⟩
/-- Those of one place, of the first k letters. -/
def rpK (D : ByteArray → List Int) (w : ByteArray) (a k : Nat) : List Rp := ((List.range k).filter fun (c : Nat) => !(idxL 16 (w.data.toList.getD a 0) == (c : Int))).map (rpN D w a)
theorem rpK_hit {D : ByteArray → List Int} {w : ByteArray} {a k : Nat} (h : (idxL 16 (w.data.toList.getD a 0) == (k : Int)) = true) : rpK D w a (k + 1) = rpK D w a k := by
  unfold rpK
  rw [List.range_succ, List.filter_append]
  simp only [List.filter_cons, List.filter_nil, h, Bool.not_true, Bool.false_eq_true, if_false, List.append_nil]
theorem rpK_miss {D : ByteArray → List Int} {w : ByteArray} {a k : Nat} (h : (idxL 16 (w.data.toList.getD a 0) == (k : Int)) = false) : rpK D w a (k + 1) = rpK D w a k ++ [rpN D w a k] := by
  unfold rpK
  rw [List.range_succ, List.filter_append]
  simp only [List.filter_cons, List.filter_nil, h, Bool.not_false, if_true, List.map_append, List.map_cons, List.map_nil]
theorem rpK_split (D : ByteArray → List Int) (w : ByteArray) (a : Nat) {k L : Nat} (h : k ≤ L) : ∃ r, rpK D w a L = rpK D w a k ++ r := by
  obtain ⟨d, rfl⟩ := Nat.exists_eq_add_of_le h
  unfold rpK
  rw [List.range_add, List.filter_append, List.map_append]
  exact ⟨_, rfl⟩
/-- Those of the first k places. -/
def rpA (D : ByteArray → List Int) (w : ByteArray) (L k : Nat) : List Rp := (List.range k).flatMap fun a => rpK D w a L
theorem rpA_succ (D : ByteArray → List Int) (w : ByteArray) (L k : Nat) : rpA D w L (k + 1) = rpA D w L k ++ rpK D w k L := by
  unfold rpA
  rw [List.range_succ, List.flatMap_append]
  simp
theorem rpA_split (D : ByteArray → List Int) (w : ByteArray) (L : Nat) {k m : Nat} (h : k ≤ m) : ∃ r, rpA D w L m = rpA D w L k ++ r := by
  obtain ⟨d, rfl⟩ := Nat.exists_eq_add_of_le h
  unfold rpA
  rw [List.range_add, List.flatMap_append]
  exact ⟨_, rfl⟩
/-- Those of all words. -/
def rpE (D : ByteArray → List Int) (L : Nat) (ws : List ByteArray) : List Rp := ws.flatMap fun w => rpA D w L w.size
theorem rpE_snoc (D : ByteArray → List Int) (L : Nat) (ws : List ByteArray) (w : ByteArray) : rpE D L (ws ++ [w]) = rpE D L ws ++ rpA D w L w.size := by
  unfold rpE
  rw [List.flatMap_append]
  simp
theorem rp_pre {D : ByteArray → List Int} {L : Nat} {pre post ws : List ByteArray} {w : ByteArray} (h : pre ++ w :: post = ws) {a c : Nat} (ha : a < w.size) (hc : c < L) (hm : (idxL 16 (w.data.toList.getD a 0) == (c : Int)) = false) :
    ∃ q, (rpE D L pre ++ rpA D w L a ++ rpK D w a c) ++ rpN D w a c :: q = rpE D L ws := by
  obtain ⟨r1, h1⟩ := rpA_split D w L (show a + 1 ≤ w.size from ha)
  obtain ⟨r2, h2⟩ := rpK_split D w a (show c + 1 ≤ L from hc)
  refine ⟨r2 ++ r1 ++ rpE D L post, ?_⟩
  rw [← h]
  have e : rpE D L (pre ++ w :: post) = rpE D L pre ++ (rpA D w L w.size ++ rpE D L post) := by
    unfold rpE
    rw [List.flatMap_append, List.flatMap_cons]
  rw [e, h1, rpA_succ, h2, rpK_miss hm]
  simp only [List.append_assoc, List.cons_append, List.nil_append]
/-- What a round keeps: the cells but the caller's, and what is no cells from B on. -/
def KpO (B lo hi : Nat) (W W' : World) : Prop := KpH lo hi W W' ∧ KeepsFrom B W W'
theorem KpO.refl (B lo hi : Nat) (W : World) : KpO B lo hi W W := ⟨KpH.refl _ _ _, KeepsFrom.refl _ _⟩
theorem KpO.trans {B lo hi : Nat} {X Y Z : World} (h : KpO B lo hi X Y) (k : KpO B lo hi Y Z) : KpO B lo hi X Z := ⟨h.1.trans k.1, h.2.trans k.2⟩
theorem keepsB {B : Nat} {X Z : World} (h : Below X.heap.size X Z) : KeepsFrom B X Z := ⟨h.size, fun k _ _ hk _ => (h.block k (Array.getElem?_eq_some_iff.1 hk).1).trans hk⟩
theorem KpO.of_below {B lo hi : Nat} {W W' : World} (h : Below W.heap.size W W') : KpO B lo hi W W' := ⟨KpH.of_below h, keepsB h⟩
theorem KpO.put {lo hi : Nat} {W : World} {B l : Nat} {o : Obj} (o' : Obj) (hB : l < B) (hl : W.heap[l]? = some o) (hc : o.isCells = false) : KpO B lo hi W (W.putObj l o') :=
  ⟨KpH.put o' hl hc, by simp, fun k o2 hk ho _ => (World.putObj_heap_other (by omega)).trans ho⟩
/-- What an iterator that holds a range turns: what is no cells, from B on. -/
def TB (B : Nat) (r : Nat) (W : World) : Prop := B ≤ r ∧ ∃ o : Obj, W.heap[r]? = some o ∧ o.isCells = false
theorem AbT.up {β : Type} {B C : Nat} {J : β → World → Prop} (h : AbT (TB B) J) (hC : B ≤ C) : AbT (TurnT C fun _ _ => False) J := fun s W W' row hs hg hr =>
  h s W W' row hs hg fun r e => by
    rcases hr r e with h0 | ⟨h1, h2⟩
    · exact h0.elim
    · exact ⟨Nat.le_trans hC h1, h2⟩
theorem AbT.below {β : Type} {T : Nat → World → Prop} {J : β → World → Prop} (h : AbT T J) {s : β} {W W' : World} (hs : J s W) (hb : Below W.heap.size W W') : J s W' := h s W W' none hs (below_grown0 hb) fun r e => by cases e
theorem KpH.turn {lo hi B : Nat} {W W' : World} {row : Option Nat} (hg : W.grownBy W' row) (hr : ∀ r, row = some r → TurnT B (fun _ _ => False) r W) : KpH lo hi W W' :=
  ⟨hg.size, fun b o _ hb hc => by
    have := hg.block b (Array.getElem?_eq_some_iff.1 hb).1 (fun e => by
      rcases hr _ e.symm with h0 | ⟨_, o2, ho2, hc2⟩
      · exact h0
      · rw [hb] at ho2; cases ho2; rw [hc] at hc2; cases hc2)
    rw [this]; exact hb⟩
theorem SlAt.kph {sz lo hi : Nat} {V W : World} {p : Option Addr} {n : Nat} {C : Nat → Nat → Value} (h : SlAt sz V p n C) (k : KpH lo hi V W) (hp : ∀ b, p = some b → b.block < lo ∨ hi ≤ b.block) : SlAt sz W p n C := by
  rcases h with h | ⟨b, off, rfl, hlt, hc⟩
  · exact .inl h
  · exact .inr ⟨b, off, rfl, Nat.lt_of_lt_of_le hlt k.1, fun i hi j hj => k.cell (hc i hi j hj) (hp ⟨b, off, none⟩ rfl)⟩
/-- A decoder's box. -/
def DBox (W : World) (bd : Nat) (l b i p f : Int) (a : Option Addr) (n c : Nat) : Prop :=
  W.cell? ⟨bd, 0, none⟩ = some (.int .i64 l) ∧ W.cell? ⟨bd, 1, none⟩ = some (.int .i64 b) ∧ W.cell? ⟨bd, 2, none⟩ = some (.int .i64 i) ∧ W.cell? ⟨bd, 3, none⟩ = some (.int .i64 p) ∧ W.cell? ⟨bd, 4, none⟩ = some (.int .i64 f) ∧ W.cell? ⟨bd, 5, none⟩ = some (.slice a n c)
theorem DBox.kept {lo hi : Nat} {W W' : World} {bd : Nat} {l b i p f : Int} {a : Option Addr} {n c : Nat} (h : DBox W bd l b i p f a n c) (k : KpH lo hi W W') (hb : bd < lo ∨ hi ≤ bd) : DBox W' bd l b i p f a n c :=
  ⟨k.cell h.1 hb, k.cell h.2.1 hb, k.cell h.2.2.1 hb, k.cell h.2.2.2.1 hb, k.cell h.2.2.2.2.1 hb, k.cell h.2.2.2.2.2 hb⟩
end Go.Proofs.Ytcafeffgaokiaaa
