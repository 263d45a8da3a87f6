/- The walk of integer.Mul. The walks of matrix.sum and of its closure. A range over an iterator (Range), where the assignment of the round's variables makes memory (a variable that a round boxes). The walks of matrix.column and of its iterator. The walk of the closure of matrix.product. The walk of matrix.product. The walk of matrix.trace. The walk of matrix.characteristic. -/
import Derived.Test.YtcafeffgaokiaaaZ19
import Derived.Test.YtcafeffgaokiaaaZ24
import Derived.Test.YtcafeffgaokiaaaZ7
import Derived.Shelf.RegionOpen
import Derived.WalkKit
import Derived.WalkSpells
import Derived.WalkLawsBesides
import Derived.TacticsInMore
import Derived.LoopNIn
import Derived.LoopIn
import Derived.Deep.CutBlock
import Derived.Deep.DeepFit
import Derived.KernelRfl
import Derived.Lib.Hide
import Derived.Outline
import Derived.Test.YtcafeffgaokiaaaZ9
import Derived.Deep.RegionHeld
namespace Go.Proofs.Ytcafeffgaokiaaa
open Go.RowKit

end Go.Proofs.Ytcafeffgaokiaaa
namespace Go.Proofs.Ytcafeffgaokiaaa
open Go.RowKit Go.Shelf

/-- All entries are of moderate size. -/
def Small (r c : Nat) (F : Nat → Nat → Int) : Prop := ∀ i k, i < r → k < c → (canon (F i k)).mag.size ≤ 100000000

end Go.Proofs.Ytcafeffgaokiaaa
namespace Go.Proofs.Ytcafeffgaokiaaa
open Go.RowKit

end Go.Proofs.Ytcafeffgaokiaaa
namespace Go.Proofs.Ytcafeffgaokiaaa
open Go.RowKit Go.Shelf
attribute [local go_sem] Oper.semAt_some

/-- What has been yielded when j elements have. -/
def colL (G : Nat → Nat → Int) (k j : Nat) : List (Nat × Int) := (List.range j).map fun j => (j, G j k)
/-- What a round keeps: what lies below B, and the iterator's two boxes. -/
def KpCol (B Bm Bk : Nat) (W W' : World) : Prop := Below B W W' ∧ W'.heap[Bm]? = W.heap[Bm]? ∧ W'.heap[Bk]? = W.heap[Bk]?
theorem KpCol.trans {B Bm Bk : Nat} {X Y Z : World} (h : KpCol B Bm Bk X Y) (k : KpCol B Bm Bk Y Z) : KpCol B Bm Bk X Z := ⟨h.1.trans k.1, k.2.1.trans h.2.1, k.2.2.trans h.2.2⟩

end Go.Proofs.Ytcafeffgaokiaaa
namespace Go.Proofs.Ytcafeffgaokiaaa
open Go.RowKit Go.Shelf
theorem wide_fn (f : FuncId) : Fence.wide.fn f = True := rfl
attribute [local go_sem] Oper.semAt_some wide_fn

def dotN (f : Nat → Int) : Nat → Int
  | 0 => 0
  | j + 1 => dotN f j + f j
/-- Between two rounds of the sum: the number so far lies in the box B7. -/
def IPrd (w : World) (B1 : Nat) (i : Nat) (f : Nat → Int) (G : Nat → Nat → Int) (n k : Nat) (pre : List (Nat × Int)) (W : World) : Prop :=
  ∃ j, j ≤ n ∧ pre = colL G k j ∧ BoxAt W (w.heap.size + 1 + 1) (.bool (canon (dotN f j)).neg) (.string (canon (dotN f j)).mag) ∧ BoxAt W (w.heap.size + 1) (.bool false) (.string ⟨#[]⟩) ∧ Boxed W w.heap.size 3 (.int .i64 (i : Int)) ∧ Below w.heap.size w W ∧ B1 ≤ W.heap.size
theorem boxAt_grown {W W' : World} {row : Option Nat} {g : Nat} {a b : Value} (h : BoxAt W g a b) (hg : W.grownBy W' row) (hne : some g ≠ row) : BoxAt W' g a b := by
  obtain ⟨h1, h2, h3, h4, h5⟩ := h
  have hb := hg.block g h5 hne
  exact ⟨(cell_of_block hb 0).trans h1, (cell_of_block hb 1).trans h2, (frozen_of_block hb 0).trans h3, (frozen_of_block hb 1).trans h4, Nat.lt_of_lt_of_le h5 hg.size⟩
theorem turn_ge {B r : Nat} {W : World} (h : TurnT B (fun _ _ => False) r W) : B ≤ r := by
  rcases h with h | h
  · exact h.elim
  · exact h.1
theorem IPrd.abides {w : World} {B1 i n k : Nat} {f : Nat → Int} {G : Nat → Nat → Int} (hB : w.heap.size + 5 ≤ B1) : AbT (TurnT B1 (fun _ _ => False)) (IPrd w B1 i f G n k) := by
  rintro pre W W' row ⟨j, hj, hp, h7, h6, h4, hb, hs⟩ hg hr
  have hne : ∀ u, u < B1 → some u ≠ row := fun u hu e => by
    have := turn_ge (hr u e.symm); omega
  exact ⟨j, hj, hp, boxAt_grown h7 hg (hne _ (by omega)), boxAt_grown h6 hg (hne _ (by omega)), h4.kept hg (hne _ (by omega)), hb.grown hg (by omega) (fun u e => by have := turn_ge (hr u e); omega), Nat.le_trans hs hg.size⟩

theorem KpCol.put {B Bm Bk : Nat} {W : World} {l : Nat} {o' : Obj} (h0 : B ≤ l) (h1 : Bm ≠ l) (h2 : Bk ≠ l) : KpCol B Bm Bk W (W.putObj l o') :=
  ⟨⟨rfl, rfl, rfl, by simp, fun b hb => World.putObj_heap_other (by omega)⟩, World.putObj_heap_other h1, World.putObj_heap_other h2⟩
end Go.Proofs.Ytcafeffgaokiaaa
namespace Go.Proofs.Ytcafeffgaokiaaa
open Go.RowKit Go.Shelf

end Go.Proofs.Ytcafeffgaokiaaa
namespace Go.Proofs.Ytcafeffgaokiaaa
open Go.RowKit Go.Shelf

end Go.Proofs.Ytcafeffgaokiaaa
namespace Go.Proofs.Ytcafeffgaokiaaa
open Go.RowKit Go.Shelf

theorem size_neg (a : Int) : (canon (-a)).mag.size = (canon a).mag.size := by
  unfold canon; simp
end Go.Proofs.Ytcafeffgaokiaaa
