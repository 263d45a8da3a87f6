/- The walks of rational.lowest, New, Ratio. grooveref01: mag and Of of numbers of one digit; Compare with zero; grooveref02.sign. grooveref01: Compare with zero; grooveref02.sign. grooveref01.Compare at canonical numbers. -/
import Derived.Test.YtmbamcpndbimaaaDoorA3
import Derived.Test.YtmbamcpndbimaaaDoorA16
import Derived.Test.YtmbamcpndbimaaaDoorA2
import Derived.Outline
import Derived.Test.YtmbamcpndbimaaaDoorA25
import Derived.Test.YtmbamcpndbimaaaDoorA26
import Derived.Laws.IdiomStrings
import Derived.Deep.RegionWith
import Derived.Test.YtmbamcpndbimaaaDoorA27
namespace Go.Proofs.YtmbamcpndbimaaaDoor
open Go.RowKit

/-- A box of four cells. -/
def Box4 (w : World) (g : Nat) (a b c d : Value) : Prop :=
  w.cell? ⟨g, 0, none⟩ = some a ∧ w.cell? ⟨g, 1, none⟩ = some b ∧ w.cell? ⟨g, 2, none⟩ = some c ∧ w.cell? ⟨g, 3, none⟩ = some d ∧ (∀ j, w.frozen? ⟨g, j, none⟩ = false) ∧ g < w.heap.size
theorem Box4.of_block {W W' : World} {g : Nat} {a b c d : Value} (h : Box4 W g a b c d) (hs : W.heap.size ≤ W'.heap.size) (hb : W'.heap[g]? = W.heap[g]?) : Box4 W' g a b c d := by
  obtain ⟨h0, h1, h2, h3, h4, h5⟩ := h
  exact ⟨(cell_of_block hb _).trans h0, (cell_of_block hb _).trans h1, (cell_of_block hb _).trans h2, (cell_of_block hb _).trans h3, fun j => (frozen_of_block hb _).trans (h4 j), Nat.lt_of_lt_of_le h5 hs⟩
theorem Box4.below {w w' : World} {g B : Nat} {a b c d : Value} (h : Box4 w g a b c d) (hb : Below B w w') (hg : g < B) : Box4 w' g a b c d := h.of_block hb.size (hb.block g hg)
theorem Box4.new (w : World) (a b c d : Value) (t : TypeId) : Box4 (w.alloc (.cells #[a, b, c, d] t)) w.heap.size a b c d := by
  have hb := Below.refl (w.heap.size + 1) (w.alloc (.cells #[a, b, c, d] t))
  obtain ⟨⟨h0, h1, h2, h3⟩, h4, _⟩ := box4 hb
  exact ⟨h0, h1, h2, h3, fun j => box_frozen hb (Nat.lt_succ_self _) j, h4⟩

end Go.Proofs.YtmbamcpndbimaaaDoor
namespace Go.Proofs.YtmbamcpndbimaaaDoor
open Go.RowKit

end Go.Proofs.YtmbamcpndbimaaaDoor
namespace Go.Proofs.YtmbamcpndbimaaaDoor
open Go.RowKit

theorem BoxAt.dr {w : World} {g : Nat} {a b : Value} (h : BoxAt w g a b) : BoxAt w.drew g a b := h
theorem BoxAt.call {w w' : World} {g : Nat} {a b : Value} (h : BoxAt w g a b) (hb : Below w.heap.size w w') : BoxAt w' g a b := h.below hb h.2.2.2.2
theorem below_call {w0 w w' : World} {B : Nat} (h : Below B w0 w) (hB : B ≤ w.heap.size) (hb : Below w.heap.size w w') : Below B w0 w' := h.trans (hb.mono hB)
end Go.Proofs.YtmbamcpndbimaaaDoor
namespace Go.Proofs.YtmbamcpndbimaaaDoor
open Go.RowKit
theorem cmpV_neg {x y : Int} (h1 : x < 0) (h2 : y < 0) : cmpV y.natAbs x.natAbs = cmpI x y := by
  unfold cmpV cmpI
  repeat' split
  all_goals omega
theorem cmpV_pos {x y : Int} (h1 : ¬ x < 0) (h2 : ¬ y < 0) : cmpV x.natAbs y.natAbs = cmpI x y := by
  unfold cmpV cmpI
  repeat' split
  all_goals omega
end Go.Proofs.YtmbamcpndbimaaaDoor
