/- The walk of integer.short, and of integer.divide for a divisor of one digit. The walks of integer.Neg, Of, Check, Mul, Add. The walk of integer.Add. Plain laws: what the functions of package integer compute, as integers. The walk of integer.Of. The walk of integer.Div, for a divisor of one digit. -/
import Derived.Test.YtcafeffgaokiaaaZ38
import Derived.Deep.RegionHeld3
import Derived.Deep.DeepCutAuto
import Derived.Deep.DeepFit
namespace Go.Proofs.Ytcafeffgaokiaaa
open Go.RowKit

/-- What stands when the digits from i on are divided. -/
def Sh (xs : List Nat) (y i r : Nat) (F : Nat → Nat) : Prop :=
  (∀ j, F j < 4294967296) ∧ r < y ∧ val (xs.drop i) = val ((digList F xs.length).drop i) * y + r
theorem Sh.step {xs : List Nat} {y i r x : Nat} {F : Nat → Nat} (h : Sh xs y (i + 1) r F) (hi : i < xs.length) (hx : xs.getD i 0 = x) (hxl : x < 4294967296) :
    (r * 4294967296 + x) / y < 4294967296 ∧ Sh xs y i ((r * 4294967296 + x) % y) (fun j => if j = i then (r * 4294967296 + x) / y else F j) := by
  obtain ⟨h1, h2, h3⟩ := h
  have hq : (r * 4294967296 + x) / y < 4294967296 := by
    apply Nat.div_lt_of_lt_mul
    have : (r + 1) * 4294967296 ≤ y * 4294967296 := Nat.mul_le_mul_right _ h2
    omega
  refine ⟨hq, ?_, Nat.mod_lt _ (by omega), ?_⟩
  · intro j
    show (if j = i then (r * 4294967296 + x) / y else F j) < 4294967296
    split
    · exact hq
    · exact h1 j
  · rw [val_drop hi, hx, short_step h3 rfl rfl, val_drop_digList hi, if_pos rfl]
    congr 4
    apply congrArg
    apply List.ext_getElem?
    intro j
    simp only [List.getElem?_drop]
    by_cases hj : i + 1 + j < xs.length
    · simp only [digList, List.getElem?_map, List.getElem?_range hj, Option.map_some]
      rw [if_neg (by omega)]
    · simp only [digList, List.getElem?_map]
      rw [List.getElem?_eq_none (by simpa using hj)]; rfl

theorem DigBlk.one (w : World) (r : Nat) : DigBlk (w.alloc (.cells #[.int .u32 (r : Int)] 133)) w.heap.size (fun _ => r) 1 := by
  unfold DigBlk
  rw [heap_alloc_new]
  rfl

end Go.Proofs.Ytcafeffgaokiaaa

namespace Go.Proofs.Ytcafeffgaokiaaa
open Go.RowKit

/-- A box of two cells. -/
def BoxAt (w : World) (g : Nat) (a b : Value) : Prop :=
  w.cell? ⟨g, 0, none⟩ = some a ∧ w.cell? ⟨g, 1, none⟩ = some b ∧ w.frozen? ⟨g, 0, none⟩ = false ∧ w.frozen? ⟨g, 1, none⟩ = false ∧ g < w.heap.size
theorem BoxAt.below {w w' : World} {g B : Nat} {a b : Value} (h : BoxAt w g a b) (hb : Below B w w') (hg : g < B) : BoxAt w' g a b := by
  obtain ⟨h1, h2, h3, h4, h5⟩ := h
  exact ⟨(hb.cell (p := ⟨g, 0, none⟩) hg).trans h1, (hb.cell (p := ⟨g, 1, none⟩) hg).trans h2, (hb.frozen (p := ⟨g, 0, none⟩) hg).trans h3, (hb.frozen (p := ⟨g, 1, none⟩) hg).trans h4, Nat.lt_of_lt_of_le h5 hb.size⟩
theorem BoxAt.new (w : World) (a b : Value) (t : TypeId) : BoxAt (w.alloc (.cells #[a, b] t)) w.heap.size a b := by
  have hb := Below.refl (w.heap.size + 1) (w.alloc (.cells #[a, b] t))
  obtain ⟨⟨h1, h2⟩, h3, _⟩ := box2 hb
  exact ⟨h1, h2, box_frozen hb (Nat.lt_succ_self _) 0, box_frozen hb (Nat.lt_succ_self _) 1, h3⟩
theorem BoxAt.alloc {w : World} {g : Nat} {a b : Value} (h : BoxAt w g a b) (o : Obj) : BoxAt (w.alloc o) g a b :=
  h.below ((Below.refl w.heap.size w).alloc (Nat.le_refl _) o) h.2.2.2.2

end Go.Proofs.Ytcafeffgaokiaaa

namespace Go.Proofs.Ytcafeffgaokiaaa
open Go.RowKit

end Go.Proofs.Ytcafeffgaokiaaa

namespace Go.Proofs.Ytcafeffgaokiaaa

instance : DecidableEq ZI := fun a b => decidable_of_iff (a.neg = b.neg ∧ a.mag = b.mag) (by
  rcases a with ⟨a, s⟩
  rcases b with ⟨b, t⟩
  simp)
end Go.Proofs.Ytcafeffgaokiaaa

namespace Go.Proofs.Ytcafeffgaokiaaa
open Go.RowKit

end Go.Proofs.Ytcafeffgaokiaaa

namespace Go.Proofs.Ytcafeffgaokiaaa
open Go.RowKit

end Go.Proofs.Ytcafeffgaokiaaa
