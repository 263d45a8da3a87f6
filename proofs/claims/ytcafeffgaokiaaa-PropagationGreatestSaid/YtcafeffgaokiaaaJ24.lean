/- The walks of matrix.Characteristic and Det. The walks of matrix.Adjugate and Transpose. The walks of matrix.Mul and Add. The walk of matrix.Transpose. The walk of matrix.Apply. Sums and products of matrices, as functions. The walks of integer.length, Bits. The walk of matrix.Power. The numbers of matrix.characteristic are of moderate size. The powers of a matrix are of moderate size. polynomial.combine, Add and Sub: the walks. polynomial.Mul: the walk. polynomial.divide: the walk. -/
import Derived.Test.YtcafeffgaokiaaaJ23
import Derived.Test.YtcafeffgaokiaaaJ20
import Derived.Test.YtcafeffgaokiaaaJ14
import Derived.Test.YtcafeffgaokiaaaShelfA
import Derived.Deep.RegionWith
import Derived.Deep.RegionLawGrows
namespace Go.Proofs.Ytcafeffgaokiaaa
open Go.RowKit Go.Shelf

end Go.Proofs.Ytcafeffgaokiaaa

namespace Go.Proofs.Ytcafeffgaokiaaa
open Go.RowKit Go.Shelf

end Go.Proofs.Ytcafeffgaokiaaa

namespace Go.Proofs.Ytcafeffgaokiaaa
open Go.RowKit Go.Shelf

end Go.Proofs.Ytcafeffgaokiaaa

namespace Go.Proofs.Ytcafeffgaokiaaa
open Go.RowKit Go.Shelf

end Go.Proofs.Ytcafeffgaokiaaa

namespace Go.Proofs.Ytcafeffgaokiaaa
open Go.RowKit Go.Shelf

/-- Within Apply: i rows are done, and k numbers of the next one. -/
structure ApI (w wr : World) (g r n i k : Nat) (F : Nat → Nat → Int) (V : Nat → Int) : Prop where
  below : Below w.heap.size w wr
  cur : ZAt wr g r (fun m => if m < i then dotN (fun j => F m j * V j) n else if m = i then dotN (fun j => F i j * V j) k else 0)
  low : w.heap.size ≤ g
theorem ApI.start (w wr : World) (hb : Below w.heap.size w wr) (r n : Nat) (t : TypeId) (F : Nat → Nat → Int) (V : Nat → Int) : ApI w (wr.alloc (.cells (madeCells #[.bool false, .string ⟨#[]⟩] (r * 2)) t)) wr.heap.size r n 0 0 F V :=
  ⟨hb.alloc hb.size _, (made_zero wr r t).congr fun k _ => by
    rw [if_neg (by omega)]
    split <;> rfl, hb.size⟩
theorem ApI.call {w wr wr' : World} {g r n i k : Nat} {F : Nat → Nat → Int} {V : Nat → Int} (h : ApI w wr g r n i k F V) (hb : Below wr.heap.size wr wr') : ApI w wr' g r n i k F V :=
  ⟨h.below.trans (hb.mono h.below.size), h.cur.below hb h.cur.1, h.low⟩
theorem ApI.put {w wr : World} {g r n i k : Nat} {F : Nat → Nat → Int} {V : Nat → Int} (h : ApI w wr g r n i k F V) :
    ApI w ((wr.setCell ⟨g, i * 2, none⟩ (.bool (canon (dotN (fun j => F i j * V j) (k + 1))).neg)).setCell ⟨g, i * 2 + 1, none⟩ (.string (canon (dotN (fun j => F i j * V j) (k + 1))).mag)) g r n i (k + 1) F V :=
  ⟨(h.below.setCell (by simpa using h.low) _).setCell (by simpa using h.low) _, (h.cur.set _).congr fun m _ => by
    by_cases e : m = i
    · subst e; simp
    · simp [e], h.low⟩
end Go.Proofs.Ytcafeffgaokiaaa
namespace Go.Proofs.Ytcafeffgaokiaaa
end Go.Proofs.Ytcafeffgaokiaaa
namespace Go.Proofs.Ytcafeffgaokiaaa
open Go.RowKit

end Go.Proofs.Ytcafeffgaokiaaa
namespace Go.Proofs.Ytcafeffgaokiaaa
open Go.RowKit Go.Shelf

end Go.Proofs.Ytcafeffgaokiaaa
namespace Go.Proofs.Ytcafeffgaokiaaa
/-- A number of at most e bits. -/
def Bn (x : Int) (e : Nat) : Prop := x.natAbs ≤ 2 ^ e
theorem Bn.size {x : Int} {e : Nat} (h : Bn x e) (k : Nat) (he : e < 8 * k) : (canon x).mag.size ≤ k := by
  refine canon_size x ?_
  rw [show (256 : Nat) = 2 ^ 8 from rfl, ← Nat.pow_mul]
  exact Nat.lt_of_le_of_lt h (Nat.pow_lt_pow_right (by decide) he)
theorem Bn.up {x : Int} {e f : Nat} (h : Bn x e) (he : e ≤ f) : Bn x f := Nat.le_trans h (Nat.pow_le_pow_right (by decide) he)
theorem Bn.mul {x y : Int} {e f : Nat} (h : Bn x e) (g : Bn y f) : Bn (x * y) (e + f) := by
  unfold Bn at *
  rw [Int.natAbs_mul, Nat.pow_add]
  exact Nat.mul_le_mul h g
theorem Bn.add {x y : Int} {e : Nat} (h : Bn x e) (g : Bn y e) : Bn (x + y) (e + 1) := by
  unfold Bn at *
  rw [Nat.pow_succ]
  omega
theorem Bn.neg {x : Int} {e : Nat} (h : Bn x e) : Bn (-x) e := by
  unfold Bn at *
  omega
theorem Bn.zero (e : Nat) : Bn 0 e := Nat.zero_le _
theorem Bn.one (e : Nat) : Bn 1 e := Nat.pos_of_ne_zero (by simp)
theorem Bn.dot {f : Nat → Int} {e m : Nat} (n : Nat) (hn : n ≤ 2 ^ m) (h : ∀ j, j < n → Bn (f j) e) : Bn (dotN f n) (e + m) := by
  have : ∀ j, j ≤ n → (dotN f j).natAbs ≤ j * 2 ^ e := by
    intro j
    induction j with
    | zero => intro _; simp [dotN]
    | succ j ih =>
      intro hj
      have h1 := ih (by omega)
      have h2 := h j (by omega)
      unfold Bn at h2
      rw [dotN, Nat.add_mul, Nat.one_mul]
      omega
  unfold Bn
  rw [Nat.pow_add, Nat.mul_comm]
  exact Nat.le_trans (this n (Nat.le_refl _)) (Nat.mul_le_mul_right _ hn)
/-- A matrix of numbers of at most e bits. -/
def BnM (r c : Nat) (F : Nat → Nat → Int) (e : Nat) : Prop := ∀ i k, i < r → k < c → Bn (F i k) e
theorem BnM.up {r c : Nat} {F : Nat → Nat → Int} {e f : Nat} (h : BnM r c F e) (he : e ≤ f) : BnM r c F f := fun i k hi hk => (h i k hi hk).up he
theorem BnM.small {r c : Nat} {F : Nat → Nat → Int} {e : Nat} (h : BnM r c F e) (he : e < 8 * 100000000) : Small r c F := fun i k hi hk => (h i k hi hk).size _ he
theorem BnM.mul {r n c : Nat} {F G : Nat → Nat → Int} {e f m : Nat} (h : BnM r n F e) (g : BnM n c G f) (hn : n ≤ 2 ^ m) : BnM r c (mulF n F G) (e + f + m) := fun i k hi hk => Bn.dot n hn fun j hj => (h i j hi hj).mul (g j k hj hk)
theorem BnM.add {r c : Nat} {F G : Nat → Nat → Int} {e : Nat} (h : BnM r c F e) (g : BnM r c G e) : BnM r c (fun i k => F i k + G i k) (e + 1) := fun i k hi hk => (h i k hi hk).add (g i k hi hk)
end Go.Proofs.Ytcafeffgaokiaaa

namespace Go.Proofs.Ytcafeffgaokiaaa
end Go.Proofs.Ytcafeffgaokiaaa
namespace Go.Proofs.Ytcafeffgaokiaaa
open Go.RowKit

theorem GRow.cells {w : World} {p : Option Addr} {n : Nat} {Z : Nat → ZI} (h : GRow w p n Z) {k : Nat} (hk : k < n) : ∃ b off, p = some ⟨b, off, none⟩ ∧ b < w.heap.size ∧ ∀ i, i < n → w.cell? ⟨b, off + i * 2, none⟩ = some (.bool (Z i).neg) ∧ w.cell? ⟨b, off + i * 2 + 1, none⟩ = some (.string (Z i).mag) := by
  rcases h with h | ⟨b, off, rfl, hl, hc⟩
  · omega
  · exact ⟨b, off, rfl, hl, fun k hk => ⟨by have := hc k hk 0 (by omega); simpa [zg] using this, by have := hc k hk 1 (by omega); simpa [zg] using this⟩⟩
theorem RowF.g {w : World} {p : Option Addr} {n : Nat} {f : Nat → Int} (h : RowF w p n f) : GRow w p n (fun k => canon (f k)) := h
end Go.Proofs.Ytcafeffgaokiaaa
namespace Go.Proofs.Ytcafeffgaokiaaa
open Go.RowKit Go.Shelf
theorem BoxAt.far {w : World} {g : Nat} {a b : Value} (h : BoxAt w g a b) (p : Addr) (v : Value) (hp : p.block ≠ g) : BoxAt (w.setCell p v) g a b := by
  obtain ⟨h1, h2, h3, h4, h5⟩ := h
  have key : ∀ j, (w.setCell p v).cell? ⟨g, j, none⟩ = w.cell? ⟨g, j, none⟩ := fun j => World.cell?_setCell_other _ _ _ _ (by intro h; rw [h] at hp; exact hp rfl)
  exact ⟨by rw [key]; exact h1, by rw [key]; exact h2, by rw [World.frozen?_setCell]; exact h3, by rw [World.frozen?_setCell]; exact h4, by simpa using h5⟩

end Go.Proofs.Ytcafeffgaokiaaa
namespace Go.Proofs.Ytcafeffgaokiaaa
open Go.RowKit Go.Shelf

end Go.Proofs.Ytcafeffgaokiaaa
