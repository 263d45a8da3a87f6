/- The walks of matrix.Characteristic and Det. -/
import Derived.Test.YtmbamcpndbimaaaGreatDoorJ8
import Derived.Test.YtmbamcpndbimaaaGreatDoorJ2
import Derived.Test.YtmbamcpndbimaaaGreatDoorShelfA
import Derived.Test.YtmbamcpndbimaaaGreatDoorJ5
import Derived.Deep.RegionWith
namespace Go.Proofs.YtmbamcpndbimaaaGreatDoor
open Go.RowKit Go.Shelf
open Go.RowKit Go.Shelf
open Go.RowKit Go.Shelf
open Go.RowKit Go.Shelf
open Go.RowKit Go.Shelf
theorem dotN_congr {f g : Nat → Int} {n : Nat} (h : ∀ j, j < n → f j = g j) : dotN f n = dotN g n := by
 induction n with
 | zero => rfl
 | succ n ih => rw [dotN, dotN, ih fun j hj => h j (by omega), h n (by omega)]
theorem dotN_zero (n : Nat) : dotN (fun _ => 0) n = 0 := by
 induction n with
 | zero => rfl
 | succ n ih => rw [dotN, ih]; rfl
theorem dotN_add (f g : Nat → Int) (n : Nat) : dotN (fun j => f j + g j) n = dotN f n + dotN g n := by
 induction n with
 | zero => rfl
 | succ n ih => rw [dotN, dotN, dotN, ih]; omega
theorem dotN_mul (c : Int) (f : Nat → Int) (n : Nat) : dotN (fun j => c * f j) n = c * dotN f n := by
 induction n with
 | zero => exact (Int.mul_zero c).symm
 | succ n ih => rw [dotN, dotN, ih, Int.mul_add]
theorem dotN_mul_right (c : Int) (f : Nat → Int) (n : Nat) : dotN (fun j => f j * c) n = dotN f n * c := by
 induction n with
 | zero => exact (Int.zero_mul c).symm
 | succ n ih => rw [dotN, dotN, ih, Int.add_mul]
theorem dotN_swap (f : Nat → Nat → Int) (m n : Nat) : dotN (fun i => dotN (fun j => f i j) n) m = dotN (fun j => dotN (fun i => f i j) m) n := by
 induction m with
 | zero => exact (dotN_zero n).symm
 | succ m ih =>
  rw [dotN, ih, ← dotN_add]
  rfl
open Go.RowKit
open Go.RowKit Go.Shelf
def Bn (x : Int) (e : Nat) : Prop := x.natAbs ≤ 2 ^ e
theorem Bn.size {x : Int} {e : Nat} (h : Bn x e) (k : Nat) (he : e < 8 * k) : (canon x).mag.size ≤ k := by
 refine canon_size x ?_
 rw [show (256 : Nat) = 2 ^ 8 from rfl, ← Nat.pow_mul]
 exact Nat.lt_of_le_of_lt h (Nat.pow_lt_pow_right (by decide) he)
theorem Bn.up {x : Int} {e f : Nat} (h : Bn x e) (he : e ≤ f) : Bn x f := Nat.le_trans h (Nat.pow_le_pow_right (by decide) he)
theorem Bn.mul {x y : Int} {e f : Nat} (h : Bn x e) (g : Bn y f) : Bn (x * y) (e + f) := by
 unfold Bn at *
 rw [Int.natAbs_mul, Nat.pow_add]
 exact Nat.mul_le_mul h g
theorem Bn.add {x y : Int} {e : Nat} (h : Bn x e) (g : Bn y e) : Bn (x + y) (e + 1) := by
 unfold Bn at *
 rw [Nat.pow_succ]
 omega
theorem Bn.neg {x : Int} {e : Nat} (h : Bn x e) : Bn (-x) e := by
 unfold Bn at *
 omega
theorem Bn.zero (e : Nat) : Bn 0 e := Nat.zero_le _
theorem Bn.one (e : Nat) : Bn 1 e := Nat.pos_of_ne_zero (by simp)
end Go.Proofs.YtmbamcpndbimaaaGreatDoor
namespace Go.Proofs.YtmbamcpndbimaaaGreatDoor
open Go.RowKit
def zx (Z : Nat → ZI) (n k : Nat) : ZI := if k < n then Z k else ⟨false, ⟨#[]⟩⟩
def cf (Z : Nat → ZI) (n k : Nat) : Int := if k < n then valZ (Z k) else 0
theorem valZ_zx (Z : Nat → ZI) (n k : Nat) : valZ (zx Z n k) = cf Z n k := by unfold zx cf; split <;> rfl
def mxN (a b : Nat) : Nat := if b > a then b else a
theorem mxN_ge (a b : Nat) : a ≤ mxN a b ∧ b ≤ mxN a b := by unfold mxN; split <;> omega
theorem mxN_or (a b : Nat) : mxN a b = a ∨ mxN a b = b := by unfold mxN; split <;> simp
theorem ymax2 {P : Program} (ts : Array TypeId) (t : TypeId) (w : World) (a b : Nat) : (Builtin.max_ ts t #[.int .i64 (a : Int), .int .i64 (b : Int)]).run P w = .ok (.int .i64 ((mxN a b : Nat) : Int)) w := by
 have h : (Builtin.max_ ts t #[.int .i64 (a : Int), .int .i64 (b : Int)]).run P w = .ok (.int .i64 (if (b : Int) > (a : Int) then (b : Int) else (a : Int))) w := rfl
 rw [h]
 unfold mxN
 by_cases hb : b > a
 ·rw [if_pos hb, if_pos (by omega)]
 ·rw [if_neg hb, if_neg (by omega)]
theorem GRow.cells {w : World} {p : Option Addr} {n : Nat} {Z : Nat → ZI} (h : GRow w p n Z) {k : Nat} (hk : k < n) : ∃ b off, p = some ⟨b, off, none⟩ ∧ b < w.heap.size ∧ ∀ i, i < n → w.cell? ⟨b, off + i * 2, none⟩ = some (.bool (Z i).neg) ∧ w.cell? ⟨b, off + i * 2 + 1, none⟩ = some (.string (Z i).mag) := by
 rcases h with h | ⟨b, off, rfl, hl, hc⟩
 ·omega
 ·exact ⟨b, off, rfl, hl, fun k hk => ⟨by have := hc k hk 0 (by omega); simpa [zg] using this, by have := hc k hk 1 (by omega); simpa [zg] using this⟩⟩
theorem RowF.g {w : World} {p : Option Addr} {n : Nat} {f : Nat → Int} (h : RowF w p n f) : GRow w p n (fun k => canon (f k)) := h
open Go.RowKit Go.Shelf
theorem BoxAt.far {w : World} {g : Nat} {a b : Value} (h : BoxAt w g a b) (p : Addr) (v : Value) (hp : p.block ≠ g) : BoxAt (w.setCell p v) g a b := by
 obtain ⟨h1, h2, h3, h4, h5⟩ := h
 have key : ∀ j, (w.setCell p v).cell? ⟨g, j, none⟩ = w.cell? ⟨g, j, none⟩ := fun j => World.cell?_setCell_other _ _ _ _ (by intro h; rw [h] at hp; exact hp rfl)
 exact ⟨by rw [key]; exact h1, by rw [key]; exact h2, by rw [World.frozen?_setCell]; exact h3, by rw [World.frozen?_setCell]; exact h4, by simpa using h5⟩
def mR (f g : Nat → Int) (m : Nat) : Nat → Nat → Int
 | 0, _ => 0
 | i + 1, t => mR f g m i t + if i ≤ t ∧ t < i + m then f i * g (t - i) else 0
def RetPolE (m : Nat) (f : Nat → Int) (c : Int) (w : World) (e : Ending) (w' : World) : Prop := ∃ q cap, e = .returned (.tuple #[.slice q m cap, .int .i64 c]) ∧ RowF w' q m f ∧ Below w.heap.size w w'
end Go.Proofs.YtmbamcpndbimaaaGreatDoor
