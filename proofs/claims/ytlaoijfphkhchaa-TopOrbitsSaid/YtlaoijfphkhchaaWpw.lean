/- The walk of matrix.Power. -/
import Derived.Test.YtlaoijfphkhchaaWA
import Derived.Test.YtlaoijfphkhchaaAlg
import Derived.Test.YtlaoijfphkhchaaInt12
namespace Go.Proofs.Ytlaoijfphkhchaa
open Go.RowKit Go.Shelf

theorem bitsN_fit {z : ZI} (h : z.mag.size ≤ 100000000) : bitsN (absZ z) ≤ 6400000000 := by
  have h1 := digs_len_fit h
  unfold bitsN
  split
  · omega
  · have : Lib.bitLen ((digs (absZ z)).getD ((digs (absZ z)).length - 1) 0) ≤ 32 := Lib.bitLen_le _ 32 (by decide) ((dg_digs (absZ z)).getD _)
    omega
/-- The greatest of some numbers. -/
def mxC (b : Nat) (f : Nat → Nat) : Nat → Nat
  | 0 => b
  | k + 1 => max (mxC b f k) (f k)
def mxM (G : Nat → Nat → Nat) (c : Nat) : Nat → Nat
  | 0 => 0
  | i + 1 => mxC (mxM G c i) (G i) c
theorem mxC_le {b B : Nat} {f : Nat → Nat} {k : Nat} (hb : b ≤ B) (hf : ∀ j, j < k → f j ≤ B) : mxC b f k ≤ B := by
  induction k with
  | zero => exact hb
  | succ k ih => exact Nat.max_le.2 ⟨ih fun j hj => hf j (by omega), hf k (by omega)⟩
theorem mxM_le {B : Nat} {G : Nat → Nat → Nat} {c r : Nat} (hf : ∀ i k, i < r → k < c → G i k ≤ B) : mxM G c r ≤ B := by
  induction r with
  | zero => exact Nat.zero_le _
  | succ r ih => exact mxC_le (ih fun i k hi hk => hf i k (by omega) hk) fun j hj => hf r j (by omega) hj
def bitM (F : Nat → Nat → Int) (i k : Nat) : Nat := bitsN (F i k).natAbs
def powE (a : GM) (n : Int) : Int := if a.sq ≠ 0 then a.sq else if n < 0 ∨ 4096 < n then 2 else if 65536 < ((mxM (bitM a.F) a.r a.r + bitsN a.r : Nat) : Int) * n then 4 else 0
/-- All powers up to the one asked for are of moderate size. -/
def PowOk (r : Nat) (F : Nat → Nat → Int) (N : Nat) : Prop := (∀ u, u ≤ N → Small r r (powF r F u)) ∧ ∀ u v, u + v ≤ N → SmallP r r r (powF r F u) (powF r F v)
end Go.Proofs.Ytlaoijfphkhchaa
