/- Natural numbers as digits to the base 2^32, least first, and as bytes, greatest first. No program here. -/
import Derived.WalkKit
namespace Go.Proofs.Ytcafeffgaokiaaa
open Go.RowKit

/-- The value of digits to the base 2^32, the least one first. -/
def val : List Nat → Nat
  | [] => 0
  | d :: r => d + 4294967296 * val r
/-- Digits to the base 2^32. -/
def Dg (xs : List Nat) : Prop := ∀ x ∈ xs, x < 4294967296
theorem Dg.cons {d : Nat} {r : List Nat} (h : Dg (d :: r)) : d < 4294967296 ∧ Dg r := ⟨h d (List.mem_cons_self ..), fun x hx => h x (List.mem_cons_of_mem _ hx)⟩
theorem Dg.getD {xs : List Nat} (h : Dg xs) (k : Nat) : xs.getD k 0 < 4294967296 := by
  by_cases hk : k < xs.length
  · rw [List.getD_eq_getElem?_getD, List.getElem?_eq_getElem hk]; exact h _ (List.getElem_mem hk)
  · rw [List.getD_eq_getElem?_getD, List.getElem?_eq_none (by omega)]; decide
theorem Dg.take {xs : List Nat} (h : Dg xs) (k : Nat) : Dg (xs.take k) := fun x hx => h x (List.mem_of_mem_take hx)
theorem Dg.drop {xs : List Nat} (h : Dg xs) (k : Nat) : Dg (xs.drop k) := fun x hx => h x (List.mem_of_mem_drop hx)
theorem val_drop {xs : List Nat} {k : Nat} (hk : k < xs.length) : val (xs.drop k) = xs.getD k 0 + 4294967296 * val (xs.drop (k + 1)) := by
  rw [List.drop_eq_getElem_cons hk, val, List.getD_eq_getElem?_getD, List.getElem?_eq_getElem hk]; rfl
/-- Bytes, the greatest one first. -/
def bebF : Nat → Nat → List UInt8
  | 0, _ => []
  | f + 1, n => if n = 0 then [] else bebF f (n / 256) ++ [UInt8.ofNat (n % 256)]
def beb (n : Nat) : List UInt8 := bebF n n
/-- An integer as the program has it: its sign and its bytes. -/
structure ZI where
  neg : Bool
  mag : ByteArray
instance : Inhabited ZI := ⟨⟨false, ⟨#[]⟩⟩⟩
/-- The canonical integer with a value. -/
def canon (n : Int) : ZI := ⟨decide (n < 0), ⟨(beb n.natAbs).toArray⟩⟩
end Go.Proofs.Ytcafeffgaokiaaa
