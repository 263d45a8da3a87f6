/- Slices of strings: those that a call makes, and those that it reads. -/
import Derived.Test.YtlkajmdcffemeaaRows
import Derived.Test.YtlkajmdcffemeaaPlain
import Derived.OwnWalk
import Derived.OwnWalkIn
import Derived.KernelRfl
import Derived.Lib.Hide
namespace Go.Proofs.Ytlkajmdcffemeaa
open Go.RowKit

theorem strInfo : (Try.prog.info? 9).map (fun i => (i.zero, i.size, i.bytes)) = some (some (.string ⟨#[]⟩), 1, 16) := by kernel_rfl
/-- A world whose slice v holds these strings, in memory from block B on. -/
def OwnStrs (w : World) (B : Nat) (v : Value) (xs : List ByteArray) : Prop := w.ownsRow B 9 1 v xs.length (xs.map Value.string)
theorem OwnStrs.nil (w : World) (B : Nat) : OwnStrs w B (.slice none 0 0) [] := World.ownsRow_nil _ _ _ _
theorem OwnStrs.below {w w' : World} {B C : Nat} {v : Value} {xs : List ByteArray} (h : OwnStrs w B v xs) (hB : w.heap.size ≤ C) (hb : Below C w w') : OwnStrs w' B v xs := ownsRow_below h hB hb
theorem OwnStrs.base {w : World} {B B' : Nat} {v : Value} {xs : List ByteArray} (h : OwnStrs w B v xs) (hB : B' ≤ B) : OwnStrs w B' v xs := ownsRow_base h hB
theorem OwnStrs.alloc {w : World} {B : Nat} {v : Value} {xs : List ByteArray} (h : OwnStrs w B v xs) (o : Obj) : OwnStrs (w.alloc o) B v xs := World.ownsRow.alloc h o
theorem OwnStrs.drewN {w : World} {B : Nat} {v : Value} {xs : List ByteArray} (h : OwnStrs w B v xs) (n : Nat) : OwnStrs (w.drewN n) B v xs := h.below (Nat.le_refl _) (Drawn.below ⟨n, rfl⟩ _)

/-- 'out = append(out, y)' of strings onto a row of the call's own. -/
theorem wpList_append_str {ops : Array Oper} {rest : List Oper} {o : Oper} {a : Act} {Q : Exit → Act → World → Prop} {w : World} (hgd : o.guard = none) (s x : Operand)
    (ho : o.op = .call { callee := .builtin .append, args := #[s, x], argTypes := #[42, 42] })
    (base : Nat) (v : Value) (xs : List ByteArray) (hs : a.eval s = v) (hown : OwnStrs w base v xs) (g c : Nat) (y : ByteArray) (hx : a.eval x = .slice (some ⟨g, 0, none⟩) 1 c)
    (hc : w.cell? ⟨g, 0, none⟩ = some (.string y)) (hn : xs.length < 1000000000000) (hbase : base ≤ w.heap.size)
    (h : ∀ v' w', OwnStrs w' base v' (xs ++ [y]) → w.grownBy w' v.ownBlock → wpList Try.prog ops Q rest (a.put o.dst v') w') : wpList Try.prog ops Q (o :: rest) a w := by
  obtain ⟨i0, hi, hz0, hz1, hz2⟩ := info_parts strInfo
  refine wpList_append_own _ hgd s x _ ho base 9 i0 (.string ⟨#[]⟩) 1 16 Try.underlying42 hi hz0 hz1 hz2 rfl (by decide) v xs.length (xs.map Value.string) hs hown ⟨g, 0, none⟩ 1 c [.string y] hx rfl ?_ ?_ ?_ ?_ hbase ?_
  · intro j u hj
    match j, hj with
    | 0, hj => simp at hj; subst hj; simpa [Addr.add] using hc
  · intro u hu; simp at hu; subst hu; rfl
  · unfold maxLen; omega
  · omega
  · intro v' w' h2 h3 _
    exact h v' w' (by unfold OwnStrs; simpa using h2) h3

/-- A slice header at p reads as these strings. -/
def StrsAt (w : World) (p : Option Addr) (xs : List ByteArray) : Prop := SlAt 1 w p xs.length (fun i _ => .string (xs.getD i ByteArray.empty))
theorem StrsAt.below {w w' : World} {p : Option Addr} {xs : List ByteArray} (h : StrsAt w p xs) {B : Nat} (hB : w.heap.size ≤ B) (hb : Below B w w') : StrsAt w' p xs := h.mono hB hb
theorem OwnStrs.form {w : World} {B : Nat} {v : Value} {xs : List ByteArray} (h : OwnStrs w B v xs) : ∃ p cap, v = .slice p xs.length cap ∧ xs.length ≤ cap ∧ StrsAt w p xs ∧ (∀ b, p = some b → B ≤ b.block) :=
  slAt_of_owns h (fun i _ => .string (xs.getD i ByteArray.empty)) fun i hi j hj => by
    have : j = 0 := by omega
    subst this
    simp [List.getD_eq_getElem?_getD, hi]
theorem StrsAt.cells {w : World} {p : Option Addr} {xs : List ByteArray} (h : StrsAt w p xs) {k : Nat} (hk : k < xs.length) :
    ∃ b off, p = some ⟨b, off, none⟩ ∧ b < w.heap.size ∧ ∀ i, i < xs.length → w.cell? ⟨b, off + i, none⟩ = some (.string (xs.getD i ByteArray.empty)) := by
  rcases h with h | ⟨b, off, rfl, hlt, hc⟩
  · omega
  · exact ⟨b, off, rfl, hlt, fun i hi => by simpa using hc i hi 0 (by omega)⟩
end Go.Proofs.Ytlkajmdcffemeaa
