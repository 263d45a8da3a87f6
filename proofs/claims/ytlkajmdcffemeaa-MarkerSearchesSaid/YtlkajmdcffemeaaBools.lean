/- Slices of bools: those that a call makes, and those that it reads. -/
import Derived.Test.YtlkajmdcffemeaaRows
import Derived.Test.YtlkajmdcffemeaaPlain
import Derived.OwnWalk
import Derived.OwnWalkIn
import Derived.KernelRfl
import Derived.Lib.Hide
namespace Go.Proofs.Ytlkajmdcffemeaa
open Go.RowKit

theorem boolInfo : (Try.prog.info? 4).map (fun i => (i.zero, i.size, i.bytes)) = some (some (.bool false), 1, 1) := by kernel_rfl
/-- A world whose slice v holds these bools, in memory from block B on. -/
def OwnBools (w : World) (B : Nat) (v : Value) (xs : List Bool) : Prop := w.ownsRow B 4 1 v xs.length (xs.map Value.bool)
theorem OwnBools.nil (w : World) (B : Nat) : OwnBools w B (.slice none 0 0) [] := World.ownsRow_nil _ _ _ _
theorem OwnBools.below {w w' : World} {B C : Nat} {v : Value} {xs : List Bool} (h : OwnBools w B v xs) (hB : w.heap.size ≤ C) (hb : Below C w w') : OwnBools w' B v xs := ownsRow_below h hB hb
theorem OwnBools.base {w : World} {B B' : Nat} {v : Value} {xs : List Bool} (h : OwnBools w B v xs) (hB : B' ≤ B) : OwnBools w B' v xs := ownsRow_base h hB
theorem OwnBools.alloc {w : World} {B : Nat} {v : Value} {xs : List Bool} (h : OwnBools w B v xs) (o : Obj) : OwnBools (w.alloc o) B v xs := World.ownsRow.alloc h o
theorem OwnBools.drewN {w : World} {B : Nat} {v : Value} {xs : List Bool} (h : OwnBools w B v xs) (n : Nat) : OwnBools (w.drewN n) B v xs := h.below (Nat.le_refl _) (Drawn.below ⟨n, rfl⟩ _)

/-- 'out = append(out, y)' of bools onto a row of the call's own. -/
theorem wpList_append_bool {ops : Array Oper} {rest : List Oper} {o : Oper} {a : Act} {Q : Exit → Act → World → Prop} {w : World} (hgd : o.guard = none) (s x : Operand)
    (ho : o.op = .call { callee := .builtin .append, args := #[s, x], argTypes := #[46, 46] })
    (base : Nat) (v : Value) (xs : List Bool) (hs : a.eval s = v) (hown : OwnBools w base v xs) (g c : Nat) (y : Bool) (hx : a.eval x = .slice (some ⟨g, 0, none⟩) 1 c)
    (hc : w.cell? ⟨g, 0, none⟩ = some (.bool y)) (hn : xs.length < 1000000000000) (hbase : base ≤ w.heap.size)
    (h : ∀ v' w', OwnBools w' base v' (xs ++ [y]) → w.grownBy w' v.ownBlock → wpList Try.prog ops Q rest (a.put o.dst v') w') : wpList Try.prog ops Q (o :: rest) a w := by
  obtain ⟨i0, hi, hz0, hz1, hz2⟩ := info_parts boolInfo
  refine wpList_append_own _ hgd s x _ ho base 4 i0 (.bool false) 1 1 Try.underlying46 hi hz0 hz1 hz2 rfl (by decide) v xs.length (xs.map Value.bool) hs hown ⟨g, 0, none⟩ 1 c [.bool y] hx rfl ?_ ?_ ?_ ?_ hbase ?_
  · intro j u hj
    match j, hj with
    | 0, hj => simp at hj; subst hj; simpa [Addr.add] using hc
  · intro u hu; simp at hu; subst hu; rfl
  · unfold maxLen; omega
  · omega
  · intro v' w' h2 h3 _
    exact h v' w' (by unfold OwnBools; simpa using h2) h3

/-- A slice header at p reads as these bools. -/
def BoolsAt (w : World) (p : Option Addr) (xs : List Bool) : Prop := SlAt 1 w p xs.length (fun i _ => .bool (xs.getD i false))
theorem BoolsAt.below {w w' : World} {p : Option Addr} {xs : List Bool} (h : BoolsAt w p xs) {B : Nat} (hB : w.heap.size ≤ B) (hb : Below B w w') : BoolsAt w' p xs := h.mono hB hb
theorem OwnBools.form {w : World} {B : Nat} {v : Value} {xs : List Bool} (h : OwnBools w B v xs) : ∃ p cap, v = .slice p xs.length cap ∧ xs.length ≤ cap ∧ BoolsAt w p xs ∧ (∀ b, p = some b → B ≤ b.block) :=
  slAt_of_owns h (fun i _ => .bool (xs.getD i false)) fun i hi j hj => by
    have : j = 0 := by omega
    subst this
    simp [List.getD_eq_getElem?_getD, hi]
theorem BoolsAt.cells {w : World} {p : Option Addr} {xs : List Bool} (h : BoolsAt w p xs) {k : Nat} (hk : k < xs.length) :
    ∃ b off, p = some ⟨b, off, none⟩ ∧ b < w.heap.size ∧ ∀ i, i < xs.length → w.cell? ⟨b, off + i, none⟩ = some (.bool (xs.getD i false)) := by
  rcases h with h | ⟨b, off, rfl, hlt, hc⟩
  · omega
  · exact ⟨b, off, rfl, hlt, fun i hi => by simpa using hc i hi 0 (by omega)⟩
end Go.Proofs.Ytlkajmdcffemeaa
