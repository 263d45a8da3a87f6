/- Slices of ints: those that a call makes, and those that it reads. -/
import Derived.Test.YtcafeffgaokiaaaRows
import Derived.Test.YtcafeffgaokiaaaK0
import Derived.OwnWalk
import Derived.KernelRfl
import Derived.Lib.Hide
namespace Go.Proofs.Ytcafeffgaokiaaa
open Go.RowKit

theorem intInfo : (Try.prog.info? 3).map (fun i => (i.zero, i.size, i.bytes)) = some (some (.int .i64 0), 1, 8) := by kernel_rfl
/-- A world whose slice v holds these ints, in memory from block B on. -/
def OwnInts (w : World) (B : Nat) (v : Value) (xs : List Int) : Prop := w.ownsRow B 3 1 v xs.length (xs.map (Value.int .i64))
theorem OwnInts.nil (w : World) (B : Nat) : OwnInts w B (.slice none 0 0) [] := World.ownsRow_nil _ _ _ _
theorem OwnInts.below {w w' : World} {B C : Nat} {v : Value} {xs : List Int} (h : OwnInts w B v xs) (hB : w.heap.size ≤ C) (hb : Below C w w') : OwnInts w' B v xs := ownsRow_below h hB hb
theorem OwnInts.base {w : World} {B B' : Nat} {v : Value} {xs : List Int} (h : OwnInts w B v xs) (hB : B' ≤ B) : OwnInts w B' v xs := ownsRow_base h hB
theorem OwnInts.alloc {w : World} {B : Nat} {v : Value} {xs : List Int} (h : OwnInts w B v xs) (o : Obj) : OwnInts (w.alloc o) B v xs := World.ownsRow.alloc h o
theorem OwnInts.drewN {w : World} {B : Nat} {v : Value} {xs : List Int} (h : OwnInts w B v xs) (n : Nat) : OwnInts (w.drewN n) B v xs := h.below (Nat.le_refl _) (Drawn.below ⟨n, rfl⟩ _)

/-- 'out = append(out, y)' of ints onto a row of the call's own. -/
theorem wpList_append_int {ops : Array Oper} {rest : List Oper} {o : Oper} {a : Act} {Q : Exit → Act → World → Prop} {w : World} (hgd : o.guard = none) (s x : Operand)
    (ho : o.op = .call { callee := .builtin .append, args := #[s, x], argTypes := #[34, 34] })
    (base : Nat) (v : Value) (xs : List Int) (hs : a.eval s = v) (hown : OwnInts w base v xs) (g c : Nat) (y : Int) (hx : a.eval x = .slice (some ⟨g, 0, none⟩) 1 c)
    (hc : w.cell? ⟨g, 0, none⟩ = some (.int .i64 y)) (hn : xs.length < 1000000000000) (hbase : base ≤ w.heap.size)
    (h : ∀ v' w', OwnInts w' base v' (xs ++ [y]) → w.grownBy w' v.ownBlock → wpList Try.prog ops Q rest (a.put o.dst v') w') : wpList Try.prog ops Q (o :: rest) a w := by
  obtain ⟨i0, hi, hz0, hz1, hz2⟩ := info_parts intInfo
  refine wpList_append_own _ hgd s x _ ho base 3 i0 (.int .i64 0) 1 8 Try.underlying34 hi hz0 hz1 hz2 rfl (by decide) v xs.length (xs.map (Value.int .i64)) hs hown ⟨g, 0, none⟩ 1 c [.int .i64 y] hx rfl ?_ ?_ ?_ ?_ hbase ?_
  · intro j u hj
    match j, hj with
    | 0, hj => simp at hj; subst hj; simpa [Addr.add] using hc
  · intro u hu; simp at hu; subst hu; rfl
  · unfold maxLen; omega
  · omega
  · intro v' w' h2 h3 _
    exact h v' w' (by unfold OwnInts; simpa using h2) h3

/-- A slice header at p reads as these ints. -/
def IntsAt (w : World) (p : Option Addr) (xs : List Int) : Prop := SlAt 1 w p xs.length (fun i _ => .int .i64 (xs.getD i 0))
theorem IntsAt.below {w w' : World} {p : Option Addr} {xs : List Int} (h : IntsAt w p xs) {B : Nat} (hB : w.heap.size ≤ B) (hb : Below B w w') : IntsAt w' p xs := h.mono hB hb
theorem OwnInts.form {w : World} {B : Nat} {v : Value} {xs : List Int} (h : OwnInts w B v xs) : ∃ p cap, v = .slice p xs.length cap ∧ xs.length ≤ cap ∧ IntsAt w p xs ∧ (∀ b, p = some b → B ≤ b.block) :=
  slAt_of_owns h (fun i _ => .int .i64 (xs.getD i 0)) fun i hi j hj => by
    have : j = 0 := by omega
    subst this
    simp [List.getD_eq_getElem?_getD, hi]
theorem IntsAt.cells {w : World} {p : Option Addr} {xs : List Int} (h : IntsAt w p xs) {k : Nat} (hk : k < xs.length) :
    ∃ b off, p = some ⟨b, off, none⟩ ∧ b < w.heap.size ∧ ∀ i, i < xs.length → w.cell? ⟨b, off + i, none⟩ = some (.int .i64 (xs.getD i 0)) := by
  rcases h with h | ⟨b, off, rfl, hlt, hc⟩
  · omega
  · exact ⟨b, off, rfl, hlt, fun i hi => by simpa using hc i hi 0 (by omega)⟩
end Go.Proofs.Ytcafeffgaokiaaa
