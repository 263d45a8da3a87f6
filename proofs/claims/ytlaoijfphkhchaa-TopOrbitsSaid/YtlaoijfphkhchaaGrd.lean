/- Lists of rows of the call's own that are written afterwards; grooveref04.zeros. -/
import Derived.Test.YtlaoijfphkhchaaApp
import Derived.Test.YtlaoijfphkhchaaSum
namespace Go.Proofs.Ytlaoijfphkhchaa
open Go.RowKit

/-- A list of rows under way: its rows lie in blocks of their own. -/
def SumG (w : World) (B M : Nat) (v : Value) (i n : Nat) (S : Nat → Nat → Int) : Prop :=
  ∃ Q : Nat → Nat, OwnH w B v ((List.range i).map fun j => .slice (some ⟨Q j, 0, none⟩) n n) ∧ (∀ j, j < i → RowT w (Q j) n (S j) ∧ B ≤ Q j ∧ Q j < M) ∧ ∀ j k, j < k → k < i → Q j ≠ Q k
theorem SumG.made (w : World) {B : Nat} (M n : Nat) (S : Nat → Nat → Int) (h : B ≤ w.heap.size) : SumG (w.alloc (.cells #[] 53)) B M (.slice (some ⟨w.heap.size, 0, none⟩) 0 0) 0 n S := ⟨fun _ => 0, OwnH.made w h, fun j hj => by omega, fun j k _ hk => by omega⟩
theorem SumG.below {w w' : World} {B M : Nat} {v : Value} {i n : Nat} {S : Nat → Nat → Int} (h : SumG w B M v i n S) (hb : Below w.heap.size w w') : SumG w' B M v i n S := by
  obtain ⟨Q, h1, h2, h3⟩ := h
  exact ⟨Q, h1.below (Nat.le_refl _) hb, fun j hj => ⟨(h2 j hj).1.kept (hb.block _ (h2 j hj).1.z.1), (h2 j hj).2⟩, h3⟩
/-- append(out, make(..)) of one row. -/
theorem wpList_append_grid {ops : Array Oper} {rest : List Oper} {o : Oper} {a : Act} {Q : Exit → Act → World → Prop} {w : World} (hgd : o.guard = none) (s x : Operand)
    (ho : o.op = .call { callee := .builtin .append, args := #[s, x], argTypes := #[63, 63] })
    (B M : Nat) (v : Value) (i n : Nat) (S : Nat → Nat → Int) (hv : a.eval s = v) (hsum : SumG w B M v i n S) (g c q : Nat) (hx : a.eval x = .slice (some ⟨g, 0, none⟩) 1 c)
    (hc : w.cell? ⟨g, 0, none⟩ = some (.slice (some ⟨q, 0, none⟩) n n)) (hr : RowT w q n (S i)) (hq : B ≤ q) (hM : M ≤ q) (hn : i < 1000000000000) (hbase : B ≤ w.heap.size)
    (h : ∀ v' w', SumG w' B w'.heap.size v' (i + 1) n S → Below B w w' → wpList Try.prog ops Q rest (a.put o.dst v') w') : wpList Try.prog ops Q (o :: rest) a w := by
  obtain ⟨QQ, h1, h2, h3⟩ := hsum
  refine wpList_append_hdr hgd s x ho B v _ hv h1 g c (some ⟨q, 0, none⟩) n n hx hc (by simpa using hn) hbase fun v' w' k1 k2 => ?_
  refine h v' w' ?_ (below_append (Below.refl _ _) h1 k2 hbase (Nat.le_refl _))
  have hkeep : ∀ {q : Nat} {f : Nat → Int}, RowT w q n f → RowT w' q n f := fun hr => hr.kept (k2.block _ hr.z.1 (own_ne_row h1 hr))
  refine ⟨fun j => if j = i then q else QQ j, ?_, fun j hj => ?_, fun j k hjk hk => ?_⟩
  · have e : ((List.range (i + 1)).map fun j => Value.slice (some ⟨if j = i then q else QQ j, 0, none⟩) n n) = ((List.range i).map fun j => .slice (some ⟨QQ j, 0, none⟩) n n) ++ [.slice (some ⟨q, 0, none⟩) n n] := by
      rw [List.range_succ, List.map_append]
      congr 1
      · refine List.map_congr_left fun j hj => ?_
        have := List.mem_range.1 hj
        rw [if_neg (by omega)]
      · simp
    rw [e]
    exact k1
  · dsimp only
    by_cases e : j = i
    · subst e
      rw [if_pos rfl]
      exact ⟨hkeep hr, hq, (hkeep hr).z.1⟩
    · rw [if_neg e]
      have hj2 := h2 j (by omega)
      exact ⟨hkeep hj2.1, hj2.2.1, (hkeep hj2.1).z.1⟩
  · dsimp only
    rw [if_neg (by omega)]
    by_cases e : k = i
    · rw [if_pos e]
      have := (h2 j (by omega)).2.2
      omega
    · rw [if_neg e]
      exact h3 j k hjk (by omega)
/-- A list of rows in blocks of their own. -/
structure Grid (w : World) (B g r c : Nat) (A : Nat → Nat) (F : Nat → Nat → Int) : Prop where
  low : B ≤ g
  lt : g < w.heap.size
  hdr : ∀ i, i < r → w.cell? ⟨g, i, none⟩ = some (.slice (some ⟨A i, 0, none⟩) c c)
  row : ∀ i, i < r → RowT w (A i) c (F i) ∧ B ≤ A i
  ne : ∀ i, i < r → A i ≠ g
  inj : ∀ i j, i < j → j < r → A i ≠ A j
theorem Grid.call {w w' : World} {B g r c : Nat} {A : Nat → Nat} {F : Nat → Nat → Int} (h : Grid w B g r c A F) (hb : Below w.heap.size w w') : Grid w' B g r c A F :=
  ⟨h.low, Nat.lt_of_lt_of_le h.lt hb.size, fun i hi => cell_below hb (h.hdr i hi), fun i hi => ⟨(h.row i hi).1.kept (hb.block _ (h.row i hi).1.z.1), (h.row i hi).2⟩, h.ne, h.inj⟩
theorem Grid.congr {w : World} {B g r c : Nat} {A : Nat → Nat} {F G : Nat → Nat → Int} (h : Grid w B g r c A F) (e : ∀ i k, i < r → k < c → F i k = G i k) : Grid w B g r c A G :=
  ⟨h.low, h.lt, h.hdr, fun i hi => ⟨(h.row i hi).1.congr fun k hk => e i k hi hk, (h.row i hi).2⟩, h.ne, h.inj⟩
theorem Grid.set {w : World} {B g r c : Nat} {A : Nat → Nat} {F : Nat → Nat → Int} (h : Grid w B g r c A F) {i : Nat} (hi : i < r) (k : Nat) (v : Int) :
    Grid ((w.setCell ⟨A i, k * 2, none⟩ (.bool (canon v).neg)).setCell ⟨A i, k * 2 + 1, none⟩ (.string (canon v).mag)) B g r c A (fun a b => if a = i ∧ b = k then v else F a b) := by
  refine ⟨h.low, by simpa using h.lt, fun j hj => ?_, fun j hj => ⟨?_, (h.row j hj).2⟩, h.ne, h.inj⟩
  · have := h.ne i hi
    rw [World.cell?_setCell_other _ _ _ _ (by intro hh; simp only [Addr.mk.injEq] at hh; omega), World.cell?_setCell_other _ _ _ _ (by intro hh; simp only [Addr.mk.injEq] at hh; omega)]
    exact h.hdr j hj
  · by_cases e : j = i
    · subst e
      exact ((h.row j hj).1.set k v).congr fun b _ => by
        by_cases eb : b = k
        · rw [if_pos eb, if_pos ⟨rfl, eb⟩]
        · rw [if_neg eb, if_neg (fun hh => eb hh.2)]
    · have hne : A j ≠ A i := by
        rcases Nat.lt_or_gt_of_ne e with hlt | hgt
        · exact h.inj j i hlt hi
        · exact fun hh => h.inj i j hgt hj hh.symm
      have hk2 : ((w.setCell ⟨A i, k * 2, none⟩ (.bool (canon v).neg)).setCell ⟨A i, k * 2 + 1, none⟩ (.string (canon v).mag)).heap[A j]? = w.heap[A j]? := by
        rw [heap_setCell_other _ _ _ _ hne, heap_setCell_other _ _ _ _ hne]
      exact ((h.row j hj).1.kept hk2).congr fun b _ => by rw [if_neg (fun hh => e hh.1)]
theorem Grid.mat {w : World} {B g r c : Nat} {A : Nat → Nat} {F : Nat → Nat → Int} (h : Grid w B g r c A F) : MatF w (some ⟨g, 0, none⟩) r c F :=
  ⟨fun i => (some ⟨A i, 0, none⟩, c), .inr ⟨g, 0, rfl, h.lt, fun i hi j hj => by
    have : j = 0 := by omega
    subst this
    simpa using h.hdr i hi⟩, fun i hi => (h.row i hi).1.z.row⟩
theorem SumG.grid {w : World} {B M : Nat} {v : Value} {r n : Nat} {S : Nat → Nat → Int} (h : SumG w B M v r n S) (h0 : 0 < r) : ∃ g cap A, v = .slice (some ⟨g, 0, none⟩) r cap ∧ Grid w B g r n A S := by
  obtain ⟨Q, h1, h2, h3⟩ := h
  have hl : ((List.range r).map fun j => Value.slice (some ⟨Q j, 0, none⟩) n n).length = r := by simp
  have hrow := h1
  have h4 : w.ownsRow B 53 1 v ((List.range r).map fun j => Value.slice (some ⟨Q j, 0, none⟩) n n).length ((List.range r).map fun j => Value.slice (some ⟨Q j, 0, none⟩) n n) := h1
  rw [hl] at h4
  rcases h4.2 with ⟨_, h5⟩ | ⟨g, cap, cur, rfl, hg, hh, hnc, _, hsz, htk⟩
  · omega
  · refine ⟨g, cap, Q, rfl, hg, (Array.getElem?_eq_some_iff.1 hh).1, fun i hi => ?_, fun i hi => ⟨(h2 i hi).1, (h2 i hi).2.1⟩, fun i hi hh2 => ?_, h3⟩
    · have := h4.cells (g := g) rfl i (.slice (some ⟨Q i, 0, none⟩) n n) (by simp [List.getElem?_range hi])
      rwa [Addr.add_lit, Nat.zero_add] at this
    · have := own_ne_row hrow (h2 i hi).1
      rw [hh2] at this
      exact this rfl
def RetGrid (r c : Nat) (F : Nat → Nat → Int) (w : World) (e : Ending) (w' : World) : Prop := ∃ g cap A, e = .returned (.slice (some ⟨g, 0, none⟩) r cap) ∧ Grid w' w.heap.size g r c A F ∧ Below w.heap.size w w'
end Go.Proofs.Ytlaoijfphkhchaa
