/- Plain facts about lists, bytes and loops that the walks use; no program here. -/
import Derived.WalkKit
import Derived.Deep.QuietTactic
namespace Go.Proofs.Ytcafeffgaokiaaa
open Go.RowKit

/-- A search loop: the first answer of 'body' at k, k+1, .., n-1; else d. -/
def firstFrom (body : Nat → Option Int) (d : Int) : Nat → Nat → Int
  | 0, _ => d
  | m + 1, k => match body k with
    | some r => r
    | none => firstFrom body d m (k + 1)
theorem firstFrom_some {body : Nat → Option Int} {d : Int} {n k : Nat} {r : Int} (h : k < n) (hb : body k = some r) : firstFrom body d (n - k) k = r := by
  obtain ⟨m, hm⟩ : ∃ m, n - k = m + 1 := ⟨n - k - 1, by omega⟩
  rw [hm]; simp [firstFrom, hb]
theorem firstFrom_none {body : Nat → Option Int} {d : Int} {n k : Nat} (h : k < n) (hb : body k = none) : firstFrom body d (n - k) k = firstFrom body d (n - (k + 1)) (k + 1) := by
  obtain ⟨m, hm⟩ : ∃ m, n - k = m + 1 := ⟨n - k - 1, by omega⟩
  rw [hm, show n - (k + 1) = m from by omega]; simp [firstFrom, hb]
theorem firstFrom_end {body : Nat → Option Int} {d : Int} {n k : Nat} (h : n ≤ k) : firstFrom body d (n - k) k = d := by
  rw [show n - k = 0 from by omega]; rfl
/-- Cells of a slice: n elements of sz cells each, element i's cell j holds C i j. -/
def SlAt (sz : Nat) (w : World) (p : Option Addr) (n : Nat) (C : Nat → Nat → Value) : Prop :=
  n = 0 ∨ ∃ b off, p = some ⟨b, off, none⟩ ∧ b < w.heap.size ∧ ∀ i, i < n → ∀ j, j < sz → w.cell? ⟨b, off + i * sz + j, none⟩ = some (C i j)
theorem SlAt.mono {sz : Nat} {w w' : World} {p : Option Addr} {n : Nat} {C : Nat → Nat → Value} (h : SlAt sz w p n C) {B : Nat} (hB : w.heap.size ≤ B) (hb : Below B w w') : SlAt sz w' p n C := by
  rcases h with h | ⟨b, off, rfl, hlt, hc⟩
  · exact .inl h
  · exact .inr ⟨b, off, rfl, Nat.lt_of_lt_of_le hlt hb.size, fun i hi j hj => by rw [hb.cell (p := ⟨b, _, none⟩) (by simp; omega)]; exact hc i hi j hj⟩
theorem SlAt.congr {sz : Nat} {w : World} {p : Option Addr} {n : Nat} {C D : Nat → Nat → Value} (h : SlAt sz w p n C) (he : ∀ i, i < n → ∀ j, j < sz → C i j = D i j) : SlAt sz w p n D := by
  rcases h with h | ⟨b, off, rfl, hlt, hc⟩
  · exact .inl h
  · exact .inr ⟨b, off, rfl, hlt, fun i hi j hj => by rw [hc i hi j hj, he i hi j hj]⟩
theorem SlAt.nil (sz : Nat) (w : World) (p : Option Addr) (C : Nat → Nat → Value) : SlAt sz w p 0 C := .inl rfl
/-- What lies in a box that the call has just laid. -/
theorem box_cell {w wr : World} {vs : Array Value} {t : TypeId} {B : Nat} (hb : Below B (w.alloc (.cells vs t (0, 0))) wr) (hB : w.heap.size < B) (j : Nat) (v : Value) (h : vs[j]? = some v) : wr.cell? ⟨w.heap.size, j, none⟩ = some v := by
  rw [hb.cell (p := ⟨w.heap.size, j, none⟩) (by simpa using hB)]
  simpa [World.cell?_alloc_new] using h
/-- A struct of six cells that the call has boxed first. -/
theorem box6 {w wr : World} {v0 v1 v2 v3 v4 v5 : Value} {t : TypeId} (hb : Below (w.heap.size + 1) (w.alloc (.cells #[v0, v1, v2, v3, v4, v5] t (0, 0))) wr) :
    (wr.cell? ⟨w.heap.size, 0, none⟩ = some v0 ∧ wr.cell? ⟨w.heap.size, 1, none⟩ = some v1 ∧ wr.cell? ⟨w.heap.size, 2, none⟩ = some v2 ∧ wr.cell? ⟨w.heap.size, 3, none⟩ = some v3 ∧ wr.cell? ⟨w.heap.size, 4, none⟩ = some v4 ∧ wr.cell? ⟨w.heap.size, 5, none⟩ = some v5) ∧
      w.heap.size < wr.heap.size ∧ Below w.heap.size w wr :=
  ⟨⟨box_cell hb (by omega) 0 _ rfl, box_cell hb (by omega) 1 _ rfl, box_cell hb (by omega) 2 _ rfl, box_cell hb (by omega) 3 _ rfl, box_cell hb (by omega) 4 _ rfl, box_cell hb (by omega) 5 _ rfl⟩,
    by have := hb.size; simp at this; omega, ((Below.refl _ _).alloc (Nat.le_refl _) _).trans (hb.mono (by omega))⟩
theorem box4 {w wr : World} {v0 v1 v2 v3 : Value} {t : TypeId} (hb : Below (w.heap.size + 1) (w.alloc (.cells #[v0, v1, v2, v3] t (0, 0))) wr) :
    (wr.cell? ⟨w.heap.size, 0, none⟩ = some v0 ∧ wr.cell? ⟨w.heap.size, 1, none⟩ = some v1 ∧ wr.cell? ⟨w.heap.size, 2, none⟩ = some v2 ∧ wr.cell? ⟨w.heap.size, 3, none⟩ = some v3) ∧
      w.heap.size < wr.heap.size ∧ Below w.heap.size w wr :=
  ⟨⟨box_cell hb (by omega) 0 _ rfl, box_cell hb (by omega) 1 _ rfl, box_cell hb (by omega) 2 _ rfl, box_cell hb (by omega) 3 _ rfl⟩,
    by have := hb.size; simp at this; omega, ((Below.refl _ _).alloc (Nat.le_refl _) _).trans (hb.mono (by omega))⟩
theorem getD_mem {α : Type} (l : List α) (k : Nat) (d : α) (h : k < l.length) : l.getD k d ∈ l := by
  rw [List.getD_eq_getElem?_getD, List.getElem?_eq_getElem h]; exact List.getElem_mem h
theorem mul_wrap {a b A B : Int} (ha : 0 ≤ a) (hA : a ≤ A) (hb : 0 ≤ b) (hB : b ≤ B) (h : A * B ≤ 9223372036854775807) : wrap64 (a * b) = a * b := by
  have h1 : 0 ≤ a * b := Int.mul_nonneg ha hb
  have h2 : a * b ≤ A * B := Int.le_trans (Int.mul_le_mul_of_nonneg_right hA hb) (Int.mul_le_mul_of_nonneg_left hB (by omega))
  exact IntWalk.wrap64_in _ (by omega)
theorem ret_int {k : IntKind} {a b : Int} (h : a = b) : Ending.returned (.int k a) = .returned (.int k b) := by rw [h]
theorem ret_bool {a b : Bool} (h : a = b) : Ending.returned (.bool a) = .returned (.bool b) := by rw [h]

/-- w' is w but for draws. -/
def Drawn (w w' : World) : Prop := ∃ n, w' = w.drewN n
theorem Drawn.refl (w : World) : Drawn w w := ⟨0, rfl⟩
theorem Drawn.trans {a b c : World} (h : Drawn a b) (k : Drawn b c) : Drawn a c := by
  obtain ⟨n, rfl⟩ := h; obtain ⟨m, rfl⟩ := k; exact ⟨n + m, by rw [World.drewN_drewN]⟩
theorem Drawn.drewN {a b : World} (h : Drawn a b) (n : Nat) : Drawn a (b.drewN n) := h.trans ⟨n, rfl⟩
theorem Drawn.drew {a b : World} (h : Drawn a b) : Drawn a b.drew := h.trans ⟨1, rfl⟩
theorem Drawn.heap {a b : World} (h : Drawn a b) : b.heap = a.heap := by obtain ⟨n, rfl⟩ := h; rfl
theorem Drawn.cell {a b : World} (h : Drawn a b) (p : Addr) : b.cell? p = a.cell? p := by obtain ⟨n, rfl⟩ := h; rfl
theorem Drawn.frozen {a b : World} (h : Drawn a b) (p : Addr) : b.frozen? p = a.frozen? p := by obtain ⟨n, rfl⟩ := h; rfl
theorem Drawn.below {a b : World} (h : Drawn a b) (B : Nat) : Below B a b := by obtain ⟨n, rfl⟩ := h; exact ⟨rfl, rfl, rfl, Nat.le_refl _, fun _ _ => rfl⟩
theorem below_dr {B : Nat} {a w : World} {n : Nat} (h : Below B a w) : Below B a (w.drewN n) := h.trans (Drawn.below ⟨n, rfl⟩ _)
theorem ownsRow_below {w w' : World} {base B : Nat} {e : TypeId} {size : Nat} {v : Value} {n : Nat} {xs : List Value} (h : w.ownsRow base e size v n xs) (hB : w.heap.size ≤ B) (hb : Below B w w') : w'.ownsRow base e size v n xs := by
  refine ⟨h.1, ?_⟩
  rcases h.2 with h2 | ⟨g, cap, cur, hv, hg, hh, r⟩
  · exact .inl h2
  · have hlt : g < w.heap.size := (Array.getElem?_eq_some_iff.1 hh).1
    exact .inr ⟨g, cap, cur, hv, hg, by rw [hb.block g (by omega)]; exact hh, r⟩
theorem ownsRow_base {w : World} {base base' : Nat} {e : TypeId} {size : Nat} {v : Value} {n : Nat} {xs : List Value} (h : w.ownsRow base e size v n xs) (hB : base' ≤ base) : w.ownsRow base' e size v n xs := by
  refine ⟨h.1, ?_⟩
  rcases h.2 with h2 | ⟨g, cap, cur, hv, hg, r⟩
  · exact .inl h2
  · exact .inr ⟨g, cap, cur, hv, by omega, r⟩
/-- Behind an append onto a row of the call's own: what lies below it is as it was. -/
theorem below_append {a w w' : World} {B base : Nat} {e : TypeId} {size : Nat} {v : Value} {n : Nat} {xs : List Value} (h : Below B a w) (hown : w.ownsRow base e size v n xs) (hg : w.grownBy w' v.ownBlock) (hB : B ≤ w.heap.size) (hb : B ≤ base) : Below B a w' :=
  h.grown hg hB fun k hk => Nat.le_trans hb (hown.lt k hk).1
/-- A row of the call's own as a slice that reads. -/
theorem slAt_of_owns {w : World} {base : Nat} {e : TypeId} {size : Nat} {v : Value} {n : Nat} {xs : List Value} (h : w.ownsRow base e size v n xs) (C : Nat → Nat → Value) (hC : ∀ i, i < n → ∀ j, j < size → xs[i * size + j]? = some (C i j)) :
    ∃ p cap, v = .slice p n cap ∧ n ≤ cap ∧ SlAt size w p n C ∧ (∀ b, p = some b → base ≤ b.block) := by
  rcases h.2 with ⟨rfl, rfl⟩ | ⟨g, cap, cur, rfl, hg, hh, hnc, r⟩
  · exact ⟨none, 0, rfl, Nat.le_refl _, .inl rfl, fun b hb => by cases hb⟩
  · refine ⟨some ⟨g, 0, none⟩, cap, rfl, hnc, .inr ⟨g, 0, rfl, (Array.getElem?_eq_some_iff.1 hh).1, fun i hi j hj => ?_⟩, fun b hb => by cases hb; exact hg⟩
    have := h.cells (g := g) rfl (i * size + j) (C i j) (hC i hi j hj)
    rw [← this, Addr.add_lit]; simp
theorem cell_new0 (w : World) (v : Value) (t : TypeId) : (w.alloc (.cells #[v] t (0, 0))).cell? ⟨w.heap.size, 0, none⟩ = some v := by simp
end Go.Proofs.Ytcafeffgaokiaaa
