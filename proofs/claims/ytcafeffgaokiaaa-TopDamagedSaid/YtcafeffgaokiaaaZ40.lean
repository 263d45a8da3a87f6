/- Matrices in memory: rows of canonical numbers; rows that a call makes. -/
import Derived.Test.YtcafeffgaokiaaaZ39
import Derived.Laws.MakeOwn
namespace Go.Proofs.Ytcafeffgaokiaaa
open Go.RowKit

/-- Cell j of the number n in memory. -/
def zc (n : Int) (j : Nat) : Value := if j = 0 then .bool (canon n).neg else .string (canon n).mag
/-- A slice header at p reads as c numbers. -/
def RowF (w : World) (p : Option Addr) (c : Nat) (f : Nat → Int) : Prop := SlAt 2 w p c (fun k j => zc (f k) j)
/-- .. as r rows of c numbers. -/
def MatF (w : World) (p : Option Addr) (r c : Nat) (F : Nat → Nat → Int) : Prop :=
  ∃ H : Nat → Option Addr × Nat, SlAt 1 w p r (fun i _ => .slice (H i).1 c (H i).2) ∧ ∀ i, i < r → RowF w (H i).1 c (F i)
theorem RowF.below {w w' : World} {p : Option Addr} {c : Nat} {f : Nat → Int} (h : RowF w p c f) {B : Nat} (hB : w.heap.size ≤ B) (hb : Below B w w') : RowF w' p c f := h.mono hB hb
theorem RowF.congr {w : World} {p : Option Addr} {c : Nat} {f g : Nat → Int} (h : RowF w p c f) (e : ∀ k, k < c → f k = g k) : RowF w p c g := SlAt.congr h fun i hi j _ => by rw [e i hi]
theorem MatF.below {w w' : World} {p : Option Addr} {r c : Nat} {F : Nat → Nat → Int} (h : MatF w p r c F) {B : Nat} (hB : w.heap.size ≤ B) (hb : Below B w w') : MatF w' p r c F := by
  obtain ⟨H, h1, h2⟩ := h
  exact ⟨H, h1.mono hB hb, fun i hi => (h2 i hi).below hB hb⟩
theorem MatF.congr {w : World} {p : Option Addr} {r c : Nat} {F G : Nat → Nat → Int} (h : MatF w p r c F) (e : ∀ i k, i < r → k < c → F i k = G i k) : MatF w p r c G := by
  obtain ⟨H, h1, h2⟩ := h
  exact ⟨H, h1, fun i hi => (h2 i hi).congr fun k hk => e i k hi hk⟩
theorem RowF.cells {w : World} {p : Option Addr} {c : Nat} {f : Nat → Int} (h : RowF w p c f) {k : Nat} (hk : k < c) :
    ∃ b off, p = some ⟨b, off, none⟩ ∧ b < w.heap.size ∧ ∀ i, i < c → w.cell? ⟨b, off + i * 2, none⟩ = some (.bool (canon (f i)).neg) ∧ w.cell? ⟨b, off + i * 2 + 1, none⟩ = some (.string (canon (f i)).mag) := by
  rcases h with h | ⟨b, off, rfl, hlt, hc⟩
  · omega
  · exact ⟨b, off, rfl, hlt, fun i hi => ⟨by simpa [zc] using hc i hi 0 (by omega), by simpa [zc] using hc i hi 1 (by omega)⟩⟩
theorem MatF.cells {w : World} {p : Option Addr} {r c : Nat} {F : Nat → Nat → Int} (h : MatF w p r c F) {i : Nat} (hi : i < r) :
    ∃ b off, p = some ⟨b, off, none⟩ ∧ b < w.heap.size ∧ ∃ H : Nat → Option Addr × Nat, (∀ i, i < r → w.cell? ⟨b, off + i, none⟩ = some (.slice (H i).1 c (H i).2)) ∧ ∀ i, i < r → RowF w (H i).1 c (F i) := by
  obtain ⟨H, h1, h2⟩ := h
  rcases h1 with h | ⟨b, off, rfl, hlt, hc⟩
  · omega
  · exact ⟨b, off, rfl, hlt, H, fun i hi => by simpa using hc i hi 0 (by omega), h2⟩
/-- Block g begins with n numbers, and may be written. -/
def ZAt (w : World) (g n : Nat) (f : Nat → Int) : Prop :=
  g < w.heap.size ∧ ∀ k, k < n → (w.cell? ⟨g, k * 2, none⟩ = some (.bool (canon (f k)).neg) ∧ w.cell? ⟨g, k * 2 + 1, none⟩ = some (.string (canon (f k)).mag)) ∧ w.frozen? ⟨g, k * 2, none⟩ = false ∧ w.frozen? ⟨g, k * 2 + 1, none⟩ = false
theorem ZAt.below {w w' : World} {g n B : Nat} {f : Nat → Int} (h : ZAt w g n f) (hb : Below B w w') (hg : g < B) : ZAt w' g n f :=
  ⟨Nat.lt_of_lt_of_le h.1 hb.size, fun k hk => by
    obtain ⟨⟨h1, h2⟩, h3, h4⟩ := h.2 k hk
    exact ⟨⟨(hb.cell (p := ⟨g, _, none⟩) hg).trans h1, (hb.cell (p := ⟨g, _, none⟩) hg).trans h2⟩, (hb.frozen (p := ⟨g, _, none⟩) hg).trans h3, (hb.frozen (p := ⟨g, _, none⟩) hg).trans h4⟩⟩
theorem ZAt.congr {w : World} {g n : Nat} {f h : Nat → Int} (hz : ZAt w g n f) (e : ∀ k, k < n → f k = h k) : ZAt w g n h := ⟨hz.1, fun k hk => by rw [← e k hk]; exact hz.2 k hk⟩
theorem ZAt.row {w : World} {g n : Nat} {f : Nat → Int} (h : ZAt w g n f) : RowF w (some ⟨g, 0, none⟩) n f :=
  .inr ⟨g, 0, rfl, h.1, fun k hk j hj => by
    obtain ⟨⟨h1, h2⟩, _⟩ := h.2 k hk
    match j, hj with
    | 0, _ => simpa [zc] using h1
    | 1, _ => simpa [zc] using h2⟩
theorem ZAt.set {w : World} {g n k : Nat} {f : Nat → Int} (h : ZAt w g n f) (v : Int) :
    ZAt ((w.setCell ⟨g, k * 2, none⟩ (.bool (canon v).neg)).setCell ⟨g, k * 2 + 1, none⟩ (.string (canon v).mag)) g n (fun i => if i = k then v else f i) := by
  refine ⟨by simpa using h.1, fun i hi => ?_⟩
  obtain ⟨⟨h1, h2⟩, h3, h4⟩ := h.2 i hi
  refine ⟨⟨?_, ?_⟩, by rw [World.frozen?_setCell, World.frozen?_setCell]; exact h3, by rw [World.frozen?_setCell, World.frozen?_setCell]; exact h4⟩
  · dsimp only
    rw [World.cell?_setCell_other _ _ _ _ (by intro hh; simp only [Addr.mk.injEq] at hh; omega)]
    by_cases e : i = k
    · subst e
      rw [if_pos rfl]
      exact World.cell?_setCell_same w _ _ h1
    · rw [if_neg e, World.cell?_setCell_other _ _ _ _ (by intro hh; simp only [Addr.mk.injEq] at hh; omega)]
      exact h1
  · dsimp only
    by_cases e : i = k
    · subst e
      rw [if_pos rfl]
      refine World.cell?_setCell_same _ _ _ (u := .string (canon (f i)).mag) ?_
      rw [World.cell?_setCell_other _ _ _ _ (by intro hh; simp only [Addr.mk.injEq] at hh; omega)]
      exact h2
    · rw [if_neg e, World.cell?_setCell_other _ _ _ _ (by intro hh; simp only [Addr.mk.injEq] at hh; omega), World.cell?_setCell_other _ _ _ _ (by intro hh; simp only [Addr.mk.injEq] at hh; omega)]
      exact h2
theorem ZAt.other {w : World} {g n : Nat} {f : Nat → Int} (h : ZAt w g n f) (a : Addr) (v : Value) (hne : a.block ≠ g) : ZAt (w.setCell a v) g n f := by
  refine ⟨by simpa using h.1, fun i hi => ?_⟩
  obtain ⟨⟨h1, h2⟩, h3, h4⟩ := h.2 i hi
  refine ⟨⟨?_, ?_⟩, by rw [World.frozen?_setCell]; exact h3, by rw [World.frozen?_setCell]; exact h4⟩
  · rw [World.cell?_setCell_other _ _ _ _ (by intro hh; rw [hh] at hne; exact hne rfl)]; exact h1
  · rw [World.cell?_setCell_other _ _ _ _ (by intro hh; rw [hh] at hne; exact hne rfl)]; exact h2
/-- Block g begins with n cells h, and may be written. -/
def HAt (w : World) (g n : Nat) (h : Nat → Value) : Prop := g < w.heap.size ∧ ∀ k, k < n → w.cell? ⟨g, k, none⟩ = some (h k) ∧ w.frozen? ⟨g, k, none⟩ = false
theorem HAt.below {w w' : World} {g n B : Nat} {f : Nat → Value} (h : HAt w g n f) (hb : Below B w w') (hg : g < B) : HAt w' g n f :=
  ⟨Nat.lt_of_lt_of_le h.1 hb.size, fun k hk => ⟨(hb.cell (p := ⟨g, _, none⟩) hg).trans (h.2 k hk).1, (hb.frozen (p := ⟨g, _, none⟩) hg).trans (h.2 k hk).2⟩⟩
theorem HAt.congr {w : World} {g n : Nat} {f h : Nat → Value} (hz : HAt w g n f) (e : ∀ k, k < n → f k = h k) : HAt w g n h := ⟨hz.1, fun k hk => by rw [← e k hk]; exact hz.2 k hk⟩
theorem HAt.set {w : World} {g n k : Nat} {f : Nat → Value} (h : HAt w g n f) (v : Value) : HAt (w.setCell ⟨g, k, none⟩ v) g n (fun i => if i = k then v else f i) := by
  refine ⟨by simpa using h.1, fun i hi => ⟨?_, by rw [World.frozen?_setCell]; exact (h.2 i hi).2⟩⟩
  by_cases e : i = k
  · subst e
    show _ = some (if i = i then v else f i)
    rw [if_pos rfl]; exact World.cell?_setCell_same w _ _ (h.2 i hi).1
  · show _ = some (if i = k then v else f i)
    rw [if_neg e, World.cell?_setCell_other _ _ _ _ (by intro hh; cases hh; exact e rfl)]; exact (h.2 i hi).1
theorem HAt.other {w : World} {g n : Nat} {f : Nat → Value} (h : HAt w g n f) (a : Addr) (v : Value) (hne : a.block ≠ g) : HAt (w.setCell a v) g n f :=
  ⟨by simpa using h.1, fun i hi => ⟨by rw [World.cell?_setCell_other _ _ _ _ (by intro hh; rw [hh] at hne; exact hne rfl)]; exact (h.2 i hi).1, by rw [World.frozen?_setCell]; exact (h.2 i hi).2⟩⟩
/-- A matrix of the call's own: its rows in blocks A of their own, behind B. -/
def OwnMat (w : World) (B g r c : Nat) (F : Nat → Nat → Int) : Prop := ∃ A : Nat → Nat, HAt w g r (fun i => .slice (some ⟨A i, 0, none⟩) c c) ∧ (∀ i, i < r → ZAt w (A i) c (F i) ∧ B ≤ A i ∧ A i ≠ g) ∧ B ≤ g
theorem OwnMat.low {w : World} {B C g r c : Nat} {F : Nat → Nat → Int} (h : OwnMat w B g r c F) (hC : C ≤ B) : OwnMat w C g r c F := by
  obtain ⟨A, h1, h2, h3⟩ := h
  exact ⟨A, h1, fun i hi => ⟨(h2 i hi).1, Nat.le_trans hC (h2 i hi).2.1, (h2 i hi).2.2⟩, Nat.le_trans hC h3⟩
theorem OwnMat.call {w w' : World} {B g r c : Nat} {F : Nat → Nat → Int} (h : OwnMat w B g r c F) (hb : Below w.heap.size w w') : OwnMat w' B g r c F := by
  obtain ⟨A, h1, h2, h3⟩ := h
  exact ⟨A, h1.below hb h1.1, fun i hi => ⟨(h2 i hi).1.below hb (h2 i hi).1.1, (h2 i hi).2⟩, h3⟩
theorem OwnMat.other {w : World} {B g r c : Nat} {F : Nat → Nat → Int} (h : OwnMat w B g r c F) (a : Addr) (v : Value) (ha : a.block < B) : OwnMat (w.setCell a v) B g r c F := by
  obtain ⟨A, h1, h2, h3⟩ := h
  exact ⟨A, h1.other _ _ (by omega), fun i hi => ⟨(h2 i hi).1.other _ _ (by have := (h2 i hi).2.1; omega), (h2 i hi).2⟩, h3⟩
theorem OwnMat.congr {w : World} {B g r c : Nat} {F G : Nat → Nat → Int} (h : OwnMat w B g r c F) (e : ∀ i k, i < r → k < c → F i k = G i k) : OwnMat w B g r c G := by
  obtain ⟨A, h1, h2, h3⟩ := h
  exact ⟨A, h1, fun i hi => ⟨(h2 i hi).1.congr fun k hk => e i k hi hk, (h2 i hi).2⟩, h3⟩
end Go.Proofs.Ytcafeffgaokiaaa
