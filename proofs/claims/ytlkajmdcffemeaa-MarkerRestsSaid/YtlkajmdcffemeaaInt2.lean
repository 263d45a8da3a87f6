/- Digits that a call makes in a block of its own; the walk of integer.digits. -/
import Derived.Test.YtlkajmdcffemeaaInt1
import Derived.RegionTactic
import Derived.ChangeAlike
namespace Go.Proofs.Ytlkajmdcffemeaa
open Go.RowKit

/-- The cells of n digits, digit j being F j. -/
def digCells (F : Nat → Nat) (n : Nat) : Array Value := ((List.range n).map fun j => Value.int .u32 (F j : Nat)).toArray
/-- Block g is just these digits. -/
def DigBlk (w : World) (g : Nat) (F : Nat → Nat) (n : Nat) : Prop := w.heap[g]? = some (.cells (digCells F n) 93 (0, 0))
theorem DigBlk.lt {w : World} {g n : Nat} {F : Nat → Nat} (h : DigBlk w g F n) : g < w.heap.size := (Array.getElem?_eq_some_iff.1 h).1
theorem DigBlk.cell {w : World} {g n : Nat} {F : Nat → Nat} (h : DigBlk w g F n) {j : Nat} (hj : j < n) : w.cell? ⟨g, j, none⟩ = some (.int .u32 (F j : Nat)) := by
  rw [cell_of_row w g j _ _ _ h]
  simp [digCells, hj]
theorem DigBlk.frozen {w : World} {g n : Nat} {F : Nat → Nat} (h : DigBlk w g F n) (j : Nat) : w.frozen? ⟨g, j, none⟩ = false := by
  unfold DigBlk at h
  simp [World.frozen?, h]
theorem DigBlk.below {w w' : World} {g n B : Nat} {F : Nat → Nat} (h : DigBlk w g F n) (hb : Below B w w') (hg : g < B) : DigBlk w' g F n := (hb.block g hg).trans h
theorem DigBlk.drewN {w : World} {g n : Nat} {F : Nat → Nat} (h : DigBlk w g F n) (k : Nat) : DigBlk (w.drewN k) g F n := h
theorem DigBlk.drew {w : World} {g n : Nat} {F : Nat → Nat} (h : DigBlk w g F n) : DigBlk w.drew g F n := h
theorem DigBlk.new (w : World) (n : Nat) : DigBlk (w.alloc (.cells (madeCells #[.int .u32 0] n) 93)) w.heap.size (fun _ => 0) n := by
  unfold DigBlk
  rw [heap_alloc_new]
  congr 2
  apply Array.ext'
  simp [digCells, madeCells, Nat.mod_one, List.map_const']
theorem DigBlk.set {w : World} {g n : Nat} {F : Nat → Nat} (h : DigBlk w g F n) {j : Nat} (v : Nat) : DigBlk (w.setCell ⟨g, j, none⟩ (.int .u32 v)) g (fun i => if i = j then v else F i) n := by
  unfold DigBlk at h ⊢
  simp only [World.setCell, Array.getElem?_modify, h]
  simp only [if_true, Option.map_some, Option.isSome_none, Bool.false_eq_true, if_false]
  congr 2
  apply Array.ext'
  apply List.ext_getElem?
  intro i
  simp only [digCells, Array.toList_setIfInBounds, List.getElem?_set, List.getElem?_map, List.length_map, List.length_range]
  by_cases hi : i < n
  · by_cases hij : j = i
    · subst hij; simp [hi]
    · rw [if_neg hij]; simp [hi, Ne.symm hij]
  · by_cases hij : j = i
    · subst hij; simp [hi]
    · rw [if_neg hij]; simp [hi]
theorem DigBlk.congr {w : World} {g n : Nat} {F G : Nat → Nat} (h : DigBlk w g F n) (e : ∀ j, j < n → F j = G j) : DigBlk w g G n := by
  unfold DigBlk at h ⊢
  rw [h]
  congr 2
  unfold digCells
  congr 1
  exact List.map_congr_left fun j hj => by rw [e j (List.mem_range.1 hj)]
/-- The digits as a list. -/
def digList (F : Nat → Nat) (n : Nat) : List Nat := (List.range n).map F
theorem digList_len (F : Nat → Nat) (n : Nat) : (digList F n).length = n := by simp [digList]
theorem digList_getD (F : Nat → Nat) {n j : Nat} (h : j < n) : (digList F n).getD j 0 = F j := by
  unfold digList; rw [List.getD_eq_getElem?_getD, List.getElem?_map, List.getElem?_range h]; rfl
theorem digList_dg {F : Nat → Nat} {n : Nat} (h : ∀ j, j < n → F j < 4294967296) : Dg (digList F n) := by
  intro x hx
  obtain ⟨j, hj, rfl⟩ := List.mem_map.1 hx
  exact h j (List.mem_range.1 hj)
theorem DigBlk.nats {w : World} {g n : Nat} {F : Nat → Nat} (h : DigBlk w g F n) : NatsAt w (some ⟨g, 0, none⟩) (digList F n) := by
  refine .inr ⟨g, 0, rfl, h.lt, fun i hi j hj => ?_⟩
  rw [digList_len] at hi
  have : j = 0 := by omega
  subst this
  show w.cell? ⟨g, 0 + i * 1 + 0, none⟩ = some (.int .u32 (((digList F n).getD i 0 : Nat) : Int))
  rw [digList_getD F hi, ← h.cell hi]
  simp

theorem natInfo : (Try.prog.info? 93).map (fun i => (i.zero, i.size, i.bytes)) = some (some (.int .u32 0), 1, 4) := by kernel_rfl
/-- make(natural, n). -/
theorem make_nats (kl kc : IntKind) (n : Nat) (h : n ≤ 1000000000) (w : World) :
    (Instr.makeSlice 96 (.int kl (n : Int)) (.int kc (n : Int))).run Try.prog w = .ok (.slice (some ⟨w.heap.size, 0, none⟩) n n) (w.alloc (.cells (madeCells #[.int .u32 0] n) 93)) :=
  run_make_row' 96 93 (.int .u32 0) 4 Try.underlying96 natInfo rfl kl kc n (by omega) (by omega) w

/-- What a function that returns a natural number gives. -/
def RetNat (v : Nat) (w : World) (e : Ending) (w' : World) : Prop :=
  ∃ p c, e = .returned (.slice p (digs v).length c) ∧ NatsAt w' p (digs v) ∧ (digs v).length ≤ c ∧ c ≤ 1000000000 ∧ Below w.heap.size w w'
/-- The end of a walk that has filled a block and calls trim. -/
theorem trim_blk {w w0 : World} {g n : Nat} {F : Nat → Nat} (h : DigBlk w g F n) (hF : ∀ j, j < n → F j < 4294967296) (hn : n ≤ 1000000000) (hb : Below w0.heap.size w0 w) {v : Nat} (hv : val (digList F n) = v) :
    Calls Try.prog 89 #[.slice (some ⟨g, 0, none⟩) n n] w (RetNat v w0) := by
  have h1 := trim_any (digList F n) (some ⟨g, 0, none⟩) n w h.nats (by rw [digList_len]; exact Nat.le_refl _) (by omega)
  rw [digList_len] at h1
  refine h1.mono ?_
  rintro e w' ⟨rfl, rfl⟩
  have h2 := trim_digs _ (digList_dg hF)
  rw [digList_len, hv] at h2
  have h3 := tl_le (digList F n) n
  have h4 : (digs v).length = tl (digList F n) n := by
    rw [← h2, List.length_take, digList_len]; omega
  refine ⟨_, n, by rw [h4], by rw [← h2]; exact h.nats.take _, by omega, hn, hb⟩
end Go.Proofs.Ytlkajmdcffemeaa
