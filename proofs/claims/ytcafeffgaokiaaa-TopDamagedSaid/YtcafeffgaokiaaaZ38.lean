/- The walks of the inner functions of package integer: trim, digits, number, compare. Digits that a call makes in a block of its own; the walk of integer.digits. The walk of integer.digits. The walk of integer.number: digits become an integer. Plain laws of digits: sums, differences, products, short division. The walk of integer.add. The walk of integer.subtract. -/
import Derived.Test.YtcafeffgaokiaaaRows
import Derived.Test.YtcafeffgaokiaaaZ0
import Derived.Test.YtcafeffgaokiaaaZ37
import Derived.WalkKit
import Derived.WalkSpells
import Derived.WalkLawsBesides
import Derived.OwnWalk
import Derived.KernelRfl
import Derived.Deep.OwnRows
import Derived.Deep.QuietTactic
import Derived.BigQuiet
import Derived.Lib.Hide
import Derived.RegionTactic
import Derived.ChangeAlike
import Derived.Laws.BitsAllLaws
import Derived.Laws.IdiomStrings
import Derived.Deep.CutRange
namespace Go.Proofs.Ytcafeffgaokiaaa
open Go.RowKit

/-- A slice header at p reads as these digits. -/
def NatsAt (w : World) (p : Option Addr) (xs : List Nat) : Prop := SlAt 1 w p xs.length (fun i _ => .int .u32 (xs.getD i 0 : Nat))
theorem NatsAt.below {w w' : World} {p : Option Addr} {xs : List Nat} (h : NatsAt w p xs) {B : Nat} (hB : w.heap.size ≤ B) (hb : Below B w w') : NatsAt w' p xs := h.mono hB hb
theorem NatsAt.cells {w : World} {p : Option Addr} {xs : List Nat} (h : NatsAt w p xs) {k : Nat} (hk : k < xs.length) :
    ∃ b off, p = some ⟨b, off, none⟩ ∧ b < w.heap.size ∧ ∀ i, i < xs.length → w.cell? ⟨b, off + i, none⟩ = some (.int .u32 (xs.getD i 0 : Nat)) := by
  rcases h with h | ⟨b, off, rfl, hlt, hc⟩
  · omega
  · exact ⟨b, off, rfl, hlt, fun i hi => by simpa using hc i hi 0 (by omega)⟩
theorem NatsAt.take {w : World} {p : Option Addr} {xs : List Nat} (h : NatsAt w p xs) (k : Nat) : NatsAt w p (xs.take k) := by
  rcases h with h | ⟨b, off, rfl, hlt, hc⟩
  · exact .inl (by rw [List.length_take]; omega)
  · refine .inr ⟨b, off, rfl, hlt, fun i hi j hj => ?_⟩
    rw [List.length_take] at hi
    rw [hc i (by omega) j hj]
    show some (Value.int .u32 ((xs.getD i 0 : Nat) : Int)) = some (Value.int .u32 (((xs.take k).getD i 0 : Nat) : Int))
    rw [List.getD_eq_getElem?_getD, List.getD_eq_getElem?_getD, List.getElem?_take_of_lt (by omega)]

end Go.Proofs.Ytcafeffgaokiaaa

namespace Go.Proofs.Ytcafeffgaokiaaa
open Go.RowKit

/-- The cells of n digits, digit j being F j. -/
def digCells (F : Nat → Nat) (n : Nat) : Array Value := ((List.range n).map fun j => Value.int .u32 (F j : Nat)).toArray
/-- Block g is just these digits. -/
def DigBlk (w : World) (g : Nat) (F : Nat → Nat) (n : Nat) : Prop := w.heap[g]? = some (.cells (digCells F n) 133 (0, 0))
theorem DigBlk.lt {w : World} {g n : Nat} {F : Nat → Nat} (h : DigBlk w g F n) : g < w.heap.size := (Array.getElem?_eq_some_iff.1 h).1
theorem DigBlk.cell {w : World} {g n : Nat} {F : Nat → Nat} (h : DigBlk w g F n) {j : Nat} (hj : j < n) : w.cell? ⟨g, j, none⟩ = some (.int .u32 (F j : Nat)) := by
  rw [cell_of_row w g j _ _ _ h]
  simp [digCells, hj]
theorem DigBlk.frozen {w : World} {g n : Nat} {F : Nat → Nat} (h : DigBlk w g F n) (j : Nat) : w.frozen? ⟨g, j, none⟩ = false := by
  unfold DigBlk at h
  simp [World.frozen?, h]
theorem DigBlk.below {w w' : World} {g n B : Nat} {F : Nat → Nat} (h : DigBlk w g F n) (hb : Below B w w') (hg : g < B) : DigBlk w' g F n := (hb.block g hg).trans h
theorem DigBlk.drewN {w : World} {g n : Nat} {F : Nat → Nat} (h : DigBlk w g F n) (k : Nat) : DigBlk (w.drewN k) g F n := h
theorem DigBlk.drew {w : World} {g n : Nat} {F : Nat → Nat} (h : DigBlk w g F n) : DigBlk w.drew g F n := h
theorem DigBlk.new (w : World) (n : Nat) : DigBlk (w.alloc (.cells (madeCells #[.int .u32 0] n) 133)) w.heap.size (fun _ => 0) n := by
  unfold DigBlk
  rw [heap_alloc_new]
  congr 2
  apply Array.ext'
  simp [digCells, madeCells, Nat.mod_one, List.map_const']
theorem DigBlk.set {w : World} {g n : Nat} {F : Nat → Nat} (h : DigBlk w g F n) {j : Nat} (v : Nat) : DigBlk (w.setCell ⟨g, j, none⟩ (.int .u32 v)) g (fun i => if i = j then v else F i) n := by
  unfold DigBlk at h ⊢
  simp only [World.setCell, Array.getElem?_modify, h]
  simp only [if_true, Option.map_some, Option.isSome_none, Bool.false_eq_true, if_false]
  congr 2
  apply Array.ext'
  apply List.ext_getElem?
  intro i
  simp only [digCells, Array.toList_setIfInBounds, List.getElem?_set, List.getElem?_map, List.length_map, List.length_range]
  by_cases hi : i < n
  · by_cases hij : j = i
    · subst hij; simp [hi]
    · rw [if_neg hij]; simp [hi, Ne.symm hij]
  · by_cases hij : j = i
    · subst hij; simp [hi]
    · rw [if_neg hij]; simp [hi]
theorem DigBlk.congr {w : World} {g n : Nat} {F G : Nat → Nat} (h : DigBlk w g F n) (e : ∀ j, j < n → F j = G j) : DigBlk w g G n := by
  unfold DigBlk at h ⊢
  rw [h]
  congr 2
  unfold digCells
  congr 1
  exact List.map_congr_left fun j hj => by rw [e j (List.mem_range.1 hj)]
/-- The digits as a list. -/
def digList (F : Nat → Nat) (n : Nat) : List Nat := (List.range n).map F
theorem digList_len (F : Nat → Nat) (n : Nat) : (digList F n).length = n := by simp [digList]
theorem digList_getD (F : Nat → Nat) {n j : Nat} (h : j < n) : (digList F n).getD j 0 = F j := by
  unfold digList; rw [List.getD_eq_getElem?_getD, List.getElem?_map, List.getElem?_range h]; rfl
end Go.Proofs.Ytcafeffgaokiaaa

namespace Go.Proofs.Ytcafeffgaokiaaa
open Go.RowKit

end Go.Proofs.Ytcafeffgaokiaaa

namespace Go.Proofs.Ytcafeffgaokiaaa
open Go.RowKit

/-- Bytes that the call has made. -/
def OwnBytes (w : World) (B : Nat) (v : Value) (l : List UInt8) : Prop := w.ownsRow B 5 1 v l.length (l.map fun c => Value.int .u8 (c.toNat : Int))
theorem OwnBytes.below {w w' : World} {B C : Nat} {v : Value} {xs : List UInt8} (h : OwnBytes w B v xs) (hB : w.heap.size ≤ C) (hb : Below C w w') : OwnBytes w' B v xs := ownsRow_below h hB hb
theorem OwnBytes.alloc {w : World} {B : Nat} {v : Value} {xs : List UInt8} (h : OwnBytes w B v xs) (o : Obj) : OwnBytes (w.alloc o) B v xs := World.ownsRow.alloc h o
theorem OwnBytes.drewN {w : World} {B : Nat} {v : Value} {xs : List UInt8} (h : OwnBytes w B v xs) (n : Nat) : OwnBytes (w.drewN n) B v xs := h.below (Nat.le_refl _) (Drawn.below ⟨n, rfl⟩ _)
theorem OwnBytes.form {w : World} {B : Nat} {v : Value} {xs : List UInt8} (h : OwnBytes w B v xs) : ∃ p cap, v = .slice p xs.length cap ∧ SlAt 1 w p xs.length (fun i _ => .int .u8 ((xs.getD i 0).toNat : Int)) := by
  obtain ⟨p, cap, h1, _, h3, _⟩ := slAt_of_owns h (fun i _ => .int .u8 ((xs.getD i 0).toNat : Int)) fun i hi j hj => by
    have : j = 0 := by omega
    subst this
    simp [List.getD_eq_getElem?_getD, hi]
  exact ⟨p, cap, h1, h3⟩
theorem box_frozen {w wr : World} {vs : Array Value} {t : TypeId} {B : Nat} (hb : Below B (w.alloc (.cells vs t (0, 0))) wr) (hB : w.heap.size < B) (j : Nat) : wr.frozen? ⟨w.heap.size, j, none⟩ = false := by
  rw [hb.frozen (p := ⟨w.heap.size, j, none⟩) hB]
  have : (w.alloc (.cells vs t (0, 0))).heap[w.heap.size]? = some (.cells vs t (0, 0)) := by
    show (w.heap.push _)[w.heap.size]? = _
    simp
  unfold World.frozen?
  simp only [this]
  simp
end Go.Proofs.Ytcafeffgaokiaaa

namespace Go.Proofs.Ytcafeffgaokiaaa

/-- One step of short division. -/
theorem short_step {r x y n q Q V : Nat} (hV : V = Q * y + r) (hn : n = r * 4294967296 + x) (hq : q = n / y) : x + 4294967296 * V = (q + 4294967296 * Q) * y + n % y := by
  subst hV hq
  have := Nat.div_add_mod n y
  rw [Nat.add_mul, Nat.mul_add, Nat.mul_assoc, Nat.mul_comm (n / y) y]
  omega
theorem val_drop_digList {F : Nat → Nat} {n k : Nat} (hk : k < n) : val ((digList F n).drop k) = F k + 4294967296 * val ((digList F n).drop (k + 1)) := by
  rw [val_drop (by rw [digList_len]; exact hk), digList_getD F hk]
end Go.Proofs.Ytcafeffgaokiaaa

namespace Go.Proofs.Ytcafeffgaokiaaa
open Go.RowKit

end Go.Proofs.Ytcafeffgaokiaaa

namespace Go.Proofs.Ytcafeffgaokiaaa
open Go.RowKit

end Go.Proofs.Ytcafeffgaokiaaa
