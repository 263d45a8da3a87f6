/- The walk of integer.Mul. The walks of matrix.sum and of its closure. A range over an iterator (Range), where the assignment of the round's variables makes memory (a variable that a round boxes). The walks of matrix.column and of its iterator. The walk of the closure of matrix.product. The walk of matrix.product. The walk of matrix.trace. The walk of matrix.characteristic. -/
import Derived.Test.YtcafeffgaokiaaaJ14
import Derived.Test.YtcafeffgaokiaaaJ19
import Derived.Test.YtcafeffgaokiaaaJ5
import Derived.Shelf.RegionOpen
import Derived.WalkKit
import Derived.WalkSpells
import Derived.WalkLawsBesides
import Derived.TacticsInMore
import Derived.LoopNIn
import Derived.LoopIn
import Derived.Deep.CutBlock
import Derived.Deep.DeepFit
import Derived.KernelRfl
import Derived.Lib.Hide
import Derived.Outline
import Derived.Test.YtcafeffgaokiaaaJ6
import Derived.Deep.RegionHeld
namespace Go.Proofs.Ytcafeffgaokiaaa
open Go.RowKit

set_option maxRecDepth 100000 in
set_option maxHeartbeats 8000000 in
theorem mul_any (x y : ZI) (hx : x.mag.size ≤ 100000000) (hy : y.mag.size ≤ 100000000) (w : World) :
    Calls Try.prog 53 #[.agg #[.bool x.neg, .string x.mag], .agg #[.bool y.neg, .string y.mag]] w (RetZ (mkZ (!(x.neg == y.neg)) (absZ x * absZ y)) w) := by
  have hlx := Lib.hid (digs_len_fit hx)
  have hly := Lib.hid (digs_len_fit hy)
  go_enter Try.func53, Try.ntmps53
  go_wp2_with fail
  obtain ⟨W, hW⟩ : ∃ W, (((w.alloc (.cells #[.bool x.neg, .string x.mag] 48)).alloc (.cells #[.bool y.neg, .string y.mag] 48)).alloc (.cells #[.bool false, .string ⟨#[]⟩] 48)) = W := ⟨_, rfl⟩
  have hA : BoxAt W w.heap.size (.bool x.neg) (.string x.mag) := by rw [← hW]; exact ((BoxAt.new w (.bool x.neg) (.string x.mag) 48).alloc _).alloc _
  have hB : BoxAt W (w.heap.size + 1) (.bool y.neg) (.string y.mag) := by
    rw [← hW]
    have := (BoxAt.new (w.alloc (.cells #[.bool x.neg, .string x.mag] 48)) (.bool y.neg) (.string y.mag) 48).alloc (.cells #[.bool false, .string ⟨#[]⟩] 48)
    rwa [World.size_alloc] at this
  have hC : BoxAt W (w.heap.size + 1 + 1) (.bool false) (.string ⟨#[]⟩) := by
    rw [← hW]
    have := BoxAt.new ((w.alloc (.cells #[.bool x.neg, .string x.mag] 48)).alloc (.cells #[.bool y.neg, .string y.mag] 48)) (.bool false) (.string ⟨#[]⟩) 48
    rwa [World.size_alloc, World.size_alloc] at this
  have hb0 : Below w.heap.size w W := by rw [← hW]; exact (((Below.refl _ _).alloc (Nat.le_refl _) _).alloc (by simp) _).alloc (by simp; omega) _
  have hs0 : W.heap.size = w.heap.size + 1 + 1 + 1 := by rw [← hW]; simp
  rw [hW]
  have HA := Lib.hid hA
  have HB := Lib.hid hB
  have HC := Lib.hid hC
  have Hb0 := Lib.hid hb0
  have Hs0 := Lib.hid hs0
  obtain ⟨a0, a1, _, _, _⟩ := hA
  obtain ⟨b0, b1, _, _, _⟩ := hB
  clear hC hb0 hs0 hW
  have n1 : ¬ (w.heap.size = w.heap.size + 1 + 1) := by omega
  have n2 : ¬ (w.heap.size + 1 + 1 = w.heap.size) := by omega
  go_region_held3 (fun w' => w'.cell? ⟨w.heap.size, 0, none⟩ = some (.bool x.neg) ∧ w'.cell? ⟨w.heap.size, 1, none⟩ = some (.string x.mag) ∧ w'.cell? ⟨w.heap.size + 1, 0, none⟩ = some (.bool y.neg) ∧ w'.cell? ⟨w.heap.size + 1, 1, none⟩ = some (.string y.mag)) (go_keep)
    (first
      | (go_at_call 81; go_fit (digits_any x hx _); rintro e wa ⟨pa, ca, rfl, hN, hca1, hca2, hb⟩; have HNa := Lib.hid hN; have Hwa := Lib.hid (show Below W.heap.size W wa from Below.trans (by repeat (first | exact Hwb.out | exact Hwa.out | exact Below.refl _ _ | exact Hab.out | exact Hba.out | refine Below.drew ?_ | refine below_dr ?_)) (hb.mono (by first | exact Nat.le_refl _ | exact Hwa.out.size | exact Hwb.out.size | exact Hab.out.size | exact Hba.out.size))); (try (have Hba := Lib.hid (show Below wb.heap.size wb wa from Below.trans (by repeat (first | exact Hwb.out | exact Hwa.out | exact Below.refl _ _ | exact Hab.out | exact Hba.out | refine Below.drew ?_ | refine below_dr ?_)) (hb.mono (by first | exact Nat.le_refl _ | exact Hwa.out.size | exact Hwb.out.size | exact Hab.out.size | exact Hba.out.size))))); have HA2 := Lib.hid (HA.out.below Hwa.out (by have := Hs0.out; omega)); have HB2 := Lib.hid (HB.out.below Hwa.out (by have := Hs0.out; omega)); obtain ⟨d0, d1, _, _, _⟩ := HA2.out; obtain ⟨e0, e1, _, _, _⟩ := HB2.out; clear hb hN)
      | (go_at_call 81; go_fit (digits_any y hy _); rintro e wb ⟨pb, cb, rfl, hN, hcb1, hcb2, hb⟩; have HNb := Lib.hid hN; have Hwb := Lib.hid (show Below W.heap.size W wb from Below.trans (by repeat (first | exact Hwb.out | exact Hwa.out | exact Below.refl _ _ | exact Hab.out | exact Hba.out | refine Below.drew ?_ | refine below_dr ?_)) (hb.mono (by first | exact Nat.le_refl _ | exact Hwa.out.size | exact Hwb.out.size | exact Hab.out.size | exact Hba.out.size))); (try (have Hab := Lib.hid (show Below wa.heap.size wa wb from Below.trans (by repeat (first | exact Hwb.out | exact Hwa.out | exact Below.refl _ _ | exact Hab.out | exact Hba.out | refine Below.drew ?_ | refine below_dr ?_)) (hb.mono (by first | exact Nat.le_refl _ | exact Hwa.out.size | exact Hwb.out.size | exact Hab.out.size | exact Hba.out.size))))); have HA2 := Lib.hid (HA.out.below Hwb.out (by have := Hs0.out; omega)); have HB2 := Lib.hid (HB.out.below Hwb.out (by have := Hs0.out; omega)); obtain ⟨d0, d1, _, _, _⟩ := HA2.out; obtain ⟨e0, e1, _, _, _⟩ := HB2.out; clear hb hN)
      | (go_at_call 80; go_fit (multiply_any (absZ x) (absZ y) pa pb ca cb _ (HNa.out.below (Nat.le_refl _) (by repeat (first | exact Hwb.out | exact Hwa.out | exact Below.refl _ _ | exact Hab.out | exact Hba.out | refine Below.drew ?_ | refine below_dr ?_))) (HNb.out.below (Nat.le_refl _) (by repeat (first | exact Hwb.out | exact Hwa.out | exact Below.refl _ _ | exact Hab.out | exact Hba.out | refine Below.drew ?_ | refine below_dr ?_))) hlx.out hly.out); rintro e wc ⟨pc, cc, rfl, hN, hcc1, hcc2, hb⟩; have HNc := Lib.hid hN; have Hwc := Lib.hid (show Below W.heap.size W wc from Below.trans (by repeat (first | exact Hwb.out | exact Hwa.out | exact Below.refl _ _ | exact Hab.out | exact Hba.out | refine Below.drew ?_ | refine below_dr ?_)) (hb.mono (by first | exact Nat.le_refl _ | exact Hwa.out.size | exact Hwb.out.size | exact Hab.out.size | exact Hba.out.size))); have HA2 := Lib.hid (HA.out.below Hwc.out (by have := Hs0.out; omega)); have HB2 := Lib.hid (HB.out.below Hwc.out (by have := Hs0.out; omega)); obtain ⟨d0, d1, _, _, _⟩ := HA2.out; obtain ⟨e0, e1, _, _, _⟩ := HB2.out; clear hb hN)
      | (go_at_call 78; go_fit (number_digs _ _ pc cc _ (HNc.out.below (Nat.le_refl _) (by repeat (first | exact Hwb.out | exact Hwa.out | exact Below.refl _ _ | exact Hab.out | exact Hba.out | refine Below.drew ?_ | refine below_dr ?_))) hcc1 hcc2); rintro e w3 ⟨rfl, hb⟩; have Hb3 := Lib.hid (show Below W.heap.size W w3 from Below.trans Hwc.out (Below.trans (by repeat (first | exact Hwb.out | exact Hwa.out | exact Below.refl _ _ | exact Hab.out | exact Hba.out | refine Below.drew ?_ | refine below_dr ?_)) (hb.mono (by exact Hwc.out.size)))); have HA3 := Lib.hid (HA.out.below Hb3.out (by have := Hs0.out; omega)); have HB3 := Lib.hid (HB.out.below Hb3.out (by have := Hs0.out; omega)); have HC3 := Lib.hid (HC.out.below Hb3.out (by have := Hs0.out; omega)); obtain ⟨d0, d1, _, _, _⟩ := HA3.out; obtain ⟨e0, e1, _, _, _⟩ := HB3.out; obtain ⟨f0, f1, f2, f3, _⟩ := HC3.out; clear hb))
  all_goals
    go_wp2
    refine bodyPost_ret (v := .agg #[.bool (mkZ (!(x.neg == y.neg)) (absZ x * absZ y)).neg, .string (mkZ (!(x.neg == y.neg)) (absZ x * absZ y)).mag]) ?_ rfl ⟨rfl, ?_⟩
    · simp [results, Try.results53, go_sem, f0, f1]
    · exact ((Hb0.out.trans (Hb3.out.mono (by have := Hs0.out; omega))).setCell (by simp; omega) _).setCell (by simp; omega) _
end Go.Proofs.Ytcafeffgaokiaaa
namespace Go.Proofs.Ytcafeffgaokiaaa
open Go.RowKit Go.Shelf

theorem mulc_any (a b : Int) (ha : (canon a).mag.size ≤ 100000000) (hb : (canon b).mag.size ≤ 100000000) (w : World) :
    Calls Try.prog 53 #[.agg #[.bool (canon a).neg, .string (canon a).mag], .agg #[.bool (canon b).neg, .string (canon b).mag]] w (RetZ (canon (a * b)) w) := by
  have h := mul_any (canon a) (canon b) ha hb w
  rwa [mulZ_val, valZ_canon, valZ_canon] at h
/-- All entries are of moderate size. -/
def Small (r c : Nat) (F : Nat → Nat → Int) : Prop := ∀ i k, i < r → k < c → (canon (F i k)).mag.size ≤ 100000000

end Go.Proofs.Ytcafeffgaokiaaa
namespace Go.Proofs.Ytcafeffgaokiaaa
open Go.RowKit

end Go.Proofs.Ytcafeffgaokiaaa
namespace Go.Proofs.Ytcafeffgaokiaaa
open Go.RowKit Go.Shelf
attribute [local go_sem] Oper.semAt_some

/-- What has been yielded when j elements have. -/
def colL (G : Nat → Nat → Int) (k j : Nat) : List (Nat × Int) := (List.range j).map fun j => (j, G j k)
/-- What a round keeps: what lies below B, and the iterator's two boxes. -/
def KpCol (B Bm Bk : Nat) (W W' : World) : Prop := Below B W W' ∧ W'.heap[Bm]? = W.heap[Bm]? ∧ W'.heap[Bk]? = W.heap[Bk]?
theorem KpCol.trans {B Bm Bk : Nat} {X Y Z : World} (h : KpCol B Bm Bk X Y) (k : KpCol B Bm Bk Y Z) : KpCol B Bm Bk X Z := ⟨h.1.trans k.1, k.2.1.trans h.2.1, k.2.2.trans h.2.2⟩

end Go.Proofs.Ytcafeffgaokiaaa
namespace Go.Proofs.Ytcafeffgaokiaaa
open Go.RowKit Go.Shelf
theorem wide_fn (f : FuncId) : Fence.wide.fn f = True := rfl
attribute [local go_sem] Oper.semAt_some wide_fn

def dotN (f : Nat → Int) : Nat → Int
  | 0 => 0
  | j + 1 => dotN f j + f j
/-- Between two rounds of the sum: the number so far lies in the box B7. -/
def IPrd (w : World) (B1 : Nat) (i : Nat) (f : Nat → Int) (G : Nat → Nat → Int) (n k : Nat) (pre : List (Nat × Int)) (W : World) : Prop :=
  ∃ j, j ≤ n ∧ pre = colL G k j ∧ BoxAt W (w.heap.size + 1 + 1) (.bool (canon (dotN f j)).neg) (.string (canon (dotN f j)).mag) ∧ BoxAt W (w.heap.size + 1) (.bool false) (.string ⟨#[]⟩) ∧ Boxed W w.heap.size 3 (.int .i64 (i : Int)) ∧ Below w.heap.size w W ∧ B1 ≤ W.heap.size
theorem boxAt_grown {W W' : World} {row : Option Nat} {g : Nat} {a b : Value} (h : BoxAt W g a b) (hg : W.grownBy W' row) (hne : some g ≠ row) : BoxAt W' g a b := by
  obtain ⟨h1, h2, h3, h4, h5⟩ := h
  have hb := hg.block g h5 hne
  exact ⟨(cell_of_block hb 0).trans h1, (cell_of_block hb 1).trans h2, (frozen_of_block hb 0).trans h3, (frozen_of_block hb 1).trans h4, Nat.lt_of_lt_of_le h5 hg.size⟩
theorem turn_ge {B r : Nat} {W : World} (h : TurnT B (fun _ _ => False) r W) : B ≤ r := by
  rcases h with h | h
  · exact h.elim
  · exact h.1
theorem IPrd.abides {w : World} {B1 i n k : Nat} {f : Nat → Int} {G : Nat → Nat → Int} (hB : w.heap.size + 5 ≤ B1) : AbT (TurnT B1 (fun _ _ => False)) (IPrd w B1 i f G n k) := by
  rintro pre W W' row ⟨j, hj, hp, h7, h6, h4, hb, hs⟩ hg hr
  have hne : ∀ u, u < B1 → some u ≠ row := fun u hu e => by
    have := turn_ge (hr u e.symm); omega
  exact ⟨j, hj, hp, boxAt_grown h7 hg (hne _ (by omega)), boxAt_grown h6 hg (hne _ (by omega)), h4.kept hg (hne _ (by omega)), hb.grown hg (by omega) (fun u e => by have := turn_ge (hr u e); omega), Nat.le_trans hs hg.size⟩

theorem KpCol.put {B Bm Bk : Nat} {W : World} {l : Nat} {o' : Obj} (h0 : B ≤ l) (h1 : Bm ≠ l) (h2 : Bk ≠ l) : KpCol B Bm Bk W (W.putObj l o') :=
  ⟨⟨rfl, rfl, rfl, by simp, fun b hb => World.putObj_heap_other (by omega)⟩, World.putObj_heap_other h1, World.putObj_heap_other h2⟩
end Go.Proofs.Ytcafeffgaokiaaa
namespace Go.Proofs.Ytcafeffgaokiaaa
open Go.RowKit Go.Shelf

/-- The product of matrices. -/
def mulF (n : Nat) (F G : Nat → Nat → Int) (i k : Nat) : Int := dotN (fun j => F i j * G j k) n
end Go.Proofs.Ytcafeffgaokiaaa
namespace Go.Proofs.Ytcafeffgaokiaaa
open Go.RowKit Go.Shelf

end Go.Proofs.Ytcafeffgaokiaaa
namespace Go.Proofs.Ytcafeffgaokiaaa
open Go.RowKit Go.Shelf

theorem size_neg (a : Int) : (canon (-a)).mag.size = (canon a).mag.size := by
  unfold canon; simp
end Go.Proofs.Ytcafeffgaokiaaa
