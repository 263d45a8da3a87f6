/- The walks of matrix.column and of its iterator. A region that draws its order, inside a round: by the plain walk's laws. The walk of the closure of matrix.product. The walk of matrix.product. The walk of matrix.trace. The walk of matrix.characteristic. The walks of matrix.Check, bad and square. -/
import Derived.Test.YtmbamcpndbimaaaDoorA6
import Derived.Test.YtmbamcpndbimaaaDoorA8
import Derived.Shelf.RegionOpen
import Derived.WalkKit
import Derived.WalkSpells
import Derived.WalkLawsBesides
import Derived.TacticsInMore
import Derived.LoopNIn
import Derived.LoopIn
import Derived.Deep.CutBlock
import Derived.Deep.DeepFit
import Derived.KernelRfl
import Derived.Lib.Hide
import Derived.Outline
import Derived.OrdersIn
import Derived.OrdersHeld
import Derived.TacticsIn
import Derived.Deep.RegionHeld
namespace Go.Proofs.YtmbamcpndbimaaaDoor
open Go.RowKit Go.Shelf
attribute [local go_sem] Oper.semAt_some

def encC (x : Nat × Int) : Array Value := #[.int .i64 (x.1 : Int), .agg #[.bool (canon x.2).neg, .string (canon x.2).mag]]
/-- What has been yielded when j elements have. -/
def colL (G : Nat → Nat → Int) (k j : Nat) : List (Nat × Int) := (List.range j).map fun j => (j, G j k)
theorem colL_succ (G : Nat → Nat → Int) (k j : Nat) : colL G k (j + 1) = colL G k j ++ [(j, G j k)] := by unfold colL; rw [List.range_succ, List.map_append]; rfl
def GCol (G : Nat → Nat → Int) (n k : Nat) (pre : List (Nat × Int)) (x : Nat × Int) (_ : World) : Prop := ∃ j, j < n ∧ pre = colL G k j ∧ x = (j, G j k)
/-- What a round keeps: what lies below B, and the iterator's two boxes. -/
def KpCol (B Bm Bk : Nat) (W W' : World) : Prop := Below B W W' ∧ W'.heap[Bm]? = W.heap[Bm]? ∧ W'.heap[Bk]? = W.heap[Bk]?
theorem KpCol.trans {B Bm Bk : Nat} {X Y Z : World} (h : KpCol B Bm Bk X Y) (k : KpCol B Bm Bk Y Z) : KpCol B Bm Bk X Z := ⟨h.1.trans k.1, k.2.1.trans h.2.1, k.2.2.trans h.2.2⟩

end Go.Proofs.YtmbamcpndbimaaaDoor
namespace Go.Proofs.YtmbamcpndbimaaaDoor
open Go.RowKit

theorem op_lift {l n : Nat} {P : Program} {o : Oper} {a : Act} {w : World} {K : Act → World → Prop} {Q : Exit → Act → World → Prop} (hd : ∀ c, o.op ≠ .defer c) (h : o.wp P a w K Q) : o.wpIn (Fence.wide.inRound l) n P a w K Q := by
  unfold Oper.wp at h
  unfold Oper.wpIn
  refine ⟨fun _ _ => trivial, ?_⟩
  rw [show (Fence.wide.inRound l).round = some l from rfl, Oper.semAt_some l _ o hd]
  generalize (execOp a.eval o).run P w = r at *
  cases r with
  | ok x w' =>
    cases x <;> simp only [Oper.upon, Oper.uponIn] at h ⊢
    case value => exact h
    case skip => exact h
    case defer => exact h
    case enter f args => exact ⟨fun h => by simp [Fence.wide, Fence.inRound] at h, CallsIn.inRound l (callsIn_wide.2 h)⟩
    case row row args => exact ⟨fun h => by simp [Fence.wide, Fence.inRound] at h, fun c cs _ => let ⟨v, w', r, s⟩ := h c cs; ⟨v, w', r, stepsIn_wide.2 s⟩⟩
  | halt x w' => cases x <;> simp only [Oper.upon, Oper.uponIn] at h ⊢ <;> exact h
theorem any_lift {l n : Nat} {P : Program} {md : Region.Mode} {ops : Array Oper} {Q : Exit → Act → World → Prop} (hops : ∀ (i : Nat) (o : Oper), ops[i]? = some o → ∀ c, o.op ≠ .defer c) (hQ : ¬ LetsOut Q) :
    ∀ (fuel : Nat) (listed : Array Bool) (a : Act) (w : World), wpAny P md ops Q fuel listed a w → wpAnyIn (Fence.wide.inRound l) n P md ops Q fuel listed a w := by
  intro fuel
  induction fuel with
  | zero => intro listed a w h; exact h
  | succ fuel ih =>
    intro listed a w h
    refine ⟨h.1, fun i hi => ?_⟩
    have h2 := h.2 i hi
    unfold wpOp at h2
    unfold wpOpIn
    cases ho : ops[i]? with
    | none => rw [ho] at h2; exact ih _ _ _ h2
    | some o =>
      rw [ho] at h2
      dsimp only at h2 ⊢
      split
      · rename_i hw
        rw [if_pos hw] at h2
        rcases h2 with h3 | ⟨_, h3⟩
        · exact op_lift (hops i o ho) (Oper.wp_mono (fun a w h => ih _ a w h) h3)
        · exact absurd h3 hQ
      · rename_i hw
        rw [if_neg hw] at h2
        exact ⟨fun _ _ => trivial, ih _ _ _ h2⟩
/-- No defer statement. -/
def noDefer (ops : Array Oper) : Bool := ops.all fun o => match o.op with | .defer _ => false | _ => true
theorem noDefer_spec {ops : Array Oper} (h : noDefer ops = true) (i : Nat) (o : Oper) (ho : ops[i]? = some o) (c : Call) : o.op ≠ .defer c := by
  intro he
  have h2 := Array.all_eq_true_iff_forall_mem.1 h o (Array.mem_of_getElem? ho)
  rw [he] at h2
  cases h2
/-- A region that draws its order, inside a round: what is left to show is the plain walk's. -/
theorem region_lift {l n id : Nat} {P : Program} {ops : Array Oper} {Q : Exit → Act → World → Prop} {a : Act} {w : World} (hm : P.follows .mixedOrders = true) (hops : noDefer ops = true) (hQ : ¬ LetsOut Q)
    (h : wpAny P .any ops Q ops.size (Array.replicate ops.size false) a w.drew) : (Code.region id ops true).wpIn (Fence.wide.inRound l) n P Q a w :=
  wpIn_region_any hm (any_lift (noDefer_spec hops) hQ _ _ _ _ h)
end Go.Proofs.YtmbamcpndbimaaaDoor
namespace Go.Proofs.YtmbamcpndbimaaaDoor
open Go.RowKit Go.Shelf
theorem wide_fn (f : FuncId) : Fence.wide.fn f = True := rfl
attribute [local go_sem] Oper.semAt_some wide_fn

def dotN (f : Nat → Int) : Nat → Int
  | 0 => 0
  | j + 1 => dotN f j + f j
/-- Between two rounds of the sum: the number so far lies in the box B7. -/
def IPrd (w : World) (B1 : Nat) (i : Nat) (f : Nat → Int) (G : Nat → Nat → Int) (n k : Nat) (pre : List (Nat × Int)) (W : World) : Prop :=
  ∃ j, j ≤ n ∧ pre = colL G k j ∧ BoxAt W (w.heap.size + 1 + 1) (.bool (canon (dotN f j)).neg) (.string (canon (dotN f j)).mag) ∧ BoxAt W (w.heap.size + 1) (.bool false) (.string ⟨#[]⟩) ∧ Boxed W w.heap.size 3 (.int .i64 (i : Int)) ∧ Below w.heap.size w W ∧ B1 ≤ W.heap.size
theorem boxAt_grown {W W' : World} {row : Option Nat} {g : Nat} {a b : Value} (h : BoxAt W g a b) (hg : W.grownBy W' row) (hne : some g ≠ row) : BoxAt W' g a b := by
  obtain ⟨h1, h2, h3, h4, h5⟩ := h
  have hb := hg.block g h5 hne
  exact ⟨(cell_of_block hb 0).trans h1, (cell_of_block hb 1).trans h2, (frozen_of_block hb 0).trans h3, (frozen_of_block hb 1).trans h4, Nat.lt_of_lt_of_le h5 hg.size⟩
theorem turn_ge {B r : Nat} {W : World} (h : TurnT B (fun _ _ => False) r W) : B ≤ r := by
  rcases h with h | h
  · exact h.elim
  · exact h.1
theorem IPrd.abides {w : World} {B1 i n k : Nat} {f : Nat → Int} {G : Nat → Nat → Int} (hB : w.heap.size + 5 ≤ B1) : AbT (TurnT B1 (fun _ _ => False)) (IPrd w B1 i f G n k) := by
  rintro pre W W' row ⟨j, hj, hp, h7, h6, h4, hb, hs⟩ hg hr
  have hne : ∀ u, u < B1 → some u ≠ row := fun u hu e => by
    have := turn_ge (hr u e.symm); omega
  exact ⟨j, hj, hp, boxAt_grown h7 hg (hne _ (by omega)), boxAt_grown h6 hg (hne _ (by omega)), h4.kept hg (hne _ (by omega)), hb.grown hg (by omega) (fun u e => by have := turn_ge (hr u e); omega), Nat.le_trans hs hg.size⟩

theorem isCells_of_cell {W : World} {a : Addr} {v : Value} (hc : W.cell? a = some v) (o : Obj) (ho : W.heap[a.block]? = some o) : o.isCells = true := by
  unfold World.cell? at hc
  rw [ho] at hc
  cases o <;> simp_all [Obj.isCells]
theorem cell_turn0 {W W' : World} {row : Option Nat} {B : Nat} {a : Addr} {v : Value} (h : W.cell? a = some v) (hg : W.grownBy W' row) (hr : ∀ r, row = some r → TurnT B (fun _ _ => False) r W) : W'.heap[a.block]? = W.heap[a.block]? := by
  obtain ⟨o, ho⟩ : ∃ o, W.heap[a.block]? = some o := by
    unfold World.cell? at h
    cases e : W.heap[a.block]? with
    | none => simp [e] at h
    | some o => exact ⟨o, rfl⟩
  exact hg.block _ (Array.getElem?_eq_some_iff.1 ho).1 (fun e => by
    rcases hr _ e.symm with h0 | ⟨_, o2, ho2, hc2⟩
    · exact h0
    · rw [ho] at ho2; cases ho2
      rw [isCells_of_cell h o ho] at hc2; cases hc2)
theorem boxAt_turn {W W' : World} {row : Option Nat} {B g : Nat} {a b : Value} (h : BoxAt W g a b) (hg : W.grownBy W' row) (hr : ∀ r, row = some r → TurnT B (fun _ _ => False) r W) : BoxAt W' g a b := by
  obtain ⟨h1, h2, h3, h4, h5⟩ := h
  have hb := cell_turn0 h1 hg hr
  exact ⟨(cell_of_block hb 0).trans h1, (cell_of_block hb 1).trans h2, (frozen_of_block hb 0).trans h3, (frozen_of_block hb 1).trans h4, Nat.lt_of_lt_of_le h5 hg.size⟩
theorem KpCol.put {B Bm Bk : Nat} {W : World} {l : Nat} {o' : Obj} (h0 : B ≤ l) (h1 : Bm ≠ l) (h2 : Bk ≠ l) : KpCol B Bm Bk W (W.putObj l o') :=
  ⟨⟨rfl, rfl, rfl, by simp, fun b hb => World.putObj_heap_other (by omega)⟩, World.putObj_heap_other h1, World.putObj_heap_other h2⟩
theorem boxp_set {w : World} {g : Nat} {a b : Value} (h : BoxAt w g a b) (x y : Value) : BoxAt ((w.setCell ⟨g, 0, none⟩ x).setCell ⟨g, 1, none⟩ y) g x y := by
  obtain ⟨h0, h1, h2, h3, h4⟩ := h
  refine ⟨?_, ?_, ?_, ?_, ?_⟩ <;> simp [go_sem, h0, h1, h2, h3, h4]
theorem boxp_far {w : World} {g : Nat} {a b : Value} (h : BoxAt w g a b) {p : Addr} (hp : g ≠ p.block) (v : Value) : BoxAt (w.setCell p v) g a b := by
  obtain ⟨h1, h2, h3, h4, h5⟩ := h
  have hb := Below.heap_setCell w p v g hp
  exact ⟨(cell_of_block hb 0).trans h1, (cell_of_block hb 1).trans h2, (frozen_of_block hb 0).trans h3, (frozen_of_block hb 1).trans h4, by simpa using h5⟩
theorem keeps_of_below {B : Nat} {X Z : World} (h : Below X.heap.size X Z) : KeepsFrom B X Z := ⟨h.size, fun k _ _ hk _ => (h.block k (Array.getElem?_eq_some_iff.1 hk).1).trans hk⟩
theorem prd_next {w X Z : World} {B1 i n k j : Nat} {f : Nat → Int} {G : Nat → Nat → Int} {a : Act} (hb : Below X.heap.size X Z) (hj : j < n) (h7 : BoxAt X (w.heap.size + 1 + 1) (.bool (canon (dotN f j)).neg) (.string (canon (dotN f j)).mag)) (h6 : BoxAt X (w.heap.size + 1) (.bool false) (.string ⟨#[]⟩)) (h4 : Boxed X w.heap.size 3 (.int .i64 (i : Int))) (hw : Below w.heap.size w X) (hs : B1 ≤ X.heap.size) (h5 : w.heap.size + 5 ≤ B1) :
    postT B1 (KpCol w.heap.size (w.heap.size + 1 + 1 + 1) (w.heap.size + 1 + 1 + 1 + 1)) (IPrd w B1 i f G n k) (fun _ _ _ => False) (colL G k j ++ [(j, G j k)]) X .normal a ((Z.setCell ⟨w.heap.size + 1 + 1, 0, none⟩ (.bool (canon (dotN f (j + 1))).neg)).setCell ⟨w.heap.size + 1 + 1, 1, none⟩ (.string (canon (dotN f (j + 1))).mag)) := by
  have hz := hb.size
  have hwz : Below w.heap.size w Z := hw.trans (hb.mono hw.size)
  have hxz : Below w.heap.size X Z := hb.mono hw.size
  refine ⟨(keeps_of_below hb).trans (((KeepsOthers.setCell _ _ _).from _).trans ((KeepsOthers.setCell _ _ _).from _)), ⟨(hxz.setCell (by simp; omega) _).setCell (by simp; omega) _, ?_, ?_⟩, j + 1, by omega, (colL_succ G k j).symm, boxp_set (h7.below hb h7.2.2.2.2) _ _, ?_, ?_, (hwz.setCell (by simp; omega) _).setCell (by simp; omega) _, by simp; omega⟩
  · rw [Below.heap_setCell _ _ _ _ (by simp), Below.heap_setCell _ _ _ _ (by simp)]
    exact hb.block _ (by omega)
  · rw [Below.heap_setCell _ _ _ _ (by simp; omega), Below.heap_setCell _ _ _ _ (by simp; omega)]
    exact hb.block _ (by omega)
  · exact boxp_far (boxp_far (h6.below hb h6.2.2.2.2) (by simp) _) (by simp) _
  · unfold Boxed
    rw [Below.heap_setCell _ _ _ _ (by simp; omega), Below.heap_setCell _ _ _ _ (by simp; omega)]
    exact (hb.block _ h4.lt).trans h4
theorem colL_inj {G : Nat → Nat → Int} {k a b : Nat} (h : colL G k a = colL G k b) : a = b := by
  have := congrArg List.length h
  simpa [colL] using this

end Go.Proofs.YtmbamcpndbimaaaDoor
namespace Go.Proofs.YtmbamcpndbimaaaDoor
open Go.RowKit Go.Shelf

/-- The product of matrices. -/
def mulF (n : Nat) (F G : Nat → Nat → Int) (i k : Nat) : Int := dotN (fun j => F i j * G j k) n
/-- All sums that a product forms are of moderate size. -/
def SmallP (r n c : Nat) (F G : Nat → Nat → Int) : Prop := ∀ i k, i < r → k < c → (∀ j, j ≤ n → (canon (dotN (fun j => F i j * G j k) j)).mag.size ≤ 100000000) ∧ ∀ j, j < n → (canon (F i j * G j k)).mag.size ≤ 100000000

end Go.Proofs.YtmbamcpndbimaaaDoor
namespace Go.Proofs.YtmbamcpndbimaaaDoor
open Go.RowKit Go.Shelf

end Go.Proofs.YtmbamcpndbimaaaDoor
namespace Go.Proofs.YtmbamcpndbimaaaDoor
open Go.RowKit Go.Shelf

/-- The matrices of the rounds, and their coefficients. -/
def chrM (n : Nat) (A : Nat → Nat → Int) : Nat → Nat → Nat → Int
  | 0 => fun i k => if i = k then 1 else 0
  | j + 1 => fun i k => mulF n A (chrM n A j) i k + if i = k then (-(dotN (fun i => mulF n A (chrM n A j) i i) n)) / ((j + 1 : Nat) : Int) else 0
def chrC (n : Nat) (A : Nat → Nat → Int) (j : Nat) : Int := (-(dotN (fun i => mulF n A (chrM n A j) i i) n)) / ((j + 1 : Nat) : Int)
/-- The coefficients when j rounds are done. -/
def chrP (n : Nat) (A : Nat → Nat → Int) (j m : Nat) : Int := if m = n then 1 else if n ≤ m + j then chrC n A (n - 1 - m) else 0
/-- All numbers are of moderate size. -/
structure ChrOk (n : Nat) (A : Nat → Nat → Int) : Prop where
  a : Small n n A
  m : ∀ j, j < n → Small n n (chrM n A j)
  p : ∀ j, j < n → SmallP n n n A (chrM n A j)
  s : ∀ j, j < n → Small n n (mulF n A (chrM n A j))
  t : ∀ j, j < n → ∀ i, i ≤ n → (canon (dotN (fun i => mulF n A (chrM n A j) i i) i)).mag.size ≤ 100000000
  c : ∀ j, j < n → (canon (chrC n A j)).mag.size ≤ 100000000
/-- What characteristic returns. -/
def RetChr (n : Nat) (A : Nat → Nat → Int) (w : World) (e : Ending) (w' : World) : Prop :=
  ∃ g q, e = .returned (.tuple #[.slice (some ⟨g, 0, none⟩) (n + 1) (n + 1), .slice (some ⟨q, 0, none⟩) n n]) ∧ ZAt w' g (n + 1) (chrP n A n) ∧ OwnMat w' w.heap.size q n n (chrM n A (n - 1)) ∧ Below w.heap.size w w'

theorem negc_any (a : Int) (ha : (canon a).mag.size ≤ 100000000) (w : World) :
    Calls Tryd.prog 56 #[.agg #[.bool (canon a).neg, .string (canon a).mag]] w (RetZ (canon (-a)) w) := by
  have h := neg_any (canon a) ha w
  rwa [negZ_val, valZ_canon] at h
theorem size_neg (a : Int) : (canon (-a)).mag.size = (canon a).mag.size := by
  unfold canon; simp
theorem quo_canon (a k : Int) (hk : 0 < k) : quoZ (canon a) (canon k) = canon (a / k) := by
  obtain ⟨K, hK⟩ : ∃ K : Nat, k = K := ⟨k.natAbs, by omega⟩
  subst hK
  have hKp : 0 < K := by omega
  unfold quoZ
  rw [absZ_canon, absZ_canon]
  have e1 : (canon (K : Int)).neg = false := by show decide ((K : Int) < 0) = false; rw [decide_eq_false_iff_not]; omega
  have eN : ((K : Int)).natAbs = K := by omega
  rw [e1, eN]
  by_cases ha : a < 0
  · have e2 : (canon a).neg = true := decide_eq_true ha
    rw [e2, if_neg (by decide)]
    obtain ⟨N, hN⟩ : ∃ N : Nat, a = -(N : Int) := ⟨a.natAbs, by omega⟩
    subst hN
    have eM : (-(N : Int)).natAbs = N := by omega
    rw [eM]
    have hdm := Nat.div_add_mod N K
    have hlt := Nat.mod_lt N hKp
    generalize N / K = q at *
    generalize N % K = r at *
    subst hdm
    by_cases hr : r = 0
    · rw [if_pos hr, mkZ_val]
      subst hr
      have h := (Int.ediv_emod_unique (a := -((K * q + 0 : Nat) : Int)) (b := (K : Int)) (r := 0) (q := -(q : Int)) (by omega)).2 ⟨by rw [Int.mul_neg]; push_cast; omega, by omega, by omega⟩
      rw [h.1]; rfl
    · rw [if_neg hr, mkZ_val]
      have h := (Int.ediv_emod_unique (a := -((K * q + r : Nat) : Int)) (b := (K : Int)) (r := (K : Int) - r) (q := -((q : Int) + 1)) (by omega)).2 ⟨by rw [Int.mul_neg, Int.mul_add]; push_cast; omega, by omega, by omega⟩
      rw [h.1]; rfl
  · have e2 : (canon a).neg = false := decide_eq_false ha
    rw [e2, if_pos rfl, mkZ_val]
    obtain ⟨N, hN⟩ : ∃ N : Nat, a = N := ⟨a.natAbs, by omega⟩
    subst hN
    rw [show ((N : Int)).natAbs = N from by omega, if_neg (by decide), Int.natCast_ediv]
theorem divc_any (a k : Int) (hk : 0 < k) (hk2 : k < 4294967296) (ha : (canon a).mag.size ≤ 100000000) (w : World) :
    Calls Tryd.prog 57 #[.agg #[.bool (canon a).neg, .string (canon a).mag], .agg #[.bool (canon k).neg, .string (canon k).mag]] w (RetDiv (canon (a / k)) (remZ (canon a) (canon k)) w) := by
  have h := div_short (canon a) (canon k) ha (Nat.le_trans (canon_size k (k := 4) (by omega)) (by decide)) (by rw [absZ_canon]; omega) (by rw [absZ_canon]; omega) w
  rwa [quo_canon a k hk] at h

end Go.Proofs.YtmbamcpndbimaaaDoor
namespace Go.Proofs.YtmbamcpndbimaaaDoor
open Go.RowKit Go.Shelf

theorem GM.head {m : GM} {w : World} {p : Option Addr} (h : m.At w p) (h0 : 0 < m.r) : ∃ b off q c, p = some ⟨b, off, none⟩ ∧ b < w.heap.size ∧ w.cell? ⟨b, off, none⟩ = some (.slice q (m.L 0) c) := by
  obtain ⟨H, h1, h2⟩ := h
  rcases h1 with h | ⟨b, off, rfl, hlt, hc⟩
  · omega
  · exact ⟨b, off, (H 0).1, (H 0).2, rfl, hlt, by simpa using hc 0 h0 0 (by omega)⟩
def GM.sq (m : GM) : Int := if m.chk ≠ 0 then 1 else if m.r ≠ m.L 0 then 11 else 0
theorem GM.chk_zero {m : GM} (h : m.chk = 0) : 0 < m.r ∧ 0 < m.L 0 ∧ m.r ≤ 32 ∧ m.L 0 ≤ 32 ∧ (∀ i, i < m.r → m.L i = m.L 0) ∧ ∀ i, i < m.r → ∀ k, k < m.L i → m.Z i k = canon (valZ (m.Z i k)) := by
  unfold GM.chk at h
  split at h
  · cases h
  split at h
  · cases h
  split at h
  · cases h
  split at h
  · cases h
  rename_i h1 h2 h3 h4
  rw [Bool.not_eq_true, anyN_false] at h3 h4
  refine ⟨by omega, by omega, by omega, by omega, fun i hi => by simpa using h3 i hi, fun i hi k hk => ?_⟩
  have h5 := h4 i hi
  rw [anyN_false] at h5
  have h6 := h5 k hk
  simpa [okZ] using h6
/-- The numbers of a matrix. -/
def GM.F (m : GM) (i k : Nat) : Int := valZ (m.Z i k)
theorem GM.mat {m : GM} {w : World} {p : Option Addr} (h : m.At w p) (hc : m.chk = 0) : MatF w p m.r (m.L 0) m.F := by
  obtain ⟨H, h1, h2⟩ := h
  obtain ⟨_, _, _, _, hL, hZ⟩ := GM.chk_zero hc
  refine ⟨H, h1.congr fun i hi _ _ => by rw [hL i hi], fun i hi => ?_⟩
  have h3 := h2 i hi
  have hz := hZ i hi
  rw [hL i hi] at h3 hz
  refine h3.congr fun k hk j _ => ?_
  show zg (m.Z i k) j = zc (valZ (m.Z i k)) j
  unfold zg zc
  rw [← hz k hk]
/-- A matrix of numbers, as a list of lists. -/
def gmF (r c : Nat) (F : Nat → Nat → Int) : GM := ⟨r, fun _ => c, fun i k => canon (F i k)⟩
theorem gmF_at {w : World} {p : Option Addr} {r c : Nat} {F : Nat → Nat → Int} (h : MatF w p r c F) : (gmF r c F).At w p := h
theorem gmF_chk (r c : Nat) (F : Nat → Nat → Int) (h1 : 0 < r) (h2 : r ≤ 32) (h3 : 0 < c) (h4 : c ≤ 32) : (gmF r c F).chk = 0 := by
  unfold GM.chk gmF
  dsimp only
  rw [if_neg (by omega), if_neg (by omega), if_neg (by rw [anyN_true]; rintro ⟨k, _, h⟩; simp at h), if_neg ?_]
  rw [anyN_true]
  rintro ⟨i, _, h⟩
  rw [anyN_true] at h
  obtain ⟨k, _, h⟩ := h
  simp [okZ, valZ_canon] at h
theorem gmF_F (r c : Nat) (F : Nat → Nat → Int) (i k : Nat) : (gmF r c F).F i k = F i k := valZ_canon _
theorem gmF_fit (r c : Nat) (F : Nat → Nat → Int) (hr : r ≤ 1000000) (hc : c ≤ 1000000) (h : Small r c F) : (gmF r c F).Fit := ⟨hr, fun i hi => ⟨hc, fun k hk => h i k hi hk⟩⟩

end Go.Proofs.YtmbamcpndbimaaaDoor
